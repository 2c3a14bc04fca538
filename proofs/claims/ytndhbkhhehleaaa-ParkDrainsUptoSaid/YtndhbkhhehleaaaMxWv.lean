/-
  The law ParkHalts.
-/
import Derived.Test.YtndhbkhhehleaaaMxWu
set_option linter.unusedVariables false
set_option linter.unusedSimpArgs false
set_option linter.unusedSectionVars false
namespace Go.Mx

def oneL (sl : Nat) : List Int := (List.range sl).map fun (k : Nat) => (k : Int) + 1
def rndL (sl : Nat) : Nat → List Int
  | 0 => []
  | t + 1 => rndL sl t ++ oneL sl
theorem oneL_succ (sl : Nat) : oneL (sl + 1) = oneL sl ++ [(sl : Int) + 1] := by
  unfold oneL
  rw [List.range_succ, List.map_append]; rfl
theorem oneL_len (sl : Nat) : (oneL sl).length = sl := by unfold oneL; simp
theorem rndL_len (sl : Nat) : ∀ t, (rndL sl t).length = t * sl
  | 0 => by simp [rndL]
  | t + 1 => by rw [rndL, List.length_append, rndL_len sl t, oneL_len, Nat.succ_mul]
theorem whos_app (s : Int) (a b : List Int) : whos s (a ++ b) = whos s a ++ whos s b := List.map_append ..
theorem whos_zero (s : Int) (o : Nat) : whos s (List.replicate o 0) = List.replicate o 0 := by
  unfold whos
  rw [List.map_replicate, Int.zero_emod]; rfl
theorem whos_one {sl P : Nat} (hP : sl + 1 = P) : whos (sl : Int) (oneL sl) = (List.range sl).map (· + 1) := by
  unfold whos oneL
  rw [List.map_map]
  refine List.map_congr_left fun k hk => ?_
  have := List.mem_range.1 hk
  show (((k : Int) + 1) % (1 + (sl : Int))).toNat = k + 1
  rw [Int.emod_eq_of_lt (by omega) (by omega)]; omega
def RoundsC (c : Sl → Int → Int → Int → Heap → (Sl → Heap → Prop) → Prop) : Prop := ∀ {h : Heap} {pk : Sl} {ps : List Int} {o sl t : Nat} {Q : Sl → Heap → Prop}, Arr h ki pk ps → ps.length ≤ 10000000 → o ≤ 10000000 → sl ≤ 100 → t ≤ 10000000 → t * sl ≤ 10000000 → (∀ s h', New h h' ki s (ps ++ List.replicate o 0 ++ rndL sl t) → Q s h') → c pk (o : Int) (sl : Int) (t : Int) h Q
theorem rounds_spec : RoundsC law9_rounds.M := by
  intro h pk ps o sl t Q hp hl ho hs ht hts hQ
  have pl := hp.1
  refine New.mk0 fun p h1 n1 => ?_
  refine n1.apps (hp.le n1.le) rfl rfl (by show (0 + pk.len) * 8 ≤ _; omega) fun s2 h2 n2 => ?_
  rw [List.nil_append] at n2
  refine Loop.up o (fun s => s.2.1) (fun i x k => New h k ki x.1 (ps ++ List.replicate i 0)) rfl (by show New h h2 ki s2 (ps ++ []); rw [List.append_nil]; exact n2) ?_
  rintro i ⟨s3, i', u⟩ k go hi hc n3 hgo
  dsimp only at hc n3; subst hc
  have l3 := n3.len
  rw [List.length_append, List.length_replicate] at l3
  refine dcase (fun d => ?_) (fun d => ?_)
  · have d : (i : Int) < (o : Int) := d
    refine n3.app (x := (0 : Int)) rfl rfl (by omega) fun s4 h4 n4 => hgo (by omega) _ _ (by show w64 ((i : Int) + 1) = _; rw [w64_of] <;> omega) ?_
    show New h h4 ki s4 (ps ++ List.replicate (i + 1) 0)
    rw [List.replicate_succ', ← List.append_assoc]
    exact n4
  · have d : ¬ (i : Int) < (o : Int) := d
    obtain rfl : i = o := by omega
    clear hgo go d hi
    refine Loop.up t (fun s => s.2.1) (fun m x k => New h k ki x.1 (ps ++ List.replicate i 0 ++ rndL sl m)) rfl (by show New h k ki s3 (_ ++ []); rw [List.append_nil]; exact n3) ?_
    rintro m ⟨s5, m', u5⟩ k5 go hm hc n5 hgo
    dsimp only at hc n5; subst hc
    refine dcase (fun d => ?_) (fun d => ?_)
    · have d : (m : Int) < (t : Int) := d
      have ml : (rndL sl m).length ≤ 10000000 := by
        rw [rndL_len]
        exact Nat.le_trans (Nat.mul_le_mul_right sl (by omega : m ≤ t)) hts
      refine Loop.up sl (fun s => s.2.1 - 1) (fun j x k => New h k ki x.1 (ps ++ List.replicate i 0 ++ rndL sl m ++ oneL j)) rfl (by show New h k5 ki s5 (_ ++ oneL 0); rw [show oneL 0 = [] from rfl, List.append_nil]; exact n5) ?_
      rintro j ⟨s6, j', u6⟩ k6 go6 hj hc n6 hgo6
      dsimp only at hc n6
      obtain rfl : j' = (j : Int) + 1 := by omega
      have l6 := n6.len
      rw [List.length_append, List.length_append, List.length_append, List.length_replicate, oneL_len] at l6
      refine dcase (fun d => ?_) (fun d => ?_)
      · have d : (j : Int) + 1 ≤ (sl : Int) := d
        refine n6.app (x := ((j : Int) + 1)) rfl rfl (by omega) fun s7 h7 n7 => hgo6 (by omega) _ _ (by show w64 ((j : Int) + 1 + 1) - 1 = _; rw [w64_of (by omega) (by omega)]; omega) ?_
        show New h h7 ki s7 (ps ++ List.replicate i 0 ++ rndL sl m ++ oneL (j + 1))
        rw [oneL_succ, ← List.append_assoc]
        exact n7
      · have d : ¬ (j : Int) + 1 ≤ (sl : Int) := d
        obtain rfl : j = sl := by omega
        refine hgo (by omega) _ _ (by show w64 ((m : Int) + 1) = _; rw [w64_of] <;> omega) ?_
        show New h k6 ki s6 (ps ++ List.replicate i 0 ++ rndL j (m + 1))
        rw [rndL, ← List.append_assoc]
        exact n6
    · have d : ¬ (m : Int) < (t : Int) := d
      obtain rfl : m = t := by omega
      exact hQ s5 k5 n5
structure HaltE (P : Nat) (s : PkS) : Prop where
  wm : s.wm = .idle
  dn : DNc s = 1
  sl : SLc s = 0
  f0 : FLc s 0 = 0
  ha : ∀ i : Nat, 1 ≤ i → i < P → s.sm i = .halt ∧ FLc s (i : Int) = 0
end Go.Mx
