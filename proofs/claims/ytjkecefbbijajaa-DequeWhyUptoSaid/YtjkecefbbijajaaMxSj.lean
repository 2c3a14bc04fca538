/-
  The picks of a play and its accesses: the walk of `seat`.
-/
import Derived.Test.YtjkecefbbijajaaMxSi
set_option linter.unusedVariables false
set_option linter.unusedSimpArgs false
set_option linter.unusedSectionVars false
namespace Go.Mx

def rangeL {α : Type} (n : Nat) (f : Nat → α) : List α := (List.range n).map f
theorem rangeL_len {α : Type} (n : Nat) (f : Nat → α) : (rangeL n f).length = n := by simp [rangeL]
theorem rangeL_get {α : Type} {n : Nat} {f : Nat → α} {i : Nat} (h : i < n) : (rangeL n f)[i]? = some (f i) := by
  unfold rangeL
  rw [List.getElem?_map, List.getElem?_range h]; rfl
theorem rangeL_congr {α : Type} {n : Nat} {f g : Nat → α} (h : ∀ i, i < n → f i = g i) : rangeL n f = rangeL n g := by
  unfold rangeL
  exact List.map_congr_left fun i hi => h i (List.mem_range.1 hi)
theorem rangeL_set {n : Nat} {f : Nat → Bool} {a : Nat} (h : a < n) : (rangeL n f).set a true = rangeL n fun m => f m || decide (m = a) := by
  refine List.ext_getElem? fun i => ?_
  by_cases hi : i < n
  · rw [rangeL_get hi]
    by_cases e : a = i
    · subst e
      rw [List.getElem?_set_self (by rw [rangeL_len]; exact hi)]; simp
    · rw [List.getElem?_set_ne e, rangeL_get hi]
      have : decide (i = a) = false := decide_eq_false (fun z => e z.symm)
      rw [this, Bool.or_false]
  · rw [List.getElem?_eq_none (by rw [List.length_set, rangeL_len]; omega), List.getElem?_eq_none (by rw [rangeL_len]; omega)]
theorem rangeL_succ {α : Type} (n : Nat) (f : Nat → α) : rangeL (n + 1) f = rangeL n f ++ [f n] := by
  unfold rangeL
  rw [List.range_succ, List.map_append]; rfl
def plcL (W : List Nat) (cs : List DCl) (n : Nat) : List Int := rangeL n fun m => if idleB W cs m = true then -1 else (plc W cs m : Int)
theorem covB_take {cs : List DCl} {i : Nat} {c : DCl} (h : cs[i]? = some c) (m : Nat) : covB (cs.take (i + 1)) m = (covB (cs.take i) m || covC c m) := by
  rw [List.take_add_one, h]
  show covB (cs.take i ++ [c]) m = _
  unfold covB
  rw [List.any_append]
  simp

theorem seat_spec {r1 : Den kapiDequeRun} {thieves : Int} {pkS : Sl} {h : Heap} {cs : List DCl} {picks : List Int} (hcs : Arr h KCl r1.1 cs) (hp : Arr h ki pkS picks) (t0 : 0 ≤ thieves) (t3 : thieves ≤ 3) (hn : picks.length ≤ 1048576) (hcn : cs.length ≤ 1048576)
    (hb : ∀ (i : Nat) c, cs[i]? = some c → 0 ≤ dBeg c ∧ dBeg c < (picks.length : Int) ∧ dEnd c < (picks.length : Int) ∧ (dEnd c < 0 ∨ dBeg c ≤ dEnd c))
    {c1 : Int → Int → Heap → (Int → Heap → Prop) → Prop} (i1 : ∀ {x n h Q}, law3_mod.M x n h Q → c1 x n h Q) {Q : Sl → Heap → Prop} (hQ : ∀ s h', New h h' ki s (plcL (whos thieves picks) cs picks.length) → Q s h') : law3_seat.M c1 r1 thieves pkS h Q := by
  have hcl := hcs.1
  have hpl := hp.1
  have wt : w64 (1 + thieves) = 1 + thieves := by rw [w64_of] <;> omega
  refine make_new (k := .bool) (by omega) (Int.le_refl _) (by omega) (by omega) fun bl h3 n3 l3 c3' a3 => ?_
  rw [show ((pkS.len : Int)).toNat = picks.length by omega] at n3
  have n3' : New h h3 .bool bl (rangeL picks.length fun m => covB (cs.take 0) m) := by
    have e : List.replicate picks.length (Kd.zero .bool) = rangeL picks.length fun m => covB (cs.take 0) m := by
      refine List.ext_getElem? fun i => ?_
      by_cases hi : i < picks.length
      · rw [rangeL_get hi, List.getElem?_replicate, if_pos hi]; rfl
      · rw [List.getElem?_eq_none (by rw [List.length_replicate]; omega), List.getElem?_eq_none (by rw [rangeL_len]; omega)]
    rw [← e]; exact n3
  refine Loop.up cs.length (fun s => s.1) (fun i s k => New h k .bool bl (rangeL picks.length fun m => covB (cs.take i) m)) rfl n3' ?_
  rintro i ⟨i', u⟩ k go hi hc nk hgo
  dsimp only at hc; subst hc
  refine dcase (fun g => ?_) (fun g => ?_)
  · have g : (i : Int) < (r1.1.len : Int) := g
    have hil : i < cs.length := by omega
    have hx : cs[i]? = some cs[i] := by simp
    obtain ⟨ac, hac⟩ := hcs.addr (by omega)
    refine ⟨⟨Int.natCast_nonneg i, g⟩, ?_⟩
    rw [hac]
    simp only [deref]
    rw [Int.toNat_natCast]
    refine (hcs.le nk.le).ldAt (k := KCl) hac hx rfl ?_
    obtain ⟨b1, b2, b3, b4⟩ := hb i _ hx
    have hct := fun m => covB_take hx m
    generalize cs[i] = c at *
    have nxt : ∀ k' : Heap, New h k' .bool bl (rangeL picks.length fun m => covB (cs.take (i + 1)) m) → law3_seat.j1 go ((i : Int), u) () k' := fun k' n' => hgo hil _ _ (w64_nat (n := cs.length) hil (by omega)) n'
    obtain ⟨b, hbb⟩ : ∃ b : Nat, dBeg c = (b : Int) := ⟨(dBeg c).toNat, by omega⟩
    by_cases w0 : dWho c = 0
    · -- the picks of an owner's call
      obtain ⟨U, hU, hU2⟩ : ∃ U : Nat, (if dEnd c < 0 then (picks.length : Int) else dEnd c + 1) = (U : Int) ∧ b ≤ U ∧ U ≤ picks.length := by
        by_cases z : dEnd c < 0
        · exact ⟨picks.length, by rw [if_pos z], by omega, Nat.le_refl _⟩
        · exact ⟨(dEnd c + 1).toNat, by rw [if_neg z]; omega, by omega, by omega⟩
      refine Loop.up (U - b) (fun s => s.1 - (b : Int)) (fun j s k' => New h k' .bool bl (rangeL picks.length fun m => covB (cs.take i) m || (decide (b ≤ m) && decide (m < b + j)))) (by show (if dBeg c < 0 then 0 else dBeg c) - (b : Int) = 0; rw [if_neg (by omega)]; omega) ?_ ?_
      · have : (fun m => covB (cs.take i) m || (decide (b ≤ m) && decide (m < b + 0))) = fun m => covB (cs.take i) m := funext fun m => by
          by_cases z : b ≤ m
          · rw [decide_eq_false (show ¬ m < b + 0 by omega)]; simp
          · rw [decide_eq_false z]; simp
        rw [this]; exact nk
      rintro j ⟨(at' : Int), u2⟩ k' go2 hj hc2 nj hgo2
      have hc2 : at' - (b : Int) = (j : Int) := hc2
      obtain rfl : at' = ((b + j : Nat) : Int) := by omega
      have stop : ¬ b + j < U → law3_seat.j3 bl go ((i : Int), u) go2 (((b + j : Nat) : Int), u2) (false, ()) k' := fun z => ⟨fun z => (by cases z), fun _ => by
        have hj2 : b + j = U := by omega
        refine nxt k' ?_
        have : (rangeL picks.length fun m => covB (cs.take i) m || (decide (b ≤ m) && decide (m < b + j))) = rangeL picks.length fun m => covB (cs.take (i + 1)) m := rangeL_congr fun m hm => by
          rw [hct m]
          congr 1
          unfold covC
          rw [decide_eq_true w0, Bool.true_and, hbb]
          rw [Bool.eq_iff_iff, Bool.and_eq_true, Bool.and_eq_true, Bool.or_eq_true, decide_eq_true_eq, decide_eq_true_eq, decide_eq_true_eq, decide_eq_true_eq, decide_eq_true_eq]
          by_cases z : dEnd c < 0
          · rw [if_pos z] at hU; omega
          · rw [if_neg z] at hU; omega
        rw [← this]; exact nj⟩
      have cont : b + j < U → law3_seat.j3 bl go ((i : Int), u) go2 (((b + j : Nat) : Int), u2) (true, ()) k' := fun z => ⟨fun _ => by
        have hbl := nj.len
        rw [rangeL_len] at hbl
        refine ⟨⟨Int.natCast_nonneg _, show ((b + j : Nat) : Int) < (bl.len : Int) by omega⟩, nj.set (i := ((b + j : Nat) : Int)) (y := true) (Int.natCast_nonneg _) (by omega) rfl rfl fun k2 n2 x2 => ?_⟩
        refine hgo2 (by omega) _ _ (by show w64 (((b + j : Nat) : Int) + 1) - (b : Int) = _; rw [w64_of] <;> omega) ?_
        rw [Int.toNat_natCast, rangeL_set (by omega)] at n2
        have : (fun m => (covB (cs.take i) m || (decide (b ≤ m) && decide (m < b + j))) || decide (m = b + j)) = fun m => covB (cs.take i) m || (decide (b ≤ m) && decide (m < b + (j + 1))) := funext fun m => by
          rw [Bool.or_assoc]
          congr 1
          rw [Bool.eq_iff_iff, Bool.or_eq_true, Bool.and_eq_true, Bool.and_eq_true, decide_eq_true_eq, decide_eq_true_eq, decide_eq_true_eq, decide_eq_true_eq]
          omega
        rw [this] at n2
        exact n2, fun z => (by cases z)⟩
      refine dcase (fun _ => ?_) (fun z => absurd w0 z)
      refine dcase (fun z => ?_) (fun z => stop (by have z : ¬ ((b + j : Nat) : Int) < (pkS.len : Int) := z; omega))
      have z : ((b + j : Nat) : Int) < (pkS.len : Int) := z
      refine dcase (fun y => cont ?_) (fun y => ?_)
      · have y : ((b + j : Nat) : Int) ≤ dEnd c := y
        rw [if_neg (by omega)] at hU; omega
      · have y : ¬ ((b + j : Nat) : Int) ≤ dEnd c := y
        show law3_seat.j3 bl go ((i : Int), u) go2 (((b + j : Nat) : Int), u2) (decide (dEnd c < 0), ()) k'
        by_cases q : dEnd c < 0
        · rw [decide_eq_true q]
          rw [if_pos q] at hU
          exact cont (by omega)
        · rw [decide_eq_false q]
          rw [if_neg q] at hU
          exact stop (by omega)
    · refine Loop.up 0 (fun _ => 0) (fun _ _ k' => k' = k) rfl rfl ?_
      rintro j ⟨at', u2⟩ k' go2 hj hc2 rfl hgo2
      refine dcase (fun z => absurd z w0) (fun _ => ⟨fun z => (by cases z), fun _ => nxt _ ?_⟩)
      have : (fun m => covB (cs.take (i + 1)) m) = fun m => covB (cs.take i) m := funext fun m => by
        rw [hct m]
        unfold covC
        rw [decide_eq_false w0, Bool.false_and, Bool.or_false]
      rw [this]; exact nk
  have g : ¬ (i : Int) < (r1.1.len : Int) := g
  obtain rfl : i = cs.length := by omega
  rw [List.take_length] at nk
  clear hgo g
  -- the places
  have hbl := nk.len
  rw [rangeL_len] at hbl
  refine Loop.up picks.length (fun s => s.2.2.1) (fun i s k' => New k k' ki s.2.1 (plcL (whos thieves picks) cs i) ∧ s.1 = (plc (whos thieves picks) cs i : Int)) rfl ⟨New.nil k ki, rfl⟩ ?_
  rintro i ⟨(ix : Int), pl, i', u3⟩ k' go3 hi hc ⟨np, hix⟩ hgo
  have hle := np.le
  dsimp only at hc hix np; subst hc
  have hpl2 := np.len
  unfold plcL at hpl2
  rw [rangeL_len] at hpl2
  refine dcase (fun g => ?_) (fun g => ?_)
  · have g : (i : Int) < (pkS.len : Int) := g
    have hil : i < picks.length := by omega
    have hx : picks[i]? = some picks[i] := by simp
    have hW := whos_get (thieves := thieves) hx
    have hr := mod_range (x := picks[i]) (n := 1 + thieves) (by omega)
    have hpc := plc_le (whos thieves picks) cs i
    have hps : plc (whos thieves picks) cs (i + 1) = plc (whos thieves picks) cs i + if idleB (whos thieves picks) cs i = true then 0 else 1 := rfl
    have hsn : plcL (whos thieves picks) cs (i + 1) = plcL (whos thieves picks) cs i ++ [if idleB (whos thieves picks) cs i = true then -1 else (plc (whos thieves picks) cs i : Int)] := rangeL_succ _ _
    refine ⟨⟨Int.natCast_nonneg i, g⟩, (hp.le (nk.le.trans hle)).at (i := ((i : Nat) : Int)) (Int.natCast_nonneg _) g rfl fun y hy => ?_⟩
    rw [Int.toNat_natCast, hx] at hy
    have hy := Option.some.inj hy
    subst hy
    rw [wt]
    refine i1 (lmod_spec (by omega) (by omega) ?_)
    have yes : idleB (whos thieves picks) cs i = true → law3_seat.j7 go3 (ix, (pl, ((i : Int), u3))) (true, ()) k' := fun q => by
      rw [if_pos q] at hps hsn
      refine ⟨fun _ => np.app (x := (-1 : Int)) rfl rfl (by omega) fun t k2 n2 => ?_, fun z => (by cases z)⟩
      refine hgo hil _ _ (w64_nat (n := picks.length) hil (by omega)) ⟨by rw [hsn]; exact n2, by show ix = _; rw [hps, hix]; rfl⟩
    have no : idleB (whos thieves picks) cs i = false → law3_seat.j7 go3 (ix, (pl, ((i : Int), u3))) (false, ()) k' := fun q => by
      rw [if_neg (by rw [q]; decide)] at hps hsn
      refine ⟨fun z => (by cases z), fun _ => np.app (x := ix) rfl rfl (by omega) fun t k2 n2 => ?_⟩
      refine hgo hil _ _ (w64_nat (n := picks.length) hil (by omega)) ⟨by rw [hsn, ← hix]; exact n2, by show w64 (ix + 1) = _; rw [hps, hix, w64_of] <;> omega⟩
    refine dcase (fun z => ?_) (fun z => ?_)
    · have z : picks[i] % (1 + thieves) = 0 := z
      have hW0 : (whos thieves picks)[i]? = some 0 := by rw [hW, z]; rfl
      refine ⟨⟨Int.natCast_nonneg _, show (i : Int) < (bl.len : Int) by omega⟩, ?_⟩
      have hbr := (nk.arr.le hle).at (i := ((i : Nat) : Int)) (sz := 1) (K := fun b => law3_seat.j7 go3 (ix, (pl, ((i : Int), u3))) (!b, ()) k') (Int.natCast_nonneg _) (by omega) rfl fun y hy => ?_
      · exact hbr
      rw [Int.toNat_natCast, rangeL_get hil] at hy
      have hy := Option.some.inj hy
      subst hy
      have hid : idleB (whos thieves picks) cs i = !covB cs i := by
        unfold idleB; rw [decide_eq_true hW0, Bool.true_and]
      cases e : covB cs i with
      | true => exact no (by rw [hid, e]; rfl)
      | false => exact yes (by rw [hid, e]; rfl)
    · have z : ¬ picks[i] % (1 + thieves) = 0 := z
      refine no ?_
      unfold idleB
      have : ¬ (whos thieves picks)[i]? = some 0 := fun q => by
        rw [hW] at q
        have := Option.some.inj q
        omega
      rw [decide_eq_false this, Bool.false_and]
  · have g : ¬ (i : Int) < (pkS.len : Int) := g
    obtain rfl : i = picks.length := by omega
    exact hQ pl k' (np.base nk.le)
end Go.Mx
