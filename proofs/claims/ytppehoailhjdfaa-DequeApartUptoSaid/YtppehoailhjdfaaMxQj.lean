/-
  deque.Play: what a play comes to.
-/
import Derived.Test.YtppehoailhjdfaaMxQi
import Derived.Test.YtppehoailhjdfaaMxQd
set_option linter.unusedVariables false
set_option linter.unusedSimpArgs false
set_option linter.unusedSectionVars false
namespace Go.Mx

/-! ### small things -/
theorem tmod_emod (x n : Int) (h : 0 < n) : Int.tmod x n < 0 ∧ Int.tmod x n + n = x % n ∨ 0 ≤ Int.tmod x n ∧ Int.tmod x n = x % n := by
  rcases Int.lt_or_le x 0 with hx | hx
  · have h1 : Int.tmod x n = -(Int.tmod (-x) n) := by rw [Int.neg_tmod]; omega
    have h2 : Int.tmod (-x) n = (-x) % n := Int.tmod_eq_emod_of_nonneg (by omega)
    have h3 := Int.emod_nonneg (-x) (b := n) (by omega)
    have h4 := Int.emod_lt_of_pos (-x) h
    have h5 := Int.emod_nonneg x (b := n) (by omega)
    have h6 := Int.emod_lt_of_pos x h
    have h7 := Int.emod_def (-x) n
    have h8 := Int.emod_def x n
    by_cases z : (-x) % n = 0
    · right
      have : x % n = 0 := by
        have h9 : x % n = n * ((-x) / n) * -1 + x % n - x + x - n * ((-x) / n) * -1 := by omega
        have h10 : (-x) = n * ((-x) / n) := by omega
        have h11 : x = n * (-((-x) / n)) := by rw [Int.mul_neg]; omega
        rw [h11]; exact Int.mul_emod_right _ _
      omega
    · left
      refine ⟨by omega, ?_⟩
      -- x % n = n - (-x) % n
      have h10 : x = n * (-((-x) / n) - 1) + (n - (-x) % n) := by rw [Int.mul_sub, Int.mul_neg]; omega
      have h11 : x % n = (n - (-x) % n) := by
        conv => lhs; rw [h10]
        rw [Int.mul_add_emod_self_left]
        exact Int.emod_eq_of_lt (by omega) (by omega)
      omega
  · right
    have h2 : Int.tmod x n = x % n := Int.tmod_eq_emod_of_nonneg hx
    have h5 := Int.emod_nonneg x (b := n) (by omega)
    omega
theorem mod_range {x n : Int} (h : 0 < n) : 0 ≤ x % n ∧ x % n < n := ⟨Int.emod_nonneg x (by omega), Int.emod_lt_of_pos x h⟩
theorem cellsGo_le (most : Int) : ∀ (k : Nat) (n c : Int), 1 ≤ c → c ≤ most → cellsGo most k n c ≤ n + 4 * (most - c) + 1 + most
  | 0, n, c, h1, h2 => by rw [cellsGo]; omega
  | k + 1, n, c, h1, h2 => by
    rw [cellsGo]
    by_cases q : c < most
    · rw [if_pos q]
      by_cases r : most < 2 * c
      · rw [if_pos r, cellsGo_end (by omega)]; omega
      · rw [if_neg r]
        have := cellsGo_le most k (n + 1 + 2 * c) (2 * c) (by omega) (by omega)
        omega
    · rw [if_neg q]; omega
theorem cellsOf_bound {low most : Int} (h : CapE low most) : 4 + low ≤ cellsOf low most ∧ cellsOf low most ≤ 1048576 := by
  obtain ⟨h1, h2, h3⟩ := h
  have a := cellsGo_ge most 4096 (4 + low) low (by omega)
  have b := cellsGo_le most 4096 (4 + low) low h1 h2
  unfold cellsOf
  omega


/-! ### what is left -/
structure RestOk (cs : List Int) : Prop where
  t0 : 0 ≤ gt cs 0
  bn : gt cs 1 ≤ 1000000000
  a3 : 3 ≤ cA cs
  c1 : 1 ≤ cC cs
  ln : cA cs + cC cs < (cs.length : Int)
  sz : cs.length ≤ 1048576
theorem DG.rest {most sz N : Int} {cs : List Int} {own : DOp} (g : DG most sz N cs own) (hn : 0 ≤ newer own) (hb : gt cs 1 ≤ Bl cs own + 1) (hN : N ≤ 900000000) : RestOk cs := by
  obtain ⟨g1, g2, g3, g4, g5, g6, g7, g8, g9, g10, g11, g12, g13⟩ := g
  exact ⟨g2, by omega, g7, g8, by omega, by omega⟩
theorem gt_get {cs : List Int} {x : Int} (h0 : 0 ≤ x) (h : x < (cs.length : Int)) : cs[x.toNat]? = some (gt cs x) := by
  unfold gt
  rw [List.getElem?_eq_getElem (by omega)]; rfl
theorem range_map_snoc {f : Nat → Int} {n : Nat} : (List.range (n + 1)).map f = (List.range n).map f ++ [f n] := by
  rw [List.range_succ, List.map_append]; rfl

/-! ### the error, the beginning -/
def judgeE (low most : Int) (todos : List DTd) (thieves : Int) (picks : List Int) : Int :=
  if 4096 < todos.length ∨ 1048576 < picks.length then 2 else if ¬ CapE low most then 30 else if thieves < 0 ∨ 3 < thieves then 3 else if ∃ t ∈ todos, t.1 ≠ 0 ∧ t.1 ≠ 1 then 31 else 0

/-- New over an arena that is not watched. -/
theorem dnew0_spec {h0 h : Heap} {b : Nat} {c l : Sl} {sz low most : Int} {cL cR cS cC cN} {v : Value} (k : ArC cL cR cS cC cN v b) (o : Ar h0 h b c l sz [] [] 0 false) (hz : sz ≤ 1048576) (hc : CapE low most) (hs : 4 + low ≤ sz)
    {c1 : Int → Int → Heap → (Bool → Heap → Prop) → Prop} (i1 : ∀ {a b h Q}, deque_capsOK.M a b h Q → c1 a b h Q) {Q : (Den K2 × (Int × Unit)) → Heap → Prop} (hQ : ∀ c' l' h', Ar h0 h' b c' l' sz (laid low []) [] 0 false → Step (fpA b c l) (fpA b c' l') h h' → Q ((0, (most, ())), (0, ())) h') : deque_New.M c1 cR cS v low most h Q := by
  obtain ⟨q1, q2, q3⟩ := hc
  refine ⟨k.iface, fun e => (by rw [k.some'] at e; cases e), fun _ => i1 (caps_spec (fun q => ⟨fun e => (by cases e), fun _ => ?_⟩) (fun q => absurd ⟨q1, q2, q3⟩ q))⟩
  have w1 : w64 (4 + low) = 4 + low := by rw [w64_of] <;> omega
  rw [w1]
  refine k.reserve o (Nat.zero_le _) (show (0 : Int) ≤ sz by omega) hz (fun e => absurd e (by omega)) (fun _ e => absurd e (by simp; omega)) fun c' l' h2 _ _ o2 s2 => ⟨fun e => absurd rfl (of_decide_eq_true e), fun _ => ?_⟩
  have w2 : w64 ((([] : List Int).length : Int) + 2) = 2 := by rw [w64_of] <;> simp
  have w3 : w64 ((([] : List Int).length : Int) + 3) = 3 := by rw [w64_of] <;> simp
  have hlen : ((([] : List Int) ++ List.replicate (4 + low).toNat (0 : Int)).length : Int) = 4 + low := by simp; omega
  dsimp only
  rw [w2, w3]
  refine k.store o2 (Nat.zero_le _) (fun e => absurd ⟨by omega, by rw [hlen]; omega⟩ e) fun l3 h3 _ o3 s3 => ⟨fun e => absurd rfl (of_decide_eq_true e), fun _ => ?_⟩
  refine k.store o3 (Nat.zero_le _) (fun e => absurd ⟨by omega, by rw [List.length_set, hlen]; omega⟩ e) fun l4 h4 _ o4 s4 => ⟨fun e => absurd rfl (of_decide_eq_true e), fun _ => ?_⟩
  exact hQ c' l4 h4 o4 ((s2.trans s3).trans s4)

/-- Where a play begins. -/
def ps0 (low most : Int) (todos : List DTd) (thieves : Int) : PS :=
  { m := { sz := cellsOf low most, cs := laid low [], lg := [], who := 0, wt := true }, todos := todos, acts := List.replicate (1 + thieves).toNat (DOp.zero, -1), calls := [] }
def whos (thieves : Int) (picks : List Int) : List Nat := picks.map fun x => (x % (1 + thieves)).toNat
theorem laid_len (low : Int) (h : 1 ≤ low) : ((laid low []).length : Int) = 4 + low := by
  unfold laid
  rw [List.length_set, List.length_set]
  simp; omega
theorem ps0_ok {low most : Int} {todos : List DTd} {thieves : Int} (hc : CapE low most) (ht : 0 ≤ thieves) : PsOk (ps0 low most todos thieves) 0 := by
  have hb := cellsOf_bound hc
  refine ⟨⟨Nat.le_refl _, ?_, hb.2⟩, fun a ha => ?_, fun a ha => ?_, Nat.le_refl _⟩
  · show ((laid low []).length : Int) ≤ cellsOf low most
    rw [laid_len low hc.1]; exact hb.1
  · rw [(List.mem_replicate.1 ha).2]; exact ⟨.zero, by decide⟩
  · rw [(List.mem_replicate.1 ha).2]; show (-1 : Int) < 0; decide
theorem run_ok {most : Int} : ∀ (ws : List Nat) {p : PS} {n N : Nat}, PsOk p N → (∀ w ∈ ws, w < p.acts.length) → PsOk (p.run most n ws) (N + 2 * ws.length) ∧ (p.run most n ws).acts.length = p.acts.length
  | [], p, n, N, h, _ => ⟨h, rfl⟩
  | w :: ws, p, n, N, h, hw => by
    have h1 := h.step (most := most) (k := (n : Int)) (hw w (by simp))
    have h2 := run_ok (most := most) ws (n := n + 1) h1.1 (fun x hx => by rw [h1.2]; exact hw x (by simp [hx]))
    refine ⟨?_, h2.2.trans h1.2⟩
    have : N + 2 + 2 * ws.length = N + 2 * (w :: ws).length := by simp only [List.length_cons]; omega
    rw [← this]; exact h2.1

end Go.Mx
