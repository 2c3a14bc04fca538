/-
  What the laws of layer 21 ask for.
-/
import Derived.Test.YtppehoailhjdfabMxBh
set_option linter.unusedVariables false
set_option linter.unusedSimpArgs false
set_option linter.unusedSectionVars false
namespace Go.Mx

theorem lmod_spec : ModC law21_mod.M := by
  intro x n h Q h0 h1 hQ
  have hr := mod_rangeB (x := x) h0
  refine ⟨by omega, fun e => ?_, fun e => ?_⟩
  · have e : Int.tmod x n < 0 := of_decide_eq_true e
    rcases tmod_emodB x n h0 with ⟨_, q⟩ | ⟨q, _⟩
    · show Q (w64 (Int.tmod x n + n)) h
      rw [q, w64_of (by omega) (by omega)]; exact hQ
    · omega
  · have e : ¬ Int.tmod x n < 0 := of_decide_eq_false e
    rcases tmod_emodB x n h0 with ⟨q, _⟩ | ⟨_, q⟩
    · omega
    · show Q (Int.tmod x n) h
      rw [q]; exact hQ
def BoundC (c : Int → Int → Int → Heap → ((Int × Wait) → Heap → Prop) → Prop) : Prop := ∀ {size used room : Int} {h : Heap} {Q : (Int × Wait) → Heap → Prop}, Q (used % 17 + size % 9, (used % 17, (1 + room % 64, ()))) h → c size used room h Q
theorem bounded_spec {cm} (iM : ModC cm) : BoundC (law21_bounded.M cm) := by
  intro size used room h Q hQ
  refine iM (by omega) (by omega) (iM (by omega) (by omega) (iM (by omega) (by omega) ?_))
  rw [w64_of (by omega) (by omega), w64_of (by omega) (by omega)]
  exact hQ

/-! ### few -/
def fewP (f : List AMv → List AMv) (ls : List (List AMv)) : List (List AMv) := if ls.length = 0 then [[]] else (ls.take 8).map fun l => f (l.take 1000)
theorem fewP_len {f : List AMv → List AMv} {ls : List (List AMv)} : 1 ≤ (fewP f ls).length ∧ (fewP f ls).length ≤ 8 := by
  unfold fewP
  split
  · decide
  · rw [List.length_map, List.length_take]; omega

/-! ### progress -/

end Go.Mx
