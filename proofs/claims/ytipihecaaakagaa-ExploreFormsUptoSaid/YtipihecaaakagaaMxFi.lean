/-
  ExploreRun: the law.
-/
import Derived.Test.YtipihecaaakagaaMxFh
set_option linter.unusedVariables false
set_option linter.unusedSimpArgs false
namespace Go.Mx

def runP (sz : Int) (bs : List Int) (xss : List (List Ac)) (ps : List Int) (e : Int) : PlS := if e = 0 then playP sz bs xss ps else ([], [])

/-- What a run tells is not long. -/
theorem runP_small {sz : Int} {bs : List Int} {xss : List (List Ac)} {ps : List Int} {e : Int} (hr : Rdy sz bs.length xss ps e) (hn : ps.length ≤ 1048576) (hx : xss.length ≤ 1048576) :
    (runP sz bs xss ps e).2.length ≤ 1048576 ∧ (∀ r ∈ (runP sz bs xss ps e).2, r.length ≤ 1048576) ∧ (runP sz bs xss ps e).1.length ≤ 1048576 := by
  unfold runP
  split
  · rename_i d
    subst d
    obtain ⟨a, b⟩ := hr.ok
    obtain ⟨_, z1, z2, _⟩ := chkE_ok a
    have hin := b.1
    rw [List.length_map] at hin
    refine ⟨by rw [playP_len]; exact hx, fun r hr => ?_, by have := playP_cells (xss := xss) z2 ps; omega⟩
    obtain ⟨i, hi⟩ := List.mem_iff_getElem?.1 hr
    have hil : i < xss.length := by rw [← playP_len (sz := sz) (bs := bs) ps]; exact (List.getElem?_eq_some_iff.1 hi).1
    have := playP_cnt (sz := sz) (bs := bs) hin hil
    rw [hi] at this
    dsimp only [Option.getD] at this
    have h2 := cnt_le ps ps.length i
    rw [List.take_length] at h2
    omega
  · exact ⟨Nat.zero_le _, fun r hr => (by cases hr), Nat.zero_le _⟩

end Go.Mx
