/-
  Slices of slices, all of one's own.
-/
import Derived.Test.YtndhbkhhehleaaaMxAr
set_option linter.unusedVariables false
set_option linter.unusedSimpArgs false
namespace Go.Mx

structure Nest (h0 h : Heap) (k : Kd) (o : Sl) (els : List Sl) (xss : List (List (Den k))) : Prop where
  out : New h0 h .sl o els
  len : els.length = xss.length
  row : ∀ (i : Nat) sl xs, els[i]? = some sl → xss[i]? = some xs → New h0 h k sl xs
  sep : List.Pairwise Apart (o :: els)
def fpN (o : Sl) (els : List Sl) : Nat → Prop := fun x => blkOf o x ∨ ∃ sl ∈ els, blkOf sl x

theorem Nest.row' {h0 h k o els xss} (n : Nest h0 h k o els xss) {sl : Sl} (hs : sl ∈ els) : ∃ xs, New h0 h k sl xs := by
  obtain ⟨i, e⟩ := List.mem_iff_getElem?.1 hs
  have hi : i < xss.length := by rw [← n.len]; exact (List.getElem?_eq_some_iff.1 e).1
  exact ⟨xss[i], n.row i sl _ e (by simp)⟩
theorem Nest.fresh {h0 h k o els xss} (n : Nest h0 h k o els xss) {x : Nat} (hx : fpN o els x) : h0 x = none := by
  rcases hx with hx | ⟨sl, hs, hx⟩
  · exact n.out.new x hx
  · obtain ⟨xs, q⟩ := n.row' hs
    exact q.new x hx
end Go.Mx
