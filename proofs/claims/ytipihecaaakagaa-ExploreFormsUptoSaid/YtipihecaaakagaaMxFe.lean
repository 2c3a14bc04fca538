/-
  ExploreRun: the reference's row and play.
-/
import Derived.Test.YtipihecaaakagaaMxFd
set_option linter.unusedVariables false
set_option linter.unusedSimpArgs false
set_option linter.unusedSectionVars false
namespace Go.Mx

def rowE (xss : List (List Ac)) (ps : List Int) (j : Nat) : Den kref22Act := ((ps[j]?).getD 0, (xAt xss ((ps[j]?).getD 0).toNat (cnt (ps.take j) ((ps[j]?).getD 0).toNat), ()))
def rowP (xss : List (List Ac)) (ps : List Int) (n : Nat) : List (Den kref22Act) := (List.range n).map (rowE xss ps)
theorem rowP_succ (xss : List (List Ac)) (ps : List Int) (n : Nat) : rowP xss ps (n + 1) = rowP xss ps n ++ [rowE xss ps n] := by
  unfold rowP
  rw [List.range_succ, List.map_append]; rfl
theorem rowP_len (xss : List (List Ac)) (ps : List Int) (n : Nat) : (rowP xss ps n).length = n := by simp [rowP]
theorem rowP_at {xss : List (List Ac)} {ps : List Int} {n j : Nat} (h : j < n) : (rowP xss ps n)[j]? = some (rowE xss ps j) := by
  unfold rowP
  rw [List.getElem?_map, List.getElem?_range h]; rfl
theorem cnt_le (ps : List Int) (j i : Nat) : cnt (ps.take j) i ≤ ps.length := by
  have h1 := List.length_filter_le (fun p => decide (p = (i : Int))) (ps.take j)
  have h2 := List.length_take_le' j ps
  unfold cnt; omega

section
variable {h : Heap} {s : Sc} {t : Sl} {bs ps : List Int} {xss : List (List Ac)} (r : ScR h s bs xss) (hp : Arr h ki t ps) (hn : ps.length ≤ 1048576) (hc : chkE s.1 bs.length xss = 0) (hS : ScriptP (xss.map List.length) ps)
include r hp hn hc hS

end

end Go.Mx
