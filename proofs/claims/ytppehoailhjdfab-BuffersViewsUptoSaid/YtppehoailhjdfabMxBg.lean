/-
  buffers.Play: its walk.
-/
import Derived.Test.YtppehoailhjdfabMxBf
set_option linter.unusedVariables false
set_option linter.unusedSimpArgs false
set_option linter.unusedSectionVars false
namespace Go.Mx

abbrev KRun : Kd := .pair .sl (.pair .sl (.pair .sl (.pair .sl (.pair .bool .nil))))
/-- A run in memory of its own. -/
structure RunR (h0 h : Heap) (r : Den KRun) (n : Nat) (s : PB) (els wls : List Sl) (dn : Bool) : Prop where
  e : Nest h0 h KEf r.1 els s.e
  w : Nest h0 h KWt r.2.1 wls ((List.range n).map s.m.q)
  c : New h0 h ki r.2.2.1 s.m.cs
  l : New h0 h KAcc r.2.2.2.1 s.m.lg
  dn : r.2.2.2.2.1 = dn
  ew : ∀ x, fpN r.1 els x → ¬ fpN r.2.1 wls x
  cx : ∀ x, blkOf r.2.2.1 x → ¬ fpN r.1 els x ∧ ¬ fpN r.2.1 wls x
  lx : ∀ x, blkOf r.2.2.2.1 x → ¬ fpN r.1 els x ∧ ¬ fpN r.2.1 wls x ∧ ¬ blkOf r.2.2.1 x
def zeroRun : Den KRun := (Sl.none, (Sl.none, (Sl.none, (Sl.none, (false, ())))))
def PlayC (c : Int → Int → Int → Sl → Sl → Heap → ((Den KRun × (Int × Unit)) → Heap → Prop) → Prop) : Prop := ∀ {size used room : Int} {lists picks : Sl} {h : Heap} {ls : List (List AMv)} {ps : List Int} {Q : (Den KRun × (Int × Unit)) → Heap → Prop}, Arr2 h KMv lists ls → Arr h ki picks ps →
  (judgedP size used room ls ps.length ≠ 0 → Q (zeroRun, (judgedP size used room ls ps.length, ())) h) →
  (judgedP size used room ls ps.length = 0 → ∀ r h' els wls, RunR h h' r ls.length (PB.run ls (PB.start ls.length room.toNat size used.toNat) ps) els wls (PB.done ls (PB.run ls (PB.start ls.length room.toNat size used.toNat) ps) ls.length) → Q (r, (0, ())) h') → c size used room lists picks h Q
theorem judgedP_ok {size used room : Int} {ls : List (List AMv)} {np : Nat} (h : judgedP size used room ls np = 0) : 0 ≤ size ∧ size ≤ 1048576 ∧ 0 ≤ used ∧ used ≤ size ∧ 1 ≤ ls.length ∧ ls.length ≤ 8 ∧ 1 ≤ room ∧ room ≤ 64 ∧ np ≤ 1048576 ∧ ∀ l ∈ ls, l.length ≤ 4096 := by
  unfold judgedP at h
  split at h
  · cases h
  split at h
  · cases h
  split at h
  · cases h
  split at h
  · cases h
  rename_i h1 h2 h3 h4
  refine ⟨by omega, by omega, by omega, by omega, by omega, by omega, by omega, by omega, by omega, fun l hl => ?_⟩
  refine Nat.le_of_not_lt fun q => h4 (List.any_eq_true.2 ⟨l, hl, decide_eq_true q⟩)
theorem getD_le {α : Type} {ls : List (List α)} {n : Nat} (h : ∀ l ∈ ls, l.length ≤ n) (k : Nat) : (ls.getD k []).length ≤ n := by
  rw [List.getD_eq_getElem?_getD]
  cases e : ls[k]? with
  | none => exact Nat.zero_le _
  | some l => exact h l (List.mem_of_getElem? e)
theorem run_succ {ls : List (List AMv)} {s : PB} {ps : List Int} {j : Nat} (h : j < ps.length) : PB.run ls s (ps.take (j + 1)) = PB.step ls (PB.run ls s (ps.take j)) ps[j] := by
  unfold PB.run
  rw [take_succ' ps h, List.foldl_append]; rfl
theorem mix_get {α : Type} {xs ys : List α} (e : xs.length = ys.length) {i j : Nat} (h : i ≤ j) : (mix i xs ys)[j]? = ys[j]? := by
  unfold mix
  by_cases q : i ≤ xs.length
  · rw [List.getElem?_append_right (by rw [List.length_take]; omega), List.length_take, Nat.min_eq_left q, List.getElem?_drop]
    congr 1; omega
  · rw [List.getElem?_eq_none (by rw [List.length_append, List.length_take, List.length_drop]; omega), List.getElem?_eq_none (by omega)]

section
variable {cJ : Int → Int → Int → Sl → Sl → Heap → (Int → Heap → Prop) → Prop} {cN : Int → Int → Int → Heap → (Den KPl → Heap → Prop) → Prop} {cU : Option Addr → Int → Heap → (Unit → Heap → Prop) → Prop} {cM : Int → Int → Heap → (Int → Heap → Prop) → Prop}
  {cF : Option Addr → Int → Heap → (Bool → Heap → Prop) → Prop} {cV : Option Addr → Int → Heap → (Option Addr → Heap → Prop) → Prop} {cA : Option Addr → AMv → Heap → (Eff → Heap → Prop) → Prop} {cW : Option Addr → Int → Heap → (Sl → Heap → Prop) → Prop} {cC cL : Option Addr → Heap → (Sl → Heap → Prop) → Prop}
  (iJ : JudgedC cJ) (iN : BNewC cN) (iU : UseC cU) (iM : ModC cM) (iF : FlushC cF) (iV : ViewC cV) (iA : VActC cA) (iW : WaitC cW) (iC : CellsC cC) (iL : LogC cL)
include iM iF iV iA iW iC iL
include iJ iN iU
end

end Go.Mx
