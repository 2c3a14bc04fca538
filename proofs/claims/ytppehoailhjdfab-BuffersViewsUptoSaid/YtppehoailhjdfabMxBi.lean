/-
  What the laws of layer 21 ask for.
-/
import Derived.Test.YtppehoailhjdfabMxBh
set_option linter.unusedVariables false
set_option linter.unusedSimpArgs false
set_option linter.unusedSectionVars false
namespace Go.Mx

def BoundC (c : Int → Int → Int → Heap → ((Int × Wait) → Heap → Prop) → Prop) : Prop := ∀ {size used room : Int} {h : Heap} {Q : (Int × Wait) → Heap → Prop}, Q (used % 17 + size % 9, (used % 17, (1 + room % 64, ()))) h → c size used room h Q
theorem sameWaits_spec {a b : Sl} {h : Heap} {xs : List Wait} (ha : Arr h KWt a xs) (hb : Arr h KWt b xs) (hn : xs.length ≤ 1000000000) {Q : Bool → Heap → Prop} (hQ : Q true h) : law21_sameWaits.M a b h Q := by
  have h1 := ha.1
  have h2 := hb.1
  refine ⟨fun e => absurd (of_decide_eq_true e) (by omega), fun _ => ?_⟩
  refine Loop.up xs.length (fun s => s.1) (fun i _ g => g = h) rfl rfl ?_
  rintro i ⟨i', u⟩ g go hi hc rfl hgo
  dsimp only at hc; subst hc
  refine ⟨fun e => ?_, fun _ => hQ⟩
  have e : (i : Int) < (a.len : Int) := of_decide_eq_true e
  have hlt : i < xs.length := by omega
  obtain ⟨aa, an, ac⟩ := a
  obtain ⟨ba, bn, bc⟩ := b
  dsimp only at h1 h2 e
  cases aa with
  | none => obtain ⟨a, e⟩ := ha.addr (by dsimp only; omega); cases e
  | some aa =>
  cases ba with
  | none => obtain ⟨a, e⟩ := hb.addr (by dsimp only; omega); cases e
  | some ba =>
  refine ⟨⟨by omega, by dsimp only; omega⟩, ⟨by omega, by dsimp only; omega⟩, ha.atA (i := (i : Int)) (by omega) (by omega) rfl fun x hx => hb.atA (i := (i : Int)) (by omega) (by omega) rfl fun y hy => ?_⟩
  rw [hx] at hy
  cases hy
  refine ⟨fun d => ?_, fun _ => hgo hlt _ _ (by show w64 ((i : Int) + 1) = _; rw [w64_of] <;> omega) rfl⟩
  rw [eqK_refl KWt x rfl] at d
  cases d

/-! ### few -/
def fewP (f : List AMv → List AMv) (ls : List (List AMv)) : List (List AMv) := if ls.length = 0 then [[]] else (ls.take 8).map fun l => f (l.take 1000)
theorem fewP_len {f : List AMv → List AMv} {ls : List (List AMv)} : 1 ≤ (fewP f ls).length ∧ (fewP f ls).length ≤ 8 := by
  unfold fewP
  split
  · decide
  · rw [List.length_map, List.length_take]; omega

/-! ### progress -/

end Go.Mx
