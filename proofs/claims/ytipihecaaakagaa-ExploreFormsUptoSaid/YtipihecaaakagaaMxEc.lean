/-
  What moved, back, marked, sameCells and alike come to, of scenes.
-/
import Derived.Test.YtipihecaaakagaaMxEb
set_option linter.unusedVariables false
set_option linter.unusedSimpArgs false
namespace Go.Mx

/-- As many elements. -/
def Like {α : Type} (xss yss : List (List α)) : Prop := xss.map List.length = yss.map List.length
theorem Like.refl {α : Type} (xss : List (List α)) : Like xss xss := rfl
theorem Like.len {α : Type} {xss yss : List (List α)} (h : Like xss yss) : xss.length = yss.length := by
  have := congrArg List.length h
  simpa using this
theorem Like.at {α : Type} {xss yss : List (List α)} (h : Like xss yss) {i : Nat} {xs ys : List α} (a : xss[i]? = some xs) (b : yss[i]? = some ys) : xs.length = ys.length := by
  have : (xss.map List.length)[i]? = (yss.map List.length)[i]? := by rw [h]
  rw [List.getElem?_map, List.getElem?_map, a, b] at this
  exact Option.some.inj this
theorem Like.set {α : Type} {xss yss : List (List α)} (h : Like xss yss) {i : Nat} {xs ys : List α} (a : yss[i]? = some ys) (e : xs.length = ys.length) : Like xss (yss.set i xs) := by
  unfold Like at *
  rw [h]
  apply List.ext_getElem?
  intro j
  simp only [List.getElem?_map, List.getElem?_set]
  by_cases c : i = j
  · subst c
    rw [if_pos rfl, if_pos (List.getElem?_eq_some_iff.1 a).1, a]
    simp [e]
  · rw [if_neg c]

def Small (bs : List Int) (xss : List (List Ac)) : Prop := bs.length ≤ 1048576 ∧ xss.length ≤ 1048576 ∧ ∀ xs ∈ xss, xs.length ≤ 1048576
theorem Small.at {bs : List Int} {xss : List (List Ac)} (h : Small bs xss) {i : Nat} {xs : List Ac} (e : xss[i]? = some xs) : xs.length ≤ 1048576 := h.2.2 xs (List.mem_of_getElem? e)

theorem w64_up {i n : Nat} (h : i < n) (hn : n ≤ 1048576) : w64 ((i : Int) + 1) = ((i + 1 : Nat) : Int) := by rw [w64_of] <;> omega



theorem mix_at {α : Type} {xs ys : List α} (e : xs.length = ys.length) {i : Nat} (h : i < xs.length) : (mix i xs ys)[i]? = ys[i]? := by
  unfold mix
  rw [List.getElem?_append_right (by simp; omega), List.getElem?_drop, List.length_take, Nat.min_eq_left (by omega), Nat.sub_self, Nat.add_zero]
def fpS (c : Sc) (cls : List Sl) : Nat → Prop := fun x => blkOf c.2.1 x ∨ ∃ sl ∈ cls, blkOf sl x


theorem sameCells_spec {a b : Sl} {h : Heap} {xs : List Int} (ha : Arr h ki a xs) (hb : Arr h ki b xs) (hn : xs.length ≤ 1048576) {Q : Bool → Heap → Prop} (hQ : Q true h) : law22_sameCells.M a b h Q := by
  have hl : a.len = b.len := by rw [← ha.1, ← hb.1]
  have hla : a.len = xs.length := ha.1.symm
  refine ⟨fun c => absurd (of_decide_eq_true c) (by omega), fun _ => ?_⟩
  refine Loop.up a.len (fun s => s.1) (fun i s h' => h' = h) rfl rfl ?_
  rintro i ⟨j, u⟩ h' go hi hc hN hgo
  dsimp only at hc; subst hc; subst hN
  refine ⟨fun c => ?_, fun c => hQ⟩
  have c : (i : Int) < (a.len : Int) := of_decide_eq_true c
  have c' : i < a.len := by omega
  refine ⟨⟨by omega, c⟩, ?_⟩
  obtain ⟨aa, an, am⟩ := a
  cases aa with
  | none => have := ha.2.2; dsimp only at this c'; omega
  | some aa =>
  refine ⟨⟨by omega, by omega⟩, ?_⟩
  obtain ⟨ba, bn, bm⟩ := b
  cases ba with
  | none => have := hb.2.2; dsimp only at this hl c'; omega
  | some ba =>
  have hlt : i < xs.length := by rw [ha.1]; exact c'
  refine ⟨xs[i], cellsAt_el ha.2.2 (by simp [hlt]), xs[i], cellsAt_el hb.2.2 (by simp [hlt]), fun d => absurd rfl (of_decide_eq_true d), fun d => ?_⟩
  exact hgo c' _ _ (w64_up hlt hn) rfl



end Go.Mx
