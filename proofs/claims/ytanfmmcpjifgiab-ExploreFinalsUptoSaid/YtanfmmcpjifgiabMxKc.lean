/-
  slices.Sort of a short list.
-/
import Derived.Test.YtanfmmcpjifgiabMxFe
set_option linter.unusedVariables false
set_option linter.unusedSimpArgs false
set_option linter.unusedSectionVars false
namespace Go.Mx

theorem dcs {p : Prop} [Decidable p] {A B : Prop} (h1 : p → A) (h2 : ¬ p → B) : (decide p = true → A) ∧ (decide p = false → B) := ⟨fun e => h1 (of_decide_eq_true e), fun e => h2 (of_decide_eq_false e)⟩
theorem bcs {b : Bool} {A B : Prop} (h1 : b = true → A) (h2 : b = false → B) : (b = true → A) ∧ (b = false → B) := ⟨h1, h2⟩

/-- Two elements are read. -/
theorem Arr.two {h : Heap} {s : Sl} {xs : List Int} (c : Arr h ki s xs) {i j : Int} (i0 : 0 ≤ i) (i1 : i < (s.len : Int)) (j0 : 0 ≤ j) (j1 : j < (s.len : Int)) {K : Int → Int → Prop} (hK : ∀ x y, xs[i.toNat]? = some x → xs[j.toNat]? = some y → K x y) :
    (0 ≤ i ∧ i < (s.len : Int)) ∧ deref s.a fun a => (0 ≤ j ∧ j < (s.len : Int)) ∧ deref s.a fun b => ld ki h (a.add (i.toNat * 1)) fun x => ld ki h (b.add (j.toNat * 1)) fun y => K x y := by
  refine ⟨⟨i0, i1⟩, ?_⟩
  have q1 := c.at (K := fun x => xs[i.toNat]? = some x) i0 i1 (sz := 1) rfl fun x hx => hx
  have q2 := c.at (K := fun x => xs[j.toNat]? = some x) j0 j1 (sz := 1) rfl fun x hx => hx
  revert q1 q2
  cases s.a with
  | none => intro q1; exact q1.elim
  | some a =>
    intro ⟨x, a1, a2⟩ ⟨y, b1, b2⟩
    exact ⟨⟨j0, j1⟩, x, a1, y, b1, hK x y a2 b2⟩

theorem list_split {A B : List Int} {x y : Int} : (A ++ y :: x :: B)[A.length + 1]? = some x ∧ (A ++ y :: x :: B)[A.length]? = some y ∧ ((A ++ y :: x :: B).set (A.length + 1) y).set A.length x = A ++ x :: y :: B := by
  refine ⟨by rw [List.getElem?_append_right (by omega)]; simp, by rw [List.getElem?_append_right (by omega)]; simp, ?_⟩
  rw [List.set_append_right _ _ (by omega), List.set_append_right _ _ (by omega)]
  simp

/-- A list of at most twelve is sorted. -/
theorem Loop.once {σ : Type} {body : (σ → Heap → Prop) → σ → Heap → Prop} {s : σ} {h : Heap} (H : ∀ go, body go s h) : Loop body s h :=
  ⟨fun s' h' => s' = s ∧ h' = h, fun _ _ => 0, ⟨rfl, rfl⟩, by rintro _ _ ⟨rfl, rfl⟩; exact H _⟩
end Go.Mx
