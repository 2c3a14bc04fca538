/-
  A scene that was handed in.
-/
import Derived.Test.YtipihecaaakagaaMxV
import Derived.Test.YtipihecaaakagaaMxEd
set_option linter.unusedVariables false
set_option linter.unusedSimpArgs false
namespace Go.Mx

def fieldsT (P : Program) (T : TypeId) : List Field := match P.underlying T with
  | some (.struct fs) => fs.toList
  | _ => []
def typeAt (P : Program) (T : TypeId) (i : Nat) : TypeId := (((fieldsT P T)[i]?).map (·.type)).getD 0
theorem DataOf.three {P : Program} {W : World} {B m : Nat} {T : TypeId} {a b c k : Kd} {x : Den (.pair a (.pair b (.pair c k)))} (h : DataOf P W B (m + 1) T (.pair a (.pair b (.pair c k))) x) (hl : Nat.ble 3 (fieldsT P T).length = true) :
    DataOf P W B m (typeAt P T 0) a x.1 ∧ DataOf P W B m (typeAt P T 1) b x.2.1 ∧ DataOf P W B m (typeAt P T 2) c x.2.2.1 := by
  obtain ⟨fs, h1, h2⟩ := h
  have e : fieldsT P T = fs.toList := by unfold fieldsT; rw [h1]
  unfold typeAt
  rw [e] at hl ⊢
  have hl := Nat.le_of_ble_eq_true hl
  generalize fs.toList = l at *
  match l, hl, h2 with
  | f0 :: f1 :: f2 :: r, _, h2 => exact ⟨h2.1, h2.2.1, h2.2.2.1⟩

theorem choose_list {α β : Type} {R : α → β → Prop} : ∀ (l : List α), (∀ y ∈ l, ∃ x, R y x) → ∃ xs : List β, l.length = xs.length ∧ ∀ (i : Nat) y x, l[i]? = some y → xs[i]? = some x → R y x
  | [], _ => ⟨[], rfl, fun i y x h => by simp at h⟩
  | a :: l, h => by
    obtain ⟨x, hx⟩ := h a (by simp)
    obtain ⟨xs, h1, h2⟩ := choose_list l fun y hy => h y (by simp [hy])
    refine ⟨x :: xs, by simp [h1], fun i y z => ?_⟩
    cases i with
    | zero => simp; rintro rfl rfl; exact hx
    | succ i => simpa using h2 i y z

theorem DataOf.scene {P : Program} {W : World} {m : Nat} {T : TypeId} {x : Sc} (h : DataOf P W 1048576 (m + 1 + 1 + 1) T kapiScene x) (hl : Nat.ble 3 (fieldsT P T).length = true) (h1 : elemKd P (typeAt P T 1) = some ki) (h2 : elemKd P (typeAt P T 2) = some .sl)
    (h3 : elemKd P (elemT P (typeAt P T 2)) = some kapiAct) : ∃ bs xss, ScR (view W) x bs xss ∧ Small bs xss := by
  obtain ⟨_, a, b⟩ := h.three hl
  obtain ⟨bs, a1, a2, _⟩ := a.arr h1
  obtain ⟨sls, b1, b2, _, _, _, b3⟩ := b.arr h2
  obtain ⟨xss, c1, c2⟩ := choose_list (R := fun (y : Sl) (xs : List Ac) => Arr (view W) kapiAct y xs ∧ xs.length ≤ 1048576) sls fun y hy => by
    obtain ⟨xs, d1, d2, _⟩ := (b3 y hy).arr h3
    exact ⟨xs, d1, by rw [d1.1]; exact d2⟩
  refine ⟨bs, xss, ⟨a1, sls, b1, c1, fun i sl xs p q => (c2 i sl xs p q).1⟩, by rw [a1.1]; exact a2, by rw [← c1, b1.1]; exact b2, fun xs hx => ?_⟩
  obtain ⟨i, e⟩ := List.mem_iff_getElem?.1 hx
  have hi : i < sls.length := by rw [c1]; exact (List.getElem?_eq_some_iff.1 e).1
  exact (c2 i sls[i] xs (by simp) e).2

end Go.Mx
