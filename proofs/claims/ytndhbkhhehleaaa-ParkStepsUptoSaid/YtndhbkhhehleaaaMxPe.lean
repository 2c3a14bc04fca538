/-
  Parking: the walks of the reference's machines.
-/
import Derived.Test.YtndhbkhhehleaaaMxPd
set_option linter.unusedVariables false
set_option linter.unusedSimpArgs false
set_option linter.unusedSectionVars false
namespace Go.Mx

def R2C (f : R9 → Int → R9) (c : Den KR9 → Int → Heap → (Den KR9 → Heap → Prop) → Prop) : Prop := ∀ {r : R9} {x : Int} {h : Heap} {Q : Den KR9 → Heap → Prop}, Q (f r x).den h → c r.den x h Q
def REndC (c : Den KR9 → Int → Int → Heap → (Den KR9 → Heap → Prop) → Prop) : Prop := ∀ {r : R9} {x v : Int} {h : Heap} {Q : Den KR9 → Heap → Prop}, Q (r.end_ x v).den h → c r.den x v h Q
def RAroundC (c : Den KR9 → Int → Den KR9 → Heap → (Den KR9 → Heap → Prop) → Prop) : Prop := ∀ {r t : R9} {a : Int} {h : Heap} {Q : Den KR9 → Heap → Prop}, Q (r.around a t).den h → c r.den a t.den h Q
def RWhoC (c : Den KR9 → Heap → (Int → Heap → Prop) → Prop) : Prop := ∀ {r : R9} {h : Heap} {Q : Int → Heap → Prop}, r.workers ≠ 0 → Q r.who h → c r.den h Q
theorem ifR {c : Prop} [Decidable c] {x y : R9} {Q : Den KR9 → Heap → Prop} {h : Heap} {A B : Prop} (hA : c → Q x.den h → A) (hB : ¬ c → Q y.den h → B) (hQ : Q (R9.den (if c then x else y)) h) : (decide c = true → A) ∧ (decide c = false → B) :=
  ⟨fun e => hA (of_decide_eq_true e) (by rw [if_pos (of_decide_eq_true e)] at hQ; exact hQ), fun e => hB (of_decide_eq_false e) (by rw [if_neg (of_decide_eq_false e)] at hQ; exact hQ)⟩
def wAdd (a d : Int) : Wn := (3, (a, (d, (0, (0, (0, ()))))))
def Ra.want : Ra → Wn
  | .rq r => r.want
  | .add a d => wAdd a d
theorem ifW {c : Prop} [Decidable c] {x y : Ra} {Q : Wn → Heap → Prop} {h : Heap} {A B : Prop} (hA : c → Q x.want h → A) (hB : ¬ c → Q y.want h → B) (hQ : Q (Ra.want (if c then x else y)) h) : (decide c = true → A) ∧ (decide c = false → B) :=
  ⟨fun e => hA (of_decide_eq_true e) (by rw [if_pos (of_decide_eq_true e)] at hQ; exact hQ), fun e => hB (of_decide_eq_false e) (by rw [if_neg (of_decide_eq_false e)] at hQ; exact hQ)⟩
/-- What the reference's machine reads of its list. -/
structure R9Ok (h : Heap) (ds : List (Den KP2)) (r : R9) : Prop where
  w : r.at_ ≠ 0 → r.workers ≠ 0
  d : r.at_ = 4 ∨ r.at_ = 5 → Arr h KP2 r.ds ds ∧ 0 ≤ r.who ∧ r.who < (ds.length : Int)
end Go.Mx
