/-
  ParkMicro: the moves, the law.
-/
import Derived.Test.YtndhbkhhehleaaaMxPf
set_option linter.unusedVariables false
set_option linter.unusedSimpArgs false
set_option linter.unusedSectionVars false
namespace Go.Mx

def PAnsC (c : Den KPOp → Heap → (Den KP2 → Heap → Prop) → Prop) : Prop := ∀ {o : POp} {h : Heap} {Q : Den KP2 → Heap → Prop}, Q (o.answer.1, (o.answer.2, ())) h → c o.den h Q
def R9AnsC (c : Den KR9 → Heap → (Den KP2 → Heap → Prop) → Prop) : Prop := ∀ {r : R9} {h : Heap} {Q : Den KP2 → Heap → Prop}, Q (r.answer.1, (r.answer.2, ())) h → c r.den h Q
def PParkC (c : Den KPOp → Heap → (Bool → Heap → Prop) → Prop) : Prop := ∀ {o : POp} {h : Heap} {Q : Bool → Heap → Prop}, Q o.parked h → c o.den h Q
def R9ParkC (c : Den KR9 → Heap → (Bool → Heap → Prop) → Prop) : Prop := ∀ {r : R9} {h : Heap} {Q : Bool → Heap → Prop}, Q r.parked h → c r.den h Q
def R9DeadC (c : Heap → (Den KR9 → Heap → Prop) → Prop) : Prop := ∀ {h : Heap} {Q : Den KR9 → Heap → Prop}, Q R9.dead.den h → c h Q
theorem ifP {α : Type} {c : Prop} [Decidable c] {x y : α} {Q : α → Heap → Prop} {h : Heap} {A B : Prop} (hA : c → Q x h → A) (hB : ¬ c → Q y h → B) (hQ : Q (if c then x else y) h) : (decide c = true → A) ∧ (decide c = false → B) :=
  ⟨fun e => hA (of_decide_eq_true e) (by rw [if_pos (of_decide_eq_true e)] at hQ; exact hQ), fun e => hB (of_decide_eq_false e) (by rw [if_neg (of_decide_eq_false e)] at hQ; exact hQ)⟩
theorem pans_spec : PAnsC park_Answer.M := by
  intro o h Q hQ
  unfold POp.answer at hQ
  refine ⟨fun e => ?_, fun e => ⟨fun e2 => ?_, fun e2 => ?_⟩⟩
  · have e : o.st.kind = 0 := of_decide_eq_true e
    rw [if_pos e] at hQ; exact hQ
  · have e : ¬ o.st.kind = 0 := of_decide_eq_false e
    have e2 : o.st.at_ ≠ 0 := of_decide_eq_true e2
    rw [if_neg e, if_pos e2] at hQ; exact hQ
  · have e : ¬ o.st.kind = 0 := of_decide_eq_false e
    have e2 : ¬ o.st.at_ ≠ 0 := of_decide_eq_false e2
    rw [if_neg e, if_neg e2] at hQ; exact hQ
theorem ppark_spec : PParkC park_Parked.M := by
  intro o h Q hQ
  unfold POp.parked at hQ
  refine ⟨fun e => ?_, fun e => ?_⟩
  · have e : o.st.kind = 1 := of_decide_eq_true e
    rw [if_pos e] at hQ; exact hQ
  · have e : ¬ o.st.kind = 1 := of_decide_eq_false e
    rw [if_neg e] at hQ; exact hQ
theorem r9dead_spec : R9DeadC ref9_Dead.M := fun q => q
theorem RelP.dead : RelP [] POp.zero R9.dead := .inl ⟨rfl, .inl rfl, rfl, by decide⟩
theorem ElP.dead {h : Heap} {F : Nat → Prop} {o : POp} (hk : o.st.kind = 0 ∨ o.st.at_ = 0) (ha : o.answer = (1, 0)) : ElP h F o.den R9.dead.den :=
  ⟨[], o, R9.dead, rfl, rfl, .inl ⟨rfl, hk, ha, by decide⟩, (Own.nil _ _).arr, fun x q => absurd q no_blkM⟩
/-- A step that is refused. -/
theorem ElP.dark {h : Heap} {F : Nat → Prop} {o : POp} {r : R9} {ds : List (Den KP2)} (R : RelP ds o r) (a : Arr h KP2 r.ds ds) (b : ∀ x, blkOf r.ds x → h x ≠ none ∧ ¬ F x) : (r.answer.1 = 0 → ElP h F (darkP o).den R9.dead.den) ∧ (r.answer.1 ≠ 0 → ElP h F (darkP o).den r.den) := by
  unfold darkP
  rcases R with ⟨h1, h2, h3, h9⟩ | R
  · have e : (if o.st.kind = 0 then o else if o.st.at_ = 0 then o else { o with st := o.st.over 1 0 }) = o := by
      by_cases q : o.st.kind = 0
      · rw [if_pos q]
      · rw [if_neg q, if_pos (h2.resolve_left q)]
    rw [e]
    have ha : r.answer = (r.code, r.v) := by unfold R9.answer; rw [if_neg (fun z => z h1)]
    exact ⟨fun z => by rw [ha] at z; exact absurd z h9, fun _ => ⟨ds, o, r, rfl, rfl, .inl ⟨h1, h2, h3, h9⟩, a, b⟩⟩
  · obtain ⟨a0, b0⟩ := R.a0
    rw [if_neg R.k0, if_neg a0]
    have ha : r.answer = (0, 0) := by unfold R9.answer; rw [if_pos b0]
    refine ⟨fun _ => ElP.dead (.inr rfl) ?_, fun z => by rw [ha] at z; exact absurd rfl z⟩
    unfold POp.answer
    rw [if_neg (show ¬ (PSt.over o.st 1 0).kind = 0 from R.k0)]; rfl
def BornP (base workers : Int) (ds : Sl) (dl : List (Den KP2)) (c : Den KMv → Int → Int → Sl → Heap → ((Den KPOp × (Den KR9 × Unit)) → Heap → Prop) → Prop) : Prop := ∀ {k s v : Int} {h : Heap} {Q : (Den KPOp × (Den KR9 × Unit)) → Heap → Prop}, 0 ≤ k → k ≤ 4 → Arr h KP2 ds dl →
  (∀ d e h', le h h' → (∀ F : Nat → Prop, (∀ x, F x → h x ≠ none) → ElP h' F d e) → Q (d, (e, ())) h') → c (k, (s, (v, ()))) base workers ds h Q
section
variable {c3 : Den KMv → Int → Int → Sl → Heap → ((Den KPOp × (Den KR9 × Unit)) → Heap → Prop) → Prop} {c4 : Option Addr → Int → Heap → (Unit → Heap → Prop) → Prop} {c5 : Value → Den KPOp → Heap → (Den KPOp → Heap → Prop) → Prop}
  {c6 : Option Addr → Den KR9 → Heap → (Den KR9 → Heap → Prop) → Prop} {c7 : Heap → (Den KR9 → Heap → Prop) → Prop} {c8 : Int → Heap → ((Option Addr × (Int × Unit)) → Heap → Prop) → Prop} {c9 : Den KPOp → Heap → (Den KP2 → Heap → Prop) → Prop} {c10 : Den KR9 → Heap → (Den KP2 → Heap → Prop) → Prop}
  {c11 : Den KPOp → Heap → (Bool → Heap → Prop) → Prop} {c12 : Den KR9 → Heap → (Bool → Heap → Prop) → Prop}
  {Q : Bool → Heap → Prop} {h0 : Heap} {bA bM n : Nat} {m : AS} {f : PMf} {g : PMg} {S S' : Nat → Prop} {h : Heap}
abbrev PGo := (Int × (((Fin 4 → Den KPOp) × Unit) × (((Fin 4 → Den KR9) × Unit) × Unit))) → Heap → Prop
end
end Go.Mx
