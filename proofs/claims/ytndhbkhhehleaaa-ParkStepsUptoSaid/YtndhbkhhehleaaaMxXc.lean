/-
  DequeMicro: the law.
-/
import Derived.Test.YtndhbkhhehleaaaMxXb
import Derived.Test.YtndhbkhhehleaaaMxV
set_option linter.unusedVariables false
set_option linter.unusedSimpArgs false
set_option linter.unusedSectionVars false
namespace Go.Mx

theorem New.litN {h : Heap} {k : Kd} {l : List (Den k)} {K : Addr → Heap → Prop} (hK : ∀ b h', h b = none → New h h' k ⟨some (ptr b), l.length, l.length⟩ l → K (ptr b) h') : Go.Mx.new h (l.flatMap k.cells) K := by
  intro b hb
  refine hK b _ hb ⟨.inr ⟨b, rfl, Nat.le_refl _, Nat.le_refl _, [], by simp, by rw [upd_same]; simp⟩, rfl, le_upd hb _, ?_⟩
  rintro q ⟨a, e, rfl⟩
  cases e
  exact hb
section
variable {c1 : Int → Int → Heap → (Int → Heap → Prop) → Prop} {c2 : Int → Sl → Heap → ((Option Addr × (Bool × Unit)) → Heap → Prop) → Prop} {c3 : Den KMv → Int → Int → Heap → ((Den KOp × (Den KRo × Unit)) → Heap → Prop) → Prop} {c4 : Option Addr → Int → Heap → (Unit → Heap → Prop) → Prop} {c5 : Value → Den KOp → Heap → (Den KOp → Heap → Prop) → Prop}
  {c6 : Option Addr → Den KRo → Heap → (Den KRo → Heap → Prop) → Prop} {c7 : Den KRo → Heap → (Wn → Heap → Prop) → Prop} {c8 : Int → Heap → ((Option Addr × (Int × Unit)) → Heap → Prop) → Prop} {c9 : Den KOp → Heap → (Den KP2 → Heap → Prop) → Prop} {c10 : Den KRo → Heap → (Den KP2 → Heap → Prop) → Prop}
  {d1 d3 : Option Addr → Heap → (Sl → Heap → Prop) → Prop} {d2 d4 : Sl → Sl → Heap → (Bool → Heap → Prop) → Prop}
end
theorem dark_spec {c1 : OverC} {c2 : Den KOp → Value → Heap → (Den KP2 → Heap → Prop) → Prop} {c3 c4 c5 c6 : Den KOp → Int → Heap → (Den KOp → Heap → Prop) → Prop} (i1 : ∀ {o : DOp} {c v h Q}, deque_Op_over.M o.den c v h Q → c1 o.den c v h Q)
    {o : DOp} {h : Heap} {Q : Den KOp → Heap → Prop} (hQ : Q (darkD o).den h) : deque_Step.M c1 c2 c3 c4 c5 c6 .nilIface o.den h Q := by
  have hz := o.eqK_zero
  unfold darkD at hQ
  have main : o ≠ DOp.zero → o.pc ≠ 0 → deque_Step.j1 c1 c2 c3 c4 c5 c6 .nilIface o.den Q ((0, (0, (0, (0, (0, (0, (0, (0, (0, (0, (0, (0, (0, (false, (0, (0, ())))))))))))))))), ()) h := fun z p => by
    rw [if_neg z, if_neg p] at hQ
    exact ⟨trivial, fun _ => i1 (o := o) (dover_spec hQ), fun e => (by cases e)⟩
  refine ⟨fun e => ⟨fun _ => ?_, fun q => (by cases q)⟩, fun e => ?_⟩
  · have e : eqK KOp o.den DOp.zero.den = true := e
    rw [hz] at e
    rw [if_pos (of_decide_eq_true e)] at hQ
    exact hQ
  · have e : eqK KOp o.den DOp.zero.den = false := e
    rw [hz] at e
    have e := of_decide_eq_false e
    by_cases p : o.pc = 0
    · rw [if_neg e, if_pos p] at hQ
      exact ⟨fun _ => hQ, fun q => absurd p (of_decide_eq_false q)⟩
    · exact ⟨fun q => absurd (of_decide_eq_true q) p, fun _ => main e p⟩
theorem I64.wf {x : Int} (h : (Lit.int .i64 x).wf = true) : I64 x := by
  have h : IntKind.i64.min ≤ x ∧ x ≤ 9223372036854775807 := by simpa [Lit.wf] using h
  have e : IntKind.i64.min = -9223372036854775808 := by decide
  exact I64.of (by rw [← e]; exact h.1) (by have := h.2; omega)
theorem FieldsOf.three {r : TypeId → (k : Kd) → Den k → Prop} {fs : List Field} {a b c : Kd} {x : Den (.pair a (.pair b (.pair c .nil)))} (h : FieldsOf r fs (.pair a (.pair b (.pair c .nil))) x) (hl : fs.length = 3) : ∃ t, r t c x.2.2.1 := by
  match fs, hl, h with
  | [_, _, f], _, h => exact ⟨f.type, h.2.2.1⟩
theorem FieldsOf.first {r : TypeId → (k : Kd) → Den k → Prop} {fs : List Field} {a b : Kd} {x : Den (.pair a (.pair b .nil))} (h : FieldsOf r fs (.pair a (.pair b .nil)) x) (hl : fs.length = 2) : ∃ t, r t a x.1 := by
  match fs, hl, h with
  | [f, _], _, h => exact ⟨f.type, h.1⟩
def fieldN (P : Program) (T : TypeId) : Nat := match P.underlying T with
  | some (.struct fs) => fs.toList.length
  | _ => 0
theorem fieldN_of {P : Program} {T : TypeId} {fs : Array Field} (e : P.underlying T = some (.struct fs)) : fieldN P T = fs.toList.length := by unfold fieldN; rw [e]
end Go.Mx
