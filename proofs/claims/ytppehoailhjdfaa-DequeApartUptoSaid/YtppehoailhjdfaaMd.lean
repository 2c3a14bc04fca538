/-
  What the functions of this seat come to over abstract heaps: printed by a program of this workplace.
-/
import Derived.Test.YtppehoailhjdfaaMxN
set_option linter.unusedVariables false
namespace Go.Mx
abbrev kref3Mem : Kd := (.pair .sl (.pair (.int .i64) (.pair (.int .i64) (.pair .sl .nil))))
abbrev kparkLot : Kd := (.pair (.int .i64) (.pair (.int .i64) .nil))
abbrev kdequeOp : Kd := (.pair (.int .i64) (.pair (.int .i64) (.pair kparkLot (.pair (.int .i64) (.pair (.int .i64) (.pair (.int .i64) (.pair (.int .i64) (.pair (.int .i64) (.pair (.int .i64) (.pair (.int .i64) (.pair (.int .i64) (.pair (.int .i64) (.pair .bool kparkLot)))))))))))))
abbrev kref3Op : Kd := (.pair (.int .i64) (.pair kparkLot (.pair (.int .i64) (.pair .sl (.pair .bool .nil)))))
abbrev klaw3Move : Kd := (.pair (.int .i64) kparkLot)
abbrev kref3Want : Kd := (.pair (.int .i64) (.pair (.int .i64) (.pair (.int .i64) klaw3Move)))
abbrev klaw3Turn : Kd := (.pair (.int .i64) (.pair .bool (.pair .bool (.pair (.int .i64) .nil))))
abbrev kparkstate : Kd := (.pair kparkLot (.pair (.int .i64) kref3Want))
abbrev kparkOp : Kd := (.pair kparkstate (.pair (.arr 64 kparkLot) (.pair kdequeOp .nil)))
abbrev kref9Op : Kd := (.pair (.int .i64) (.pair (.int .i64) (.pair (.int .i64) (.pair (.int .i64) (.pair kparkLot (.pair .sl klaw3Move))))))
abbrev kcellsArena : Kd := (.pair kparkLot (.pair .sl (.pair .sl (.pair (.int .i64) (.pair .bool .nil)))))
abbrev kapiAccess : Kd := (.pair (.int .i64) (.pair (.int .i64) (.pair (.int .i64) (.pair (.int .i64) (.pair (.int .i64) (.pair .bool .nil))))))
abbrev klaw3Deny : Kd := (.pair .ptr kparkLot)
-- @T p_law3_Deny 131
-- @T p_cells_Arena 24

def law3_DequeStack.j1 (go17 : (Sl × (Int × Unit)) → Heap → Prop) (s15 : (Sl × (Int × Unit))) (s18 : (Sl × Unit)) (h19 : Heap) : Prop :=
    go17 (s18.1, (w64 (s15.2.1 + 1)), ()) h19
def law3_DequeStack.j2 (Q : Bool → Heap → Prop) (go17 : (Sl × (Int × Unit)) → Heap → Prop) (s15 : (Sl × (Int × Unit))) (s22 : (Sl × (Int × (Int × ((Int × (Int × (Int × (Int × (Int × (Int × (Int × (Int × (Int × (Int × (Int × (Int × (Int × (Bool × Den kparkLot)))))))))))))) × Unit))))) (s26 : (Bool × Unit)) (h27 : Heap) : Prop :=
    ((s26.1 = true →
    Q false h27) ∧
    (s26.1 = false →
    law3_DequeStack.j1 go17 s15 (s22.1, ()) h27))
def law3_DequeStack.j3 (c_law3_whole : Option Addr → Den kdequeOp → Int → Heap → ((Int × (Int × (Bool × Unit))) → Heap → Prop) → Prop) (Q : Bool → Heap → Prop) (r11 : (Option Addr × (Int × Unit))) (go17 : (Sl × (Int × Unit)) → Heap → Prop) (s15 : (Sl × (Int × Unit))) (s22 : (Sl × (Int × (Int × ((Int × (Int × (Int × (Int × (Int × (Int × (Int × (Int × (Int × (Int × (Int × (Int × (Int × (Bool × Den kparkLot)))))))))))))) × Unit))))) (h23 : Heap) : Prop :=
    c_law3_whole r11.1 (s22.2.2.2.1.1, (s22.2.2.2.1.2.1, ((s22.2.2.2.1.2.2.1, (s22.2.2.2.1.2.2.2.1, ())), (s22.2.2.2.1.2.2.2.2.1, (s22.2.2.2.1.2.2.2.2.2.1, (s22.2.2.2.1.2.2.2.2.2.2.1, (s22.2.2.2.1.2.2.2.2.2.2.2.1, (s22.2.2.2.1.2.2.2.2.2.2.2.2.1, (s22.2.2.2.1.2.2.2.2.2.2.2.2.2.1, (s22.2.2.2.1.2.2.2.2.2.2.2.2.2.2.1, (s22.2.2.2.1.2.2.2.2.2.2.2.2.2.2.2.1, (s22.2.2.2.1.2.2.2.2.2.2.2.2.2.2.2.2.1, (s22.2.2.2.1.2.2.2.2.2.2.2.2.2.2.2.2.2.1, (s22.2.2.2.1.2.2.2.2.2.2.2.2.2.2.2.2.2.2.1, (s22.2.2.2.1.2.2.2.2.2.2.2.2.2.2.2.2.2.2.2.1, ()))))))))))))))) (w64 (9 + (w64 (2 * (s15.1.len : Int))))) h23 fun r24 h25 =>
    (((!r24.2.2.1) = true →
    law3_DequeStack.j2 Q go17 s15 s22 (true, ()) h25) ∧
    ((!r24.2.2.1) = false →
    (((decide (r24.1 ≠ s22.2.1)) = true →
    law3_DequeStack.j2 Q go17 s15 s22 (true, ()) h25) ∧
    ((decide (r24.1 ≠ s22.2.1)) = false →
    law3_DequeStack.j2 Q go17 s15 s22 ((decide (r24.2.1 ≠ s22.2.2.1)), ()) h25))))
def law3_DequeStack.l4 (c_deque_Push : Den kparkLot → Int → Heap → (Den kdequeOp → Heap → Prop) → Prop) (c_deque_Pop : Den kparkLot → Heap → (Den kdequeOp → Heap → Prop) → Prop) (c_deque_Steal : Den kparkLot → Heap → (Den kdequeOp → Heap → Prop) → Prop) (c_deque_Look : Den kparkLot → Heap → (Den kdequeOp → Heap → Prop) → Prop) (c_law3_whole : Option Addr → Den kdequeOp → Int → Heap → ((Int × (Int × (Bool × Unit))) → Heap → Prop) → Prop) (most2 : Int) (todos3 : Sl) (Q : Bool → Heap → Prop) (r11 : (Option Addr × (Int × Unit))) (r13 : (Den kparkLot × (Int × Unit))) (go17 : (Sl × (Int × Unit)) → Heap → Prop) (s15 : (Sl × (Int × Unit))) (h16 : Heap) : Prop :=
    (((decide (s15.2.1 < (todos3.len : Int))) = true →
    (0 ≤ s15.2.1 ∧ s15.2.1 < (todos3.len : Int)) ∧
    deref todos3.a fun a20 =>
    ld kparkLot h16 (a20.add ((s15.2.1 : Int).toNat * 2)) fun t21 =>
    (((decide (t21.1 = 0)) = true →
    c_deque_Push (r13.1.1, (r13.1.2.1, ())) t21.2.1 h16 fun r28 h29 =>
    (((decide ((s15.1.len : Int) = most2)) = true →
    law3_DequeStack.j3 c_law3_whole Q r11 go17 s15 (s15.1, 3, 0, (r28.1, (r28.2.1, (r28.2.2.1.1, (r28.2.2.1.2.1, (r28.2.2.2.1, (r28.2.2.2.2.1, (r28.2.2.2.2.2.1, (r28.2.2.2.2.2.2.1, (r28.2.2.2.2.2.2.2.1, (r28.2.2.2.2.2.2.2.2.1, (r28.2.2.2.2.2.2.2.2.2.1, (r28.2.2.2.2.2.2.2.2.2.2.1, (r28.2.2.2.2.2.2.2.2.2.2.2.1, (r28.2.2.2.2.2.2.2.2.2.2.2.2.1, (r28.2.2.2.2.2.2.2.2.2.2.2.2.2.1, (r28.2.2.2.2.2.2.2.2.2.2.2.2.2.2.1, ())))))))))))))))), ()) h29) ∧
    ((decide ((s15.1.len : Int) = most2)) = false →
    new h29 (([t21.2.1] : List (Den ((.int .i64) : Kd))).flatMap (Kd.cells ((.int .i64) : Kd))) fun p30 h31 =>
    appendM 1 8 h31 s15.1 ⟨some p30, 1, 1⟩ fun t32 h33 =>
    law3_DequeStack.j3 c_law3_whole Q r11 go17 s15 (t32, 2, 0, (r28.1, (r28.2.1, (r28.2.2.1.1, (r28.2.2.1.2.1, (r28.2.2.2.1, (r28.2.2.2.2.1, (r28.2.2.2.2.2.1, (r28.2.2.2.2.2.2.1, (r28.2.2.2.2.2.2.2.1, (r28.2.2.2.2.2.2.2.2.1, (r28.2.2.2.2.2.2.2.2.2.1, (r28.2.2.2.2.2.2.2.2.2.2.1, (r28.2.2.2.2.2.2.2.2.2.2.2.1, (r28.2.2.2.2.2.2.2.2.2.2.2.2.1, (r28.2.2.2.2.2.2.2.2.2.2.2.2.2.1, (r28.2.2.2.2.2.2.2.2.2.2.2.2.2.2.1, ())))))))))))))))), ()) h33))) ∧
    ((decide (t21.1 = 0)) = false →
    (((decide (t21.1 = 1)) = true →
    c_deque_Pop (r13.1.1, (r13.1.2.1, ())) h16 fun r34 h35 =>
    (((decide ((0 : Int) < (s15.1.len : Int))) = true →
    (0 ≤ (w64 ((s15.1.len : Int) - 1)) ∧ (w64 ((s15.1.len : Int) - 1)) < (s15.1.len : Int)) ∧
    deref s15.1.a fun a36 =>
    ld ((.int .i64) : Kd) h35 (a36.add (((w64 ((s15.1.len : Int) - 1)) : Int).toNat * 1)) fun t37 =>
    (0 ≤ (w64 ((s15.1.len : Int) - 1)) ∧ (w64 ((s15.1.len : Int) - 1)) ≤ (s15.1.cap : Int)) ∧
    law3_DequeStack.j3 c_law3_whole Q r11 go17 s15 ((s15.1.cut 0 (((w64 ((s15.1.len : Int) - 1)) : Int).toNat) 1), 4, t37, (r34.1, (r34.2.1, (r34.2.2.1.1, (r34.2.2.1.2.1, (r34.2.2.2.1, (r34.2.2.2.2.1, (r34.2.2.2.2.2.1, (r34.2.2.2.2.2.2.1, (r34.2.2.2.2.2.2.2.1, (r34.2.2.2.2.2.2.2.2.1, (r34.2.2.2.2.2.2.2.2.2.1, (r34.2.2.2.2.2.2.2.2.2.2.1, (r34.2.2.2.2.2.2.2.2.2.2.2.1, (r34.2.2.2.2.2.2.2.2.2.2.2.2.1, (r34.2.2.2.2.2.2.2.2.2.2.2.2.2.1, (r34.2.2.2.2.2.2.2.2.2.2.2.2.2.2.1, ())))))))))))))))), ()) h35) ∧
    ((decide ((0 : Int) < (s15.1.len : Int))) = false →
    law3_DequeStack.j3 c_law3_whole Q r11 go17 s15 (s15.1, 5, 0, (r34.1, (r34.2.1, (r34.2.2.1.1, (r34.2.2.1.2.1, (r34.2.2.2.1, (r34.2.2.2.2.1, (r34.2.2.2.2.2.1, (r34.2.2.2.2.2.2.1, (r34.2.2.2.2.2.2.2.1, (r34.2.2.2.2.2.2.2.2.1, (r34.2.2.2.2.2.2.2.2.2.1, (r34.2.2.2.2.2.2.2.2.2.2.1, (r34.2.2.2.2.2.2.2.2.2.2.2.1, (r34.2.2.2.2.2.2.2.2.2.2.2.2.1, (r34.2.2.2.2.2.2.2.2.2.2.2.2.2.1, (r34.2.2.2.2.2.2.2.2.2.2.2.2.2.2.1, ())))))))))))))))), ()) h35))) ∧
    ((decide (t21.1 = 1)) = false →
    (((decide (t21.1 = 2)) = true →
    c_deque_Steal (r13.1.1, (r13.1.2.1, ())) h16 fun r38 h39 =>
    (((decide ((0 : Int) < (s15.1.len : Int))) = true →
    (0 ≤ (0 : Int) ∧ (0 : Int) < (s15.1.len : Int)) ∧
    deref s15.1.a fun a40 =>
    ld ((.int .i64) : Kd) h39 (a40.add (((0 : Int) : Int).toNat * 1)) fun t41 =>
    new h39 (([] : List (Den ((.int .i64) : Kd))).flatMap (Kd.cells ((.int .i64) : Kd))) fun p42 h43 =>
    (0 ≤ (1 : Int) ∧ (1 : Int) ≤ (s15.1.len : Int)) ∧
    appendM 1 8 h43 ⟨some p42, 0, 0⟩ (s15.1.cut (((1 : Int) : Int).toNat) s15.1.len 1) fun t44 h45 =>
    law3_DequeStack.j3 c_law3_whole Q r11 go17 s15 (t44, 4, t41, (r38.1, (r38.2.1, (r38.2.2.1.1, (r38.2.2.1.2.1, (r38.2.2.2.1, (r38.2.2.2.2.1, (r38.2.2.2.2.2.1, (r38.2.2.2.2.2.2.1, (r38.2.2.2.2.2.2.2.1, (r38.2.2.2.2.2.2.2.2.1, (r38.2.2.2.2.2.2.2.2.2.1, (r38.2.2.2.2.2.2.2.2.2.2.1, (r38.2.2.2.2.2.2.2.2.2.2.2.1, (r38.2.2.2.2.2.2.2.2.2.2.2.2.1, (r38.2.2.2.2.2.2.2.2.2.2.2.2.2.1, (r38.2.2.2.2.2.2.2.2.2.2.2.2.2.2.1, ())))))))))))))))), ()) h45) ∧
    ((decide ((0 : Int) < (s15.1.len : Int))) = false →
    law3_DequeStack.j3 c_law3_whole Q r11 go17 s15 (s15.1, 5, 0, (r38.1, (r38.2.1, (r38.2.2.1.1, (r38.2.2.1.2.1, (r38.2.2.2.1, (r38.2.2.2.2.1, (r38.2.2.2.2.2.1, (r38.2.2.2.2.2.2.1, (r38.2.2.2.2.2.2.2.1, (r38.2.2.2.2.2.2.2.2.1, (r38.2.2.2.2.2.2.2.2.2.1, (r38.2.2.2.2.2.2.2.2.2.2.1, (r38.2.2.2.2.2.2.2.2.2.2.2.1, (r38.2.2.2.2.2.2.2.2.2.2.2.2.1, (r38.2.2.2.2.2.2.2.2.2.2.2.2.2.1, (r38.2.2.2.2.2.2.2.2.2.2.2.2.2.2.1, ())))))))))))))))), ()) h39))) ∧
    ((decide (t21.1 = 2)) = false →
    c_deque_Look (r13.1.1, (r13.1.2.1, ())) h16 fun r46 h47 =>
    (((decide ((0 : Int) < (s15.1.len : Int))) = true →
    law3_DequeStack.j3 c_law3_whole Q r11 go17 s15 (s15.1, 7, 0, (r46.1, (r46.2.1, (r46.2.2.1.1, (r46.2.2.1.2.1, (r46.2.2.2.1, (r46.2.2.2.2.1, (r46.2.2.2.2.2.1, (r46.2.2.2.2.2.2.1, (r46.2.2.2.2.2.2.2.1, (r46.2.2.2.2.2.2.2.2.1, (r46.2.2.2.2.2.2.2.2.2.1, (r46.2.2.2.2.2.2.2.2.2.2.1, (r46.2.2.2.2.2.2.2.2.2.2.2.1, (r46.2.2.2.2.2.2.2.2.2.2.2.2.1, (r46.2.2.2.2.2.2.2.2.2.2.2.2.2.1, (r46.2.2.2.2.2.2.2.2.2.2.2.2.2.2.1, ())))))))))))))))), ()) h47) ∧
    ((decide ((0 : Int) < (s15.1.len : Int))) = false →
    law3_DequeStack.j3 c_law3_whole Q r11 go17 s15 (s15.1, 8, 0, (r46.1, (r46.2.1, (r46.2.2.1.1, (r46.2.2.1.2.1, (r46.2.2.2.1, (r46.2.2.2.2.1, (r46.2.2.2.2.2.1, (r46.2.2.2.2.2.2.1, (r46.2.2.2.2.2.2.2.1, (r46.2.2.2.2.2.2.2.2.1, (r46.2.2.2.2.2.2.2.2.2.1, (r46.2.2.2.2.2.2.2.2.2.2.1, (r46.2.2.2.2.2.2.2.2.2.2.2.1, (r46.2.2.2.2.2.2.2.2.2.2.2.2.1, (r46.2.2.2.2.2.2.2.2.2.2.2.2.2.1, (r46.2.2.2.2.2.2.2.2.2.2.2.2.2.2.1, ())))))))))))))))), ()) h47))))))))) ∧
    ((decide (s15.2.1 < (todos3.len : Int))) = false →
    Q true h16))
def law3_DequeStack.M (c_law3_capsOK : Int → Int → Heap → (Bool → Heap → Prop) → Prop) (c_deque_New : Value → Int → Int → Heap → ((Den kparkLot × (Int × Unit)) → Heap → Prop) → Prop) (c_deque_Cells : Int → Int → Heap → (Int → Heap → Prop) → Prop) (c_cells_New : Int → Heap → ((Option Addr × (Int × Unit)) → Heap → Prop) → Prop) (c_deque_Push : Den kparkLot → Int → Heap → (Den kdequeOp → Heap → Prop) → Prop) (c_deque_Pop : Den kparkLot → Heap → (Den kdequeOp → Heap → Prop) → Prop) (c_deque_Steal : Den kparkLot → Heap → (Den kdequeOp → Heap → Prop) → Prop) (c_deque_Look : Den kparkLot → Heap → (Den kdequeOp → Heap → Prop) → Prop) (c_law3_whole : Option Addr → Den kdequeOp → Int → Heap → ((Int × (Int × (Bool × Unit))) → Heap → Prop) → Prop) (first1 : Int) (most2 : Int) (todos3 : Sl) (h4 : Heap) (Q : Bool → Heap → Prop) : Prop :=
    c_law3_capsOK first1 most2 h4 fun r5 h6 =>
    (((!r5) = true →
    c_deque_New Value.nilIface first1 most2 h6 fun r7 h8 =>
    Q (decide (r7.2.1 = 1)) h8) ∧
    ((!r5) = false →
    c_deque_Cells first1 most2 h6 fun r9 h10 =>
    c_cells_New r9 h10 fun r11 h12 =>
    (((decide (r11.2.1 ≠ 0)) = true →
    Q false h12) ∧
    ((decide (r11.2.1 ≠ 0)) = false →
    c_deque_New (Value.iface 24 (Kd.val (.ptr : Kd) r11.1)) first1 most2 h12 fun r13 h14 =>
    (((decide (r13.2.1 ≠ 0)) = true →
    Q false h14) ∧
    ((decide (r13.2.1 ≠ 0)) = false →
    Loop (law3_DequeStack.l4 c_deque_Push c_deque_Pop c_deque_Steal c_deque_Look c_law3_whole most2 todos3 Q r11 r13) (⟨none, 0, 0⟩, 0, ()) h14))))))
def law3_DequeStack.mk : Mk := (.s .d (.s (.s .d (.c (.s (.r [6]) (.s .d .d)) .d)) (.s .d (.s (.s .d (.c (.s .d .d) .d)) (.s (.r [8]) (.s (.s .d (.c (.s .d .d) .d)) (.s .d (.s (.s .d (.b (.l [.slot 13 .sl, .slot 14 (.int .i64)] (.s (.s .d (.c .d .d)) (.j [.slot 13 .sl] (.b (.s (.r [4]) (.s .d (.s .d (.s .d (.s (.r [0]) (.j [.slot 13 .sl, .slot 17 (.int .i64), .slot 18 (.int .i64), .box 19 (.pair (.int .i64) (.pair (.int .i64) (.pair (.int .i64) (.pair (.int .i64) (.pair (.int .i64) (.pair (.int .i64) (.pair (.int .i64) (.pair (.int .i64) (.pair (.int .i64) (.pair (.int .i64) (.pair (.int .i64) (.pair (.int .i64) (.pair (.int .i64) (.pair .bool kparkLot))))))))))))))] (.s .d (.b (.s .d (.c (.s .d (.s .d (.s .d (.c .d .d)))) (.s .d (.c (.s .d (.s .d (.s .d (.c (.s .d (.s .d .d)) .d)))) (.s .d (.c (.s .d (.s .d (.s .d (.c (.s .d (.s .d .d)) .d)))) (.s .d (.s .d (.s .d (.c .d .d)))))))))))) (.s .d (.j [.slot 135 .bool] .d (.c (.s .d .d) .d)))))))))) .d))))) (.s .d .d)))))))))

def law3_DequeApart.j1 (go33 : (Int × (((Fin 4 → Den kdequeOp) × Unit) × (((Fin 4 → Den kdequeOp) × Unit) × Unit))) → Heap → Prop) (s31 : (Int × (((Fin 4 → Den kdequeOp) × Unit) × (((Fin 4 → Den kdequeOp) × Unit) × Unit)))) (s34 : (((Fin 4 → Den kdequeOp) × Unit) × (((Fin 4 → Den kdequeOp) × Unit) × Unit))) (h35 : Heap) : Prop :=
    go33 ((w64 (s31.1 + 1)), (s34.1.1, ()), (s34.2.1.1, ()), ()) h35
def law3_DequeApart.j2 (Q : Bool → Heap → Prop) (go33 : (Int × (((Fin 4 → Den kdequeOp) × Unit) × (((Fin 4 → Den kdequeOp) × Unit) × Unit))) → Heap → Prop) (s31 : (Int × (((Fin 4 → Den kdequeOp) × Unit) × (((Fin 4 → Den kdequeOp) × Unit) × Unit)))) (s42 : (((Fin 4 → Den kdequeOp) × Unit) × (((Fin 4 → Den kdequeOp) × Unit) × Unit))) (s48 : (Bool × Unit)) (h49 : Heap) : Prop :=
    ((s48.1 = true →
    Q false h49) ∧
    (s48.1 = false →
    law3_DequeApart.j1 go33 s31 ((s42.1.1, ()), (s42.2.1.1, ()), ()) h49))
def law3_DequeApart.j3 (c_deque_Answer : Den kdequeOp → Heap → (Den kparkLot → Heap → Prop) → Prop) (Q : Bool → Heap → Prop) (go33 : (Int × (((Fin 4 → Den kdequeOp) × Unit) × (((Fin 4 → Den kdequeOp) × Unit) × Unit))) → Heap → Prop) (s31 : (Int × (((Fin 4 → Den kdequeOp) × Unit) × (((Fin 4 → Den kdequeOp) × Unit) × Unit)))) (s40 : (Int × Unit)) (s42 : (((Fin 4 → Den kdequeOp) × Unit) × (((Fin 4 → Den kdequeOp) × Unit) × Unit))) (h43 : Heap) : Prop :=
    (0 ≤ s40.1 ∧ s40.1 < (4 : Int)) ∧
    c_deque_Answer (aget (n := 4) (a := kdequeOp) s42.1.1 (s40.1 : Int).toNat) h43 fun r44 h45 =>
    (0 ≤ s40.1 ∧ s40.1 < (4 : Int)) ∧
    c_deque_Answer (aget (n := 4) (a := kdequeOp) s42.2.1.1 (s40.1 : Int).toNat) h45 fun r46 h47 =>
    (((decide (r44.1 ≠ r46.1)) = true →
    law3_DequeApart.j2 Q go33 s31 s42 (true, ()) h47) ∧
    ((decide (r44.1 ≠ r46.1)) = false →
    (((decide (r44.2.1 ≠ r46.2.1)) = true →
    law3_DequeApart.j2 Q go33 s31 s42 (true, ()) h47) ∧
    ((decide (r44.2.1 ≠ r46.2.1)) = false →
    law3_DequeApart.j2 Q go33 s31 s42 ((decide (r44.1 = 1)), ()) h47))))
def law3_DequeApart.j4 (c_law3_turned : Option Addr → Den kparkLot → Den kdequeOp → Den klaw3Turn → Heap → (Den kdequeOp → Heap → Prop) → Prop) (c_deque_Answer : Den kdequeOp → Heap → (Den kparkLot → Heap → Prop) → Prop) (Q : Bool → Heap → Prop) (s29 : (Sl × (Option Addr × (Option Addr × (Option Addr × (Den kparkLot × (Den kparkLot × (Den kparkLot × (Den kparkLot × Unit))))))))) (go33 : (Int × (((Fin 4 → Den kdequeOp) × Unit) × (((Fin 4 → Den kdequeOp) × Unit) × Unit))) → Heap → Prop) (s31 : (Int × (((Fin 4 → Den kdequeOp) × Unit) × (((Fin 4 → Den kdequeOp) × Unit) × Unit)))) (t37 : Den klaw3Turn) (s40 : (Int × Unit)) (h41 : Heap) : Prop :=
    (((decide (s40.1 < 2)) = true →
    (0 ≤ s40.1 ∧ s40.1 < (4 : Int)) ∧
    c_law3_turned s29.2.1 (s29.2.2.2.2.1.1, (s29.2.2.2.2.1.2.1, ())) (aget (n := 4) (a := kdequeOp) s31.2.1.1 (s40.1 : Int).toNat) (t37.1, (t37.2.1, (t37.2.2.1, (t37.2.2.2.1, ())))) h41 fun r50 h51 =>
    (0 ≤ s40.1 ∧ s40.1 < (4 : Int)) ∧
    (0 ≤ s40.1 ∧ s40.1 < (4 : Int)) ∧
    c_law3_turned s29.2.2.1 (s29.2.2.2.2.2.2.1.1, (s29.2.2.2.2.2.2.1.2.1, ())) (aget (n := 4) (a := kdequeOp) s31.2.2.1.1 (s40.1 : Int).toNat) (t37.1, (t37.2.1, (t37.2.2.1, (t37.2.2.2.1, ())))) h51 fun r52 h53 =>
    (0 ≤ s40.1 ∧ s40.1 < (4 : Int)) ∧
    law3_DequeApart.j3 c_deque_Answer Q go33 s31 s40 (((aset (n := 4) (a := kdequeOp) s31.2.1.1 (s40.1 : Int).toNat r50), ()), ((aset (n := 4) (a := kdequeOp) s31.2.2.1.1 (s40.1 : Int).toNat r52), ()), ()) h53) ∧
    ((decide (s40.1 < 2)) = false →
    (0 ≤ s40.1 ∧ s40.1 < (4 : Int)) ∧
    c_law3_turned s29.2.1 (s29.2.2.2.2.2.1.1, (s29.2.2.2.2.2.1.2.1, ())) (aget (n := 4) (a := kdequeOp) s31.2.1.1 (s40.1 : Int).toNat) (t37.1, (t37.2.1, (t37.2.2.1, (t37.2.2.2.1, ())))) h41 fun r54 h55 =>
    (0 ≤ s40.1 ∧ s40.1 < (4 : Int)) ∧
    (0 ≤ s40.1 ∧ s40.1 < (4 : Int)) ∧
    c_law3_turned s29.2.2.2.1 (s29.2.2.2.2.2.2.2.1.1, (s29.2.2.2.2.2.2.2.1.2.1, ())) (aget (n := 4) (a := kdequeOp) s31.2.2.1.1 (s40.1 : Int).toNat) (t37.1, (t37.2.1, (t37.2.2.1, (t37.2.2.2.1, ())))) h55 fun r56 h57 =>
    (0 ≤ s40.1 ∧ s40.1 < (4 : Int)) ∧
    law3_DequeApart.j3 c_deque_Answer Q go33 s31 s40 (((aset (n := 4) (a := kdequeOp) s31.2.1.1 (s40.1 : Int).toNat r54), ()), ((aset (n := 4) (a := kdequeOp) s31.2.2.1.1 (s40.1 : Int).toNat r56), ()), ()) h57))
def law3_DequeApart.l5 (c_law3_mod : Int → Int → Heap → (Int → Heap → Prop) → Prop) (c_law3_turned : Option Addr → Den kparkLot → Den kdequeOp → Den klaw3Turn → Heap → (Den kdequeOp → Heap → Prop) → Prop) (c_deque_Answer : Den kdequeOp → Heap → (Den kparkLot → Heap → Prop) → Prop) (Q : Bool → Heap → Prop) (s29 : (Sl × (Option Addr × (Option Addr × (Option Addr × (Den kparkLot × (Den kparkLot × (Den kparkLot × (Den kparkLot × Unit))))))))) (go33 : (Int × (((Fin 4 → Den kdequeOp) × Unit) × (((Fin 4 → Den kdequeOp) × Unit) × Unit))) → Heap → Prop) (s31 : (Int × (((Fin 4 → Den kdequeOp) × Unit) × (((Fin 4 → Den kdequeOp) × Unit) × Unit)))) (h32 : Heap) : Prop :=
    (((decide (s31.1 < (s29.1.len : Int))) = true →
    (0 ≤ s31.1 ∧ s31.1 < (s29.1.len : Int)) ∧
    deref s29.1.a fun a36 =>
    ld klaw3Turn h32 (a36.add ((s31.1 : Int).toNat * 4)) fun t37 =>
    c_law3_mod t37.1 2 h32 fun r38 h39 =>
    ((t37.2.1 = true →
    law3_DequeApart.j4 c_law3_turned c_deque_Answer Q s29 go33 s31 t37 ((w64 ((w64 (2 * r38)) + 1)), ()) h39) ∧
    (t37.2.1 = false →
    law3_DequeApart.j4 c_law3_turned c_deque_Answer Q s29 go33 s31 t37 ((w64 (2 * r38)), ()) h39))) ∧
    ((decide (s31.1 < (s29.1.len : Int))) = false →
    Q true h32))
def law3_DequeApart.k6 (c_law3_mod : Int → Int → Heap → (Int → Heap → Prop) → Prop) (c_law3_turned : Option Addr → Den kparkLot → Den kdequeOp → Den klaw3Turn → Heap → (Den kdequeOp → Heap → Prop) → Prop) (c_deque_Answer : Den kdequeOp → Heap → (Den kparkLot → Heap → Prop) → Prop) (Q : Bool → Heap → Prop) (s29 : (Sl × (Option Addr × (Option Addr × (Option Addr × (Den kparkLot × (Den kparkLot × (Den kparkLot × (Den kparkLot × Unit))))))))) (h30 : Heap) : Prop :=
    Loop (law3_DequeApart.l5 c_law3_mod c_law3_turned c_deque_Answer Q s29) (0, ((fun _ => (0, (0, ((0, (0, ())), (0, (0, (0, (0, (0, (0, (0, (0, (0, (false, (0, (0, ())))))))))))))))), ()), ((fun _ => (0, (0, ((0, (0, ())), (0, (0, (0, (0, (0, (0, (0, (0, (0, (false, (0, (0, ())))))))))))))))), ()), ()) h30
def law3_DequeApart.j7 (c_law3_mod : Int → Int → Heap → (Int → Heap → Prop) → Prop) (c_law3_turned : Option Addr → Den kparkLot → Den kdequeOp → Den klaw3Turn → Heap → (Den kdequeOp → Heap → Prop) → Prop) (c_deque_Answer : Den kdequeOp → Heap → (Den kparkLot → Heap → Prop) → Prop) (Q : Bool → Heap → Prop) (s19 : (Int × (Int × (Int × (Int × (Sl × (Option Addr × (Option Addr × (Option Addr × Unit))))))))) (r21 : (Den kparkLot × (Int × Unit))) (r23 : (Den kparkLot × (Int × Unit))) (r25 : (Den kparkLot × (Int × Unit))) (r27 : (Den kparkLot × (Int × Unit))) (s58 : (Bool × Unit)) (h59 : Heap) : Prop :=
    ((s58.1 = true →
    Q false h59) ∧
    (s58.1 = false →
    law3_DequeApart.k6 c_law3_mod c_law3_turned c_deque_Answer Q (s19.2.2.2.2.1, s19.2.2.2.2.2.1, s19.2.2.2.2.2.2.1, s19.2.2.2.2.2.2.2.1, (r21.1.1, (r21.1.2.1, ())), (r23.1.1, (r23.1.2.1, ())), (r25.1.1, (r25.1.2.1, ())), (r27.1.1, (r27.1.2.1, ())), ()) h59))
def law3_DequeApart.k8 (c_deque_New : Value → Int → Int → Heap → ((Den kparkLot × (Int × Unit)) → Heap → Prop) → Prop) (c_law3_works : Option Addr → Den kparkLot → Heap → (Bool → Heap → Prop) → Prop) (c_law3_mod : Int → Int → Heap → (Int → Heap → Prop) → Prop) (c_law3_turned : Option Addr → Den kparkLot → Den kdequeOp → Den klaw3Turn → Heap → (Den kdequeOp → Heap → Prop) → Prop) (c_deque_Answer : Den kdequeOp → Heap → (Den kparkLot → Heap → Prop) → Prop) (Q : Bool → Heap → Prop) (s19 : (Int × (Int × (Int × (Int × (Sl × (Option Addr × (Option Addr × (Option Addr × Unit))))))))) (h20 : Heap) : Prop :=
    c_deque_New (Value.iface 24 (Kd.val (.ptr : Kd) s19.2.2.2.2.2.1)) s19.1 s19.2.1 h20 fun r21 h22 =>
    c_deque_New (Value.iface 24 (Kd.val (.ptr : Kd) s19.2.2.2.2.2.1)) s19.2.2.1 s19.2.2.2.1 h22 fun r23 h24 =>
    c_deque_New (Value.iface 24 (Kd.val (.ptr : Kd) s19.2.2.2.2.2.2.1)) s19.1 s19.2.1 h24 fun r25 h26 =>
    c_deque_New (Value.iface 24 (Kd.val (.ptr : Kd) s19.2.2.2.2.2.2.2.1)) s19.2.2.1 s19.2.2.2.1 h26 fun r27 h28 =>
    (((decide (r21.2.1 ≠ 0)) = true →
    law3_DequeApart.j7 c_law3_mod c_law3_turned c_deque_Answer Q s19 r21 r23 r25 r27 (true, ()) h28) ∧
    ((decide (r21.2.1 ≠ 0)) = false →
    (((decide (r23.2.1 ≠ 0)) = true →
    law3_DequeApart.j7 c_law3_mod c_law3_turned c_deque_Answer Q s19 r21 r23 r25 r27 (true, ()) h28) ∧
    ((decide (r23.2.1 ≠ 0)) = false →
    (((decide (r25.2.1 ≠ 0)) = true →
    law3_DequeApart.j7 c_law3_mod c_law3_turned c_deque_Answer Q s19 r21 r23 r25 r27 (true, ()) h28) ∧
    ((decide (r25.2.1 ≠ 0)) = false →
    (((decide (r27.2.1 ≠ 0)) = true →
    law3_DequeApart.j7 c_law3_mod c_law3_turned c_deque_Answer Q s19 r21 r23 r25 r27 (true, ()) h28) ∧
    ((decide (r27.2.1 ≠ 0)) = false →
    c_law3_works s19.2.2.2.2.2.1 (r21.1.1, (r21.1.2.1, ())) h28 fun r60 h61 =>
    (((!r60) = true →
    law3_DequeApart.j7 c_law3_mod c_law3_turned c_deque_Answer Q s19 r21 r23 r25 r27 (true, ()) h61) ∧
    ((!r60) = false →
    c_law3_works s19.2.2.2.2.2.1 (r23.1.1, (r23.1.2.1, ())) h61 fun r62 h63 =>
    (((!r62) = true →
    law3_DequeApart.j7 c_law3_mod c_law3_turned c_deque_Answer Q s19 r21 r23 r25 r27 (true, ()) h63) ∧
    ((!r62) = false →
    c_law3_works s19.2.2.2.2.2.2.1 (r25.1.1, (r25.1.2.1, ())) h63 fun r64 h65 =>
    (((!r64) = true →
    law3_DequeApart.j7 c_law3_mod c_law3_turned c_deque_Answer Q s19 r21 r23 r25 r27 (true, ()) h65) ∧
    ((!r64) = false →
    c_law3_works s19.2.2.2.2.2.2.2.1 (r27.1.1, (r27.1.2.1, ())) h65 fun r66 h67 =>
    law3_DequeApart.j7 c_law3_mod c_law3_turned c_deque_Answer Q s19 r21 r23 r25 r27 ((!r66), ()) h67))))))))))))))
def law3_DequeApart.j9 (c_deque_New : Value → Int → Int → Heap → ((Den kparkLot × (Int × Unit)) → Heap → Prop) → Prop) (c_law3_works : Option Addr → Den kparkLot → Heap → (Bool → Heap → Prop) → Prop) (c_law3_mod : Int → Int → Heap → (Int → Heap → Prop) → Prop) (c_law3_turned : Option Addr → Den kparkLot → Den kdequeOp → Den klaw3Turn → Heap → (Den kdequeOp → Heap → Prop) → Prop) (c_deque_Answer : Den kdequeOp → Heap → (Den kparkLot → Heap → Prop) → Prop) (Q : Bool → Heap → Prop) (s7 : (Int × (Int × (Int × (Int × (Sl × Unit)))))) (r13 : (Option Addr × (Int × Unit))) (r15 : (Option Addr × (Int × Unit))) (r17 : (Option Addr × (Int × Unit))) (s68 : (Bool × Unit)) (h69 : Heap) : Prop :=
    ((s68.1 = true →
    Q false h69) ∧
    (s68.1 = false →
    law3_DequeApart.k8 c_deque_New c_law3_works c_law3_mod c_law3_turned c_deque_Answer Q (s7.1, s7.2.1, s7.2.2.1, s7.2.2.2.1, s7.2.2.2.2.1, r13.1, r15.1, r17.1, ()) h69))
def law3_DequeApart.k10 (c_deque_Cells : Int → Int → Heap → (Int → Heap → Prop) → Prop) (c_cells_New : Int → Heap → ((Option Addr × (Int × Unit)) → Heap → Prop) → Prop) (c_deque_New : Value → Int → Int → Heap → ((Den kparkLot × (Int × Unit)) → Heap → Prop) → Prop) (c_law3_works : Option Addr → Den kparkLot → Heap → (Bool → Heap → Prop) → Prop) (c_law3_mod : Int → Int → Heap → (Int → Heap → Prop) → Prop) (c_law3_turned : Option Addr → Den kparkLot → Den kdequeOp → Den klaw3Turn → Heap → (Den kdequeOp → Heap → Prop) → Prop) (c_deque_Answer : Den kdequeOp → Heap → (Den kparkLot → Heap → Prop) → Prop) (Q : Bool → Heap → Prop) (s7 : (Int × (Int × (Int × (Int × (Sl × Unit)))))) (h8 : Heap) : Prop :=
    c_deque_Cells s7.1 s7.2.1 h8 fun r9 h10 =>
    c_deque_Cells s7.2.2.1 s7.2.2.2.1 h10 fun r11 h12 =>
    c_cells_New (w64 (r9 + r11)) h12 fun r13 h14 =>
    c_cells_New r9 h14 fun r15 h16 =>
    c_cells_New r11 h16 fun r17 h18 =>
    (((decide (r13.2.1 ≠ 0)) = true →
    law3_DequeApart.j9 c_deque_New c_law3_works c_law3_mod c_law3_turned c_deque_Answer Q s7 r13 r15 r17 (true, ()) h18) ∧
    ((decide (r13.2.1 ≠ 0)) = false →
    (((decide (r15.2.1 ≠ 0)) = true →
    law3_DequeApart.j9 c_deque_New c_law3_works c_law3_mod c_law3_turned c_deque_Answer Q s7 r13 r15 r17 (true, ()) h18) ∧
    ((decide (r15.2.1 ≠ 0)) = false →
    law3_DequeApart.j9 c_deque_New c_law3_works c_law3_mod c_law3_turned c_deque_Answer Q s7 r13 r15 r17 ((decide (r17.2.1 ≠ 0)), ()) h18))))
def law3_DequeApart.j11 (c_deque_Cells : Int → Int → Heap → (Int → Heap → Prop) → Prop) (c_cells_New : Int → Heap → ((Option Addr × (Int × Unit)) → Heap → Prop) → Prop) (c_deque_New : Value → Int → Int → Heap → ((Den kparkLot × (Int × Unit)) → Heap → Prop) → Prop) (c_law3_works : Option Addr → Den kparkLot → Heap → (Bool → Heap → Prop) → Prop) (c_law3_mod : Int → Int → Heap → (Int → Heap → Prop) → Prop) (c_law3_turned : Option Addr → Den kparkLot → Den kdequeOp → Den klaw3Turn → Heap → (Den kdequeOp → Heap → Prop) → Prop) (c_deque_Answer : Den kdequeOp → Heap → (Den kparkLot → Heap → Prop) → Prop) (first01 : Int) (most02 : Int) (first13 : Int) (most14 : Int) (turns5 : Sl) (Q : Bool → Heap → Prop) (s70 : (Bool × Unit)) (h71 : Heap) : Prop :=
    ((s70.1 = true →
    Q true h71) ∧
    (s70.1 = false →
    law3_DequeApart.k10 c_deque_Cells c_cells_New c_deque_New c_law3_works c_law3_mod c_law3_turned c_deque_Answer Q (first01, most02, first13, most14, turns5, ()) h71))
def law3_DequeApart.M (c_law3_capsOK : Int → Int → Heap → (Bool → Heap → Prop) → Prop) (c_deque_Cells : Int → Int → Heap → (Int → Heap → Prop) → Prop) (c_cells_New : Int → Heap → ((Option Addr × (Int × Unit)) → Heap → Prop) → Prop) (c_deque_New : Value → Int → Int → Heap → ((Den kparkLot × (Int × Unit)) → Heap → Prop) → Prop) (c_law3_works : Option Addr → Den kparkLot → Heap → (Bool → Heap → Prop) → Prop) (c_law3_mod : Int → Int → Heap → (Int → Heap → Prop) → Prop) (c_law3_turned : Option Addr → Den kparkLot → Den kdequeOp → Den klaw3Turn → Heap → (Den kdequeOp → Heap → Prop) → Prop) (c_deque_Answer : Den kdequeOp → Heap → (Den kparkLot → Heap → Prop) → Prop) (first01 : Int) (most02 : Int) (first13 : Int) (most14 : Int) (turns5 : Sl) (h6 : Heap) (Q : Bool → Heap → Prop) : Prop :=
    c_law3_capsOK first01 most02 h6 fun r72 h73 =>
    (((!r72) = true →
    law3_DequeApart.j11 c_deque_Cells c_cells_New c_deque_New c_law3_works c_law3_mod c_law3_turned c_deque_Answer first01 most02 first13 most14 turns5 Q (true, ()) h73) ∧
    ((!r72) = false →
    c_law3_capsOK first13 most14 h73 fun r74 h75 =>
    law3_DequeApart.j11 c_deque_Cells c_cells_New c_deque_New c_law3_works c_law3_mod c_law3_turned c_deque_Answer first01 most02 first13 most14 turns5 Q ((!r74), ()) h75))
def law3_DequeApart.mk : Mk := (.s .d (.k [.slot 0 (.int .i64), .slot 1 (.int .i64), .slot 2 (.int .i64), .slot 3 (.int .i64), .slot 4 .sl] [] (.j [.slot 45 .bool] .d (.c (.s .d .d) .d)) (.s .d (.s .d (.s .d (.s .d (.s .d (.k [.slot 0 (.int .i64), .slot 1 (.int .i64), .slot 2 (.int .i64), .slot 3 (.int .i64), .slot 4 .sl, .slot 13 .ptr, .slot 15 .ptr, .slot 17 .ptr] [] (.j [.slot 78 .bool] .d (.c (.s .d .d) .d)) (.s (.r [8]) (.s (.r [8]) (.s (.r [8]) (.s (.r [8]) (.k [.slot 4 .sl, .slot 13 .ptr, .slot 15 .ptr, .slot 17 .ptr, .box 19 kparkLot, .box 21 kparkLot, .box 23 kparkLot, .box 25 kparkLot] [(19, 19, 0), (21, 21, 0), (23, 23, 0), (25, 25, 0)] (.j [.slot 148 .bool] .d (.c (.s .d .d) .d)) (.s (.r [0, 1]) (.s (.s .d (.b (.l [.slot 29 (.int .i64), .box 27 (.pair (.arr 4 kdequeOp) .nil), .box 28 (.pair (.arr 4 kdequeOp) .nil)] (.s (.s .d (.c .d .d)) (.j [.box 27 (.pair (.arr 4 kdequeOp) .nil), .box 28 (.pair (.arr 4 kdequeOp) .nil)] (.b (.s (.r [4]) (.s .d (.j [.slot 31 (.int .i64)] (.s .d (.c .d .d)) (.j [.box 27 (.pair (.arr 4 kdequeOp) .nil), .box 28 (.pair (.arr 4 kdequeOp) .nil)] (.s .d (.c (.s (.q [] [27] [.p 0, .p 1, .p 3, .p 4, .w 2 [2, 7, 8, 9], .w 5 [5, 7, 8, 9], .w 6 [6, 7, 8, 9], .o 7, .p 8, .o 9]) (.q [] [28] [.p 0, .p 1, .p 3, .p 4, .w 2 [2, 7, 8, 9], .w 5 [5, 7, 8, 9], .w 6 [6, 7, 8, 9], .o 7, .p 8, .o 9])) (.s (.q [] [27] [.p 0, .p 1, .p 3, .p 4, .w 2 [2, 7, 8, 9], .w 5 [5, 7, 8, 9], .w 6 [6, 7, 8, 9], .o 7, .p 8, .o 9]) (.q [] [28] [.p 0, .p 1, .p 3, .p 4, .w 2 [2, 7, 8, 9], .w 5 [5, 7, 8, 9], .w 6 [6, 7, 8, 9], .o 7, .p 8, .o 9])))) (.s .d (.s .d (.j [.slot 230 .bool] .d (.c (.s .d .d) .d))))))))) .d))))) (.s .d .d))))))))))))))))

def cells_Arena_Cells.M  (a1 : Option Addr) (h2 : Heap) (Q : Sl → Heap → Prop) : Prop :=
    (((Option.isNone a1) = true →
    Q ⟨none, 0, 0⟩ h2) ∧
    ((Option.isNone a1) = false →
    deref a1 fun a3 =>
    ld (.sl : Kd) h2 (a3.add 2) fun t4 =>
    makeM ((.int .i64) : Kd) 8 h2 (t4.len : Int) (t4.len : Int) fun s5 h6 =>
    deref a1 fun a7 =>
    ld (.sl : Kd) h6 (a7.add 2) fun t8 =>
    copyM 1 h6 s5 t8 fun n9 h10 =>
    Q s5 h10))
def cells_Arena_Cells.mk : Mk := (.s .d (.s (.s .d (.c (.s .d .d) .d)) (.s .d (.s .d (.s .d .d)))))

def cells_Arena_Log.M  (a1 : Option Addr) (h2 : Heap) (Q : Sl → Heap → Prop) : Prop :=
    (((Option.isNone a1) = true →
    Q ⟨none, 0, 0⟩ h2) ∧
    ((Option.isNone a1) = false →
    deref a1 fun a3 =>
    ld (.sl : Kd) h2 (a3.add 3) fun t4 =>
    makeM kapiAccess 48 h2 (t4.len : Int) (t4.len : Int) fun s5 h6 =>
    deref a1 fun a7 =>
    ld (.sl : Kd) h6 (a7.add 3) fun t8 =>
    copyM 6 h6 s5 t8 fun n9 h10 =>
    Q s5 h10))
def cells_Arena_Log.mk : Mk := (.s .d (.s (.s .d (.c (.s .d .d) .d)) (.s .d (.s .d (.s .d .d)))))

def law3_mod.j1 (Q : Int → Heap → Prop) (s4 : (Int × Unit)) (h5 : Heap) : Prop :=
    Q s4.1 h5
def law3_mod.M  (x1 : Int) (n2 : Int) (h3 : Heap) (Q : Int → Heap → Prop) : Prop :=
    n2 ≠ 0 ∧
    (((decide ((Int.tmod x1 n2) < 0)) = true →
    law3_mod.j1 Q ((w64 ((Int.tmod x1 n2) + n2)), ()) h3) ∧
    ((decide ((Int.tmod x1 n2) < 0)) = false →
    law3_mod.j1 Q ((Int.tmod x1 n2), ()) h3))
def law3_mod.mk : Mk := (.s .d (.s .d (.j [.slot 5 (.int .i64)] (.s .d (.c .d .d)) (.s .d .d))))

def deque_New.M (c_deque_capsOK : Int → Int → Heap → (Bool → Heap → Prop) → Prop) (c_inv_Reserve : Value → Int → Heap → (Den kparkLot → Heap → Prop) → Prop) (c_inv_Store : Value → Int → Int → Heap → (Int → Heap → Prop) → Prop) (m1 : Value) (low2 : Int) (most3 : Int) (h4 : Heap) (Q : (Den kparkLot × (Int × Unit)) → Heap → Prop) : Prop :=
    isI m1 ∧
    (((isNilI m1) = true →
    Q ((0, (0, ())), 1, ()) h4) ∧
    ((isNilI m1) = false →
    c_deque_capsOK low2 most3 h4 fun r5 h6 =>
    (((!r5) = true →
    Q ((0, (0, ())), 30, ()) h6) ∧
    ((!r5) = false →
    c_inv_Reserve m1 (w64 (4 + low2)) h6 fun r7 h8 =>
    (((decide (r7.2.1 ≠ 0)) = true →
    Q ((0, (0, ())), r7.2.1, ()) h8) ∧
    ((decide (r7.2.1 ≠ 0)) = false →
    c_inv_Store m1 (w64 (r7.1 + 2)) (w64 (r7.1 + 3)) h8 fun r9 h10 =>
    (((decide (r9 ≠ 0)) = true →
    Q ((0, (0, ())), r9, ()) h10) ∧
    ((decide (r9 ≠ 0)) = false →
    c_inv_Store m1 (w64 (r7.1 + 3)) low2 h10 fun r11 h12 =>
    (((decide (r11 ≠ 0)) = true →
    Q ((0, (0, ())), r11, ()) h12) ∧
    ((decide (r11 ≠ 0)) = false →
    Q ((r7.1, (most3, ())), 0, ()) h12))))))))))
def deque_New.mk : Mk := (.s (.r [0]) (.s (.s .d (.c (.s .d .d) .d)) (.s (.s .d (.c (.s .d .d) .d)) (.s .d (.s (.s .d (.c (.s .d .d) .d)) (.s (.s .d (.s .d (.c (.s .d .d) .d))) (.s (.s .d (.s .d (.c (.s .d .d) .d))) (.s .d .d))))))))

def deque_Cells.l1 (most2 : Int) (Q : Int → Heap → Prop) (go8 : Den kparkLot → Heap → Prop) (s6 : Den kparkLot) (h7 : Heap) : Prop :=
    (((decide (s6.2.1 < most2)) = true →
    go8 ((w64 (s6.1 + (w64 (1 + (if most2 < (w64 (2 * s6.2.1)) then most2 else (w64 (2 * s6.2.1))))))), (if most2 < (w64 (2 * s6.2.1)) then most2 else (w64 (2 * s6.2.1))), ()) h7) ∧
    ((decide (s6.2.1 < most2)) = false →
    Q s6.1 h7))
def deque_Cells.M (c_deque_capsOK : Int → Int → Heap → (Bool → Heap → Prop) → Prop) (low1 : Int) (most2 : Int) (h3 : Heap) (Q : Int → Heap → Prop) : Prop :=
    c_deque_capsOK low1 most2 h3 fun r4 h5 =>
    (((!r4) = true →
    Q 0 h5) ∧
    ((!r4) = false →
    Loop (deque_Cells.l1 most2 Q) ((w64 (4 + low1)), low1, ()) h5))
def deque_Cells.mk : Mk := (.s .d (.s (.s .d (.c (.s .d .d) .d)) (.s .d (.s (.s .d (.b (.l [.slot 5 (.int .i64), .slot 6 (.int .i64)] (.s (.s .d (.c .d .d)) (.b (.s .d .d)))))) (.s .d .d)))))

def cells_Arena_Who.M  (a1 : Option Addr) (actor2 : Int) (h3 : Heap) (Q : Unit → Heap → Prop) : Prop :=
    (((Option.isSome a1) = true →
    deref a1 fun a4 =>
    st ((.int .i64) : Kd) h3 (a4.add 4) actor2 fun h5 =>
    Q () h5) ∧
    ((Option.isSome a1) = false →
    Q () h3))
def cells_Arena_Who.mk : Mk := (.s .d (.c .d .d))

def deque_Step.j1 (c_deque_Op_over : Den kdequeOp → Int → Int → Heap → (Den kdequeOp → Heap → Prop) → Prop) (c_deque_Op_access : Den kdequeOp → Value → Heap → (Den kparkLot → Heap → Prop) → Prop) (c_deque_Op_pushed : Den kdequeOp → Int → Heap → (Den kdequeOp → Heap → Prop) → Prop) (c_deque_Op_popped : Den kdequeOp → Int → Heap → (Den kdequeOp → Heap → Prop) → Prop) (c_deque_Op_stolen : Den kdequeOp → Int → Heap → (Den kdequeOp → Heap → Prop) → Prop) (c_deque_Op_looked : Den kdequeOp → Int → Heap → (Den kdequeOp → Heap → Prop) → Prop) (m1 : Value) (o2 : Den kdequeOp) (Q : Den kdequeOp → Heap → Prop) (s4 : ((Int × (Int × (Int × (Int × (Int × (Int × (Int × (Int × (Int × (Int × (Int × (Int × (Int × (Bool × Den kparkLot)))))))))))))) × Unit)) (h5 : Heap) : Prop :=
    isI m1 ∧
    (((isNilI m1) = true →
    c_deque_Op_over (o2.1, (o2.2.1, ((o2.2.2.1.1, (o2.2.2.1.2.1, ())), (o2.2.2.2.1, (o2.2.2.2.2.1, (o2.2.2.2.2.2.1, (o2.2.2.2.2.2.2.1, (o2.2.2.2.2.2.2.2.1, (o2.2.2.2.2.2.2.2.2.1, (o2.2.2.2.2.2.2.2.2.2.1, (o2.2.2.2.2.2.2.2.2.2.2.1, (o2.2.2.2.2.2.2.2.2.2.2.2.1, (o2.2.2.2.2.2.2.2.2.2.2.2.2.1, (o2.2.2.2.2.2.2.2.2.2.2.2.2.2.1, (o2.2.2.2.2.2.2.2.2.2.2.2.2.2.2.1, ()))))))))))))))) 1 0 h5 fun r6 h7 =>
    Q (r6.1, (r6.2.1, ((r6.2.2.1.1, (r6.2.2.1.2.1, ())), (r6.2.2.2.1, (r6.2.2.2.2.1, (r6.2.2.2.2.2.1, (r6.2.2.2.2.2.2.1, (r6.2.2.2.2.2.2.2.1, (r6.2.2.2.2.2.2.2.2.1, (r6.2.2.2.2.2.2.2.2.2.1, (r6.2.2.2.2.2.2.2.2.2.2.1, (r6.2.2.2.2.2.2.2.2.2.2.2.1, (r6.2.2.2.2.2.2.2.2.2.2.2.2.1, (r6.2.2.2.2.2.2.2.2.2.2.2.2.2.1, (r6.2.2.2.2.2.2.2.2.2.2.2.2.2.2.1, ()))))))))))))))) h7) ∧
    ((isNilI m1) = false →
    c_deque_Op_access (o2.1, (o2.2.1, ((o2.2.2.1.1, (o2.2.2.1.2.1, ())), (o2.2.2.2.1, (o2.2.2.2.2.1, (o2.2.2.2.2.2.1, (o2.2.2.2.2.2.2.1, (o2.2.2.2.2.2.2.2.1, (o2.2.2.2.2.2.2.2.2.1, (o2.2.2.2.2.2.2.2.2.2.1, (o2.2.2.2.2.2.2.2.2.2.2.1, (o2.2.2.2.2.2.2.2.2.2.2.2.1, (o2.2.2.2.2.2.2.2.2.2.2.2.2.1, (o2.2.2.2.2.2.2.2.2.2.2.2.2.2.1, (o2.2.2.2.2.2.2.2.2.2.2.2.2.2.2.1, ()))))))))))))))) m1 h5 fun r8 h9 =>
    (((decide (r8.2.1 ≠ 0)) = true →
    c_deque_Op_over (o2.1, (o2.2.1, ((o2.2.2.1.1, (o2.2.2.1.2.1, ())), (o2.2.2.2.1, (o2.2.2.2.2.1, (o2.2.2.2.2.2.1, (o2.2.2.2.2.2.2.1, (o2.2.2.2.2.2.2.2.1, (o2.2.2.2.2.2.2.2.2.1, (o2.2.2.2.2.2.2.2.2.2.1, (o2.2.2.2.2.2.2.2.2.2.2.1, (o2.2.2.2.2.2.2.2.2.2.2.2.1, (o2.2.2.2.2.2.2.2.2.2.2.2.2.1, (o2.2.2.2.2.2.2.2.2.2.2.2.2.2.1, (o2.2.2.2.2.2.2.2.2.2.2.2.2.2.2.1, ()))))))))))))))) 1 0 h9 fun r10 h11 =>
    Q (r10.1, (r10.2.1, ((r10.2.2.1.1, (r10.2.2.1.2.1, ())), (r10.2.2.2.1, (r10.2.2.2.2.1, (r10.2.2.2.2.2.1, (r10.2.2.2.2.2.2.1, (r10.2.2.2.2.2.2.2.1, (r10.2.2.2.2.2.2.2.2.1, (r10.2.2.2.2.2.2.2.2.2.1, (r10.2.2.2.2.2.2.2.2.2.2.1, (r10.2.2.2.2.2.2.2.2.2.2.2.1, (r10.2.2.2.2.2.2.2.2.2.2.2.2.1, (r10.2.2.2.2.2.2.2.2.2.2.2.2.2.1, (r10.2.2.2.2.2.2.2.2.2.2.2.2.2.2.1, ()))))))))))))))) h11) ∧
    ((decide (r8.2.1 ≠ 0)) = false →
    (((decide (o2.1 = 1)) = true →
    c_deque_Op_pushed (o2.1, (o2.2.1, ((o2.2.2.1.1, (o2.2.2.1.2.1, ())), (o2.2.2.2.1, (o2.2.2.2.2.1, (o2.2.2.2.2.2.1, (o2.2.2.2.2.2.2.1, (o2.2.2.2.2.2.2.2.1, (o2.2.2.2.2.2.2.2.2.1, (o2.2.2.2.2.2.2.2.2.2.1, (o2.2.2.2.2.2.2.2.2.2.2.1, (o2.2.2.2.2.2.2.2.2.2.2.2.1, (o2.2.2.2.2.2.2.2.2.2.2.2.2.1, (o2.2.2.2.2.2.2.2.2.2.2.2.2.2.1, (o2.2.2.2.2.2.2.2.2.2.2.2.2.2.2.1, ()))))))))))))))) r8.1 h9 fun r12 h13 =>
    Q (r12.1, (r12.2.1, ((r12.2.2.1.1, (r12.2.2.1.2.1, ())), (r12.2.2.2.1, (r12.2.2.2.2.1, (r12.2.2.2.2.2.1, (r12.2.2.2.2.2.2.1, (r12.2.2.2.2.2.2.2.1, (r12.2.2.2.2.2.2.2.2.1, (r12.2.2.2.2.2.2.2.2.2.1, (r12.2.2.2.2.2.2.2.2.2.2.1, (r12.2.2.2.2.2.2.2.2.2.2.2.1, (r12.2.2.2.2.2.2.2.2.2.2.2.2.1, (r12.2.2.2.2.2.2.2.2.2.2.2.2.2.1, (r12.2.2.2.2.2.2.2.2.2.2.2.2.2.2.1, ()))))))))))))))) h13) ∧
    ((decide (o2.1 = 1)) = false →
    (((decide (o2.1 = 2)) = true →
    c_deque_Op_popped (o2.1, (o2.2.1, ((o2.2.2.1.1, (o2.2.2.1.2.1, ())), (o2.2.2.2.1, (o2.2.2.2.2.1, (o2.2.2.2.2.2.1, (o2.2.2.2.2.2.2.1, (o2.2.2.2.2.2.2.2.1, (o2.2.2.2.2.2.2.2.2.1, (o2.2.2.2.2.2.2.2.2.2.1, (o2.2.2.2.2.2.2.2.2.2.2.1, (o2.2.2.2.2.2.2.2.2.2.2.2.1, (o2.2.2.2.2.2.2.2.2.2.2.2.2.1, (o2.2.2.2.2.2.2.2.2.2.2.2.2.2.1, (o2.2.2.2.2.2.2.2.2.2.2.2.2.2.2.1, ()))))))))))))))) r8.1 h9 fun r14 h15 =>
    Q (r14.1, (r14.2.1, ((r14.2.2.1.1, (r14.2.2.1.2.1, ())), (r14.2.2.2.1, (r14.2.2.2.2.1, (r14.2.2.2.2.2.1, (r14.2.2.2.2.2.2.1, (r14.2.2.2.2.2.2.2.1, (r14.2.2.2.2.2.2.2.2.1, (r14.2.2.2.2.2.2.2.2.2.1, (r14.2.2.2.2.2.2.2.2.2.2.1, (r14.2.2.2.2.2.2.2.2.2.2.2.1, (r14.2.2.2.2.2.2.2.2.2.2.2.2.1, (r14.2.2.2.2.2.2.2.2.2.2.2.2.2.1, (r14.2.2.2.2.2.2.2.2.2.2.2.2.2.2.1, ()))))))))))))))) h15) ∧
    ((decide (o2.1 = 2)) = false →
    (((decide (o2.1 = 3)) = true →
    c_deque_Op_stolen (o2.1, (o2.2.1, ((o2.2.2.1.1, (o2.2.2.1.2.1, ())), (o2.2.2.2.1, (o2.2.2.2.2.1, (o2.2.2.2.2.2.1, (o2.2.2.2.2.2.2.1, (o2.2.2.2.2.2.2.2.1, (o2.2.2.2.2.2.2.2.2.1, (o2.2.2.2.2.2.2.2.2.2.1, (o2.2.2.2.2.2.2.2.2.2.2.1, (o2.2.2.2.2.2.2.2.2.2.2.2.1, (o2.2.2.2.2.2.2.2.2.2.2.2.2.1, (o2.2.2.2.2.2.2.2.2.2.2.2.2.2.1, (o2.2.2.2.2.2.2.2.2.2.2.2.2.2.2.1, ()))))))))))))))) r8.1 h9 fun r16 h17 =>
    Q (r16.1, (r16.2.1, ((r16.2.2.1.1, (r16.2.2.1.2.1, ())), (r16.2.2.2.1, (r16.2.2.2.2.1, (r16.2.2.2.2.2.1, (r16.2.2.2.2.2.2.1, (r16.2.2.2.2.2.2.2.1, (r16.2.2.2.2.2.2.2.2.1, (r16.2.2.2.2.2.2.2.2.2.1, (r16.2.2.2.2.2.2.2.2.2.2.1, (r16.2.2.2.2.2.2.2.2.2.2.2.1, (r16.2.2.2.2.2.2.2.2.2.2.2.2.1, (r16.2.2.2.2.2.2.2.2.2.2.2.2.2.1, (r16.2.2.2.2.2.2.2.2.2.2.2.2.2.2.1, ()))))))))))))))) h17) ∧
    ((decide (o2.1 = 3)) = false →
    c_deque_Op_looked (o2.1, (o2.2.1, ((o2.2.2.1.1, (o2.2.2.1.2.1, ())), (o2.2.2.2.1, (o2.2.2.2.2.1, (o2.2.2.2.2.2.1, (o2.2.2.2.2.2.2.1, (o2.2.2.2.2.2.2.2.1, (o2.2.2.2.2.2.2.2.2.1, (o2.2.2.2.2.2.2.2.2.2.1, (o2.2.2.2.2.2.2.2.2.2.2.1, (o2.2.2.2.2.2.2.2.2.2.2.2.1, (o2.2.2.2.2.2.2.2.2.2.2.2.2.1, (o2.2.2.2.2.2.2.2.2.2.2.2.2.2.1, (o2.2.2.2.2.2.2.2.2.2.2.2.2.2.2.1, ()))))))))))))))) r8.1 h9 fun r18 h19 =>
    Q (r18.1, (r18.2.1, ((r18.2.2.1.1, (r18.2.2.1.2.1, ())), (r18.2.2.2.1, (r18.2.2.2.2.1, (r18.2.2.2.2.2.1, (r18.2.2.2.2.2.2.1, (r18.2.2.2.2.2.2.2.1, (r18.2.2.2.2.2.2.2.2.1, (r18.2.2.2.2.2.2.2.2.2.1, (r18.2.2.2.2.2.2.2.2.2.2.1, (r18.2.2.2.2.2.2.2.2.2.2.2.1, (r18.2.2.2.2.2.2.2.2.2.2.2.2.1, (r18.2.2.2.2.2.2.2.2.2.2.2.2.2.1, (r18.2.2.2.2.2.2.2.2.2.2.2.2.2.2.1, ()))))))))))))))) h19))))))))))
def deque_Step.j2 (c_deque_Op_over : Den kdequeOp → Int → Int → Heap → (Den kdequeOp → Heap → Prop) → Prop) (c_deque_Op_access : Den kdequeOp → Value → Heap → (Den kparkLot → Heap → Prop) → Prop) (c_deque_Op_pushed : Den kdequeOp → Int → Heap → (Den kdequeOp → Heap → Prop) → Prop) (c_deque_Op_popped : Den kdequeOp → Int → Heap → (Den kdequeOp → Heap → Prop) → Prop) (c_deque_Op_stolen : Den kdequeOp → Int → Heap → (Den kdequeOp → Heap → Prop) → Prop) (c_deque_Op_looked : Den kdequeOp → Int → Heap → (Den kdequeOp → Heap → Prop) → Prop) (m1 : Value) (o2 : Den kdequeOp) (Q : Den kdequeOp → Heap → Prop) (s20 : (Bool × Unit)) (h21 : Heap) : Prop :=
    ((s20.1 = true →
    Q (o2.1, (o2.2.1, ((o2.2.2.1.1, (o2.2.2.1.2.1, ())), (o2.2.2.2.1, (o2.2.2.2.2.1, (o2.2.2.2.2.2.1, (o2.2.2.2.2.2.2.1, (o2.2.2.2.2.2.2.2.1, (o2.2.2.2.2.2.2.2.2.1, (o2.2.2.2.2.2.2.2.2.2.1, (o2.2.2.2.2.2.2.2.2.2.2.1, (o2.2.2.2.2.2.2.2.2.2.2.2.1, (o2.2.2.2.2.2.2.2.2.2.2.2.2.1, (o2.2.2.2.2.2.2.2.2.2.2.2.2.2.1, (o2.2.2.2.2.2.2.2.2.2.2.2.2.2.2.1, ()))))))))))))))) h21) ∧
    (s20.1 = false →
    deque_Step.j1 c_deque_Op_over c_deque_Op_access c_deque_Op_pushed c_deque_Op_popped c_deque_Op_stolen c_deque_Op_looked m1 o2 Q ((0, (0, (0, (0, (0, (0, (0, (0, (0, (0, (0, (0, (0, (false, (0, (0, ())))))))))))))))), ()) h21))
def deque_Step.M (c_deque_Op_over : Den kdequeOp → Int → Int → Heap → (Den kdequeOp → Heap → Prop) → Prop) (c_deque_Op_access : Den kdequeOp → Value → Heap → (Den kparkLot → Heap → Prop) → Prop) (c_deque_Op_pushed : Den kdequeOp → Int → Heap → (Den kdequeOp → Heap → Prop) → Prop) (c_deque_Op_popped : Den kdequeOp → Int → Heap → (Den kdequeOp → Heap → Prop) → Prop) (c_deque_Op_stolen : Den kdequeOp → Int → Heap → (Den kdequeOp → Heap → Prop) → Prop) (c_deque_Op_looked : Den kdequeOp → Int → Heap → (Den kdequeOp → Heap → Prop) → Prop) (m1 : Value) (o2 : Den kdequeOp) (h3 : Heap) (Q : Den kdequeOp → Heap → Prop) : Prop :=
    (((eqK kdequeOp (o2.1, (o2.2.1, ((o2.2.2.1.1, (o2.2.2.1.2.1, ())), (o2.2.2.2.1, (o2.2.2.2.2.1, (o2.2.2.2.2.2.1, (o2.2.2.2.2.2.2.1, (o2.2.2.2.2.2.2.2.1, (o2.2.2.2.2.2.2.2.2.1, (o2.2.2.2.2.2.2.2.2.2.1, (o2.2.2.2.2.2.2.2.2.2.2.1, (o2.2.2.2.2.2.2.2.2.2.2.2.1, (o2.2.2.2.2.2.2.2.2.2.2.2.2.1, (o2.2.2.2.2.2.2.2.2.2.2.2.2.2.1, (o2.2.2.2.2.2.2.2.2.2.2.2.2.2.2.1, ()))))))))))))))) (0, (0, ((0, (0, ())), (0, (0, (0, (0, (0, (0, (0, (0, (0, (false, (0, (0, ())))))))))))))))) = true →
    deque_Step.j2 c_deque_Op_over c_deque_Op_access c_deque_Op_pushed c_deque_Op_popped c_deque_Op_stolen c_deque_Op_looked m1 o2 Q (true, ()) h3) ∧
    ((eqK kdequeOp (o2.1, (o2.2.1, ((o2.2.2.1.1, (o2.2.2.1.2.1, ())), (o2.2.2.2.1, (o2.2.2.2.2.1, (o2.2.2.2.2.2.1, (o2.2.2.2.2.2.2.1, (o2.2.2.2.2.2.2.2.1, (o2.2.2.2.2.2.2.2.2.1, (o2.2.2.2.2.2.2.2.2.2.1, (o2.2.2.2.2.2.2.2.2.2.2.1, (o2.2.2.2.2.2.2.2.2.2.2.2.1, (o2.2.2.2.2.2.2.2.2.2.2.2.2.1, (o2.2.2.2.2.2.2.2.2.2.2.2.2.2.1, (o2.2.2.2.2.2.2.2.2.2.2.2.2.2.2.1, ()))))))))))))))) (0, (0, ((0, (0, ())), (0, (0, (0, (0, (0, (0, (0, (0, (0, (false, (0, (0, ())))))))))))))))) = false →
    deque_Step.j2 c_deque_Op_over c_deque_Op_access c_deque_Op_pushed c_deque_Op_popped c_deque_Op_stolen c_deque_Op_looked m1 o2 Q ((decide (o2.2.1 = 0)), ()) h3))
def deque_Step.mk : Mk := (.s (.r [0, 1]) (.j [.box 4 (.pair (.int .i64) (.pair (.int .i64) (.pair (.int .i64) (.pair (.int .i64) (.pair (.int .i64) (.pair (.int .i64) (.pair (.int .i64) (.pair (.int .i64) (.pair (.int .i64) (.pair (.int .i64) (.pair (.int .i64) (.pair (.int .i64) (.pair (.int .i64) (.pair .bool kparkLot))))))))))))))] (.j [.slot 14 .bool] .d (.c (.s .d .d) .d)) (.s (.s .d (.c (.s .d .d) .d)) (.s .d (.s (.s .d (.c (.s .d .d) .d)) (.s (.s .d (.b (.s .d (.c (.s .d .d) (.s .d (.c (.s .d .d) (.s .d (.c (.s .d .d) .d)))))))) (.s .d .d)))))))

def cells_New.M (c_cells_good : Int → Heap → (Bool → Heap → Prop) → Prop) (size1 : Int) (h2 : Heap) (Q : (Option Addr × (Int × Unit)) → Heap → Prop) : Prop :=
    c_cells_good size1 h2 fun r3 h4 =>
    (((!r3) = true →
    Q (none, 3, ()) h4) ∧
    ((!r3) = false →
    new h4 (kcellsArena.cells ((size1, (0, ())), (Sl.none, (Sl.none, (0, (false, ())))))) fun p5 h6 =>
    Q ((some p5), 0, ()) h6))
def cells_New.mk : Mk := (.s .d (.s (.s .d (.c (.s .d .d) .d)) (.s .d .d)))

def deque_Answer.M  (o1 : Den kdequeOp) (h2 : Heap) (Q : Den kparkLot → Heap → Prop) : Prop :=
    (((eqK kdequeOp (o1.1, (o1.2.1, ((o1.2.2.1.1, (o1.2.2.1.2.1, ())), (o1.2.2.2.1, (o1.2.2.2.2.1, (o1.2.2.2.2.2.1, (o1.2.2.2.2.2.2.1, (o1.2.2.2.2.2.2.2.1, (o1.2.2.2.2.2.2.2.2.1, (o1.2.2.2.2.2.2.2.2.2.1, (o1.2.2.2.2.2.2.2.2.2.2.1, (o1.2.2.2.2.2.2.2.2.2.2.2.1, (o1.2.2.2.2.2.2.2.2.2.2.2.2.1, (o1.2.2.2.2.2.2.2.2.2.2.2.2.2.1, (o1.2.2.2.2.2.2.2.2.2.2.2.2.2.2.1, ()))))))))))))))) (0, (0, ((0, (0, ())), (0, (0, (0, (0, (0, (0, (0, (0, (0, (false, (0, (0, ())))))))))))))))) = true →
    Q (1, 0, ()) h2) ∧
    ((eqK kdequeOp (o1.1, (o1.2.1, ((o1.2.2.1.1, (o1.2.2.1.2.1, ())), (o1.2.2.2.1, (o1.2.2.2.2.1, (o1.2.2.2.2.2.1, (o1.2.2.2.2.2.2.1, (o1.2.2.2.2.2.2.2.1, (o1.2.2.2.2.2.2.2.2.1, (o1.2.2.2.2.2.2.2.2.2.1, (o1.2.2.2.2.2.2.2.2.2.2.1, (o1.2.2.2.2.2.2.2.2.2.2.2.1, (o1.2.2.2.2.2.2.2.2.2.2.2.2.1, (o1.2.2.2.2.2.2.2.2.2.2.2.2.2.1, (o1.2.2.2.2.2.2.2.2.2.2.2.2.2.2.1, ()))))))))))))))) (0, (0, ((0, (0, ())), (0, (0, (0, (0, (0, (0, (0, (0, (0, (false, (0, (0, ())))))))))))))))) = false →
    (((decide (o1.2.1 ≠ 0)) = true →
    Q (0, 0, ()) h2) ∧
    ((decide (o1.2.1 ≠ 0)) = false →
    Q (o1.2.2.2.2.2.2.2.2.2.2.2.2.2.1, o1.2.2.2.2.2.2.2.2.2.2.2.2.2.2.1, ()) h2))))
def deque_Answer.mk : Mk := (.s (.r [0]) (.s (.b (.s .d (.c (.s .d .d) (.s .d (.c (.s .d .d) .d))))) (.s (.q [] [] [.p 0, .p 2, .w 1 [1, 4, 5], .p 4, .w 3 [3, 5], .p 5]) .d)))

def law3_capsOK.M  (first1 : Int) (most2 : Int) (h3 : Heap) (Q : Bool → Heap → Prop) : Prop :=
    (((decide ((1 : Int) ≤ first1)) = true →
    (((decide (first1 ≤ most2)) = true →
    Q (decide (most2 ≤ 4096)) h3) ∧
    ((decide (first1 ≤ most2)) = false →
    Q false h3))) ∧
    ((decide ((1 : Int) ≤ first1)) = false →
    Q false h3))
def law3_capsOK.mk : Mk := (.s .d (.s .d .d))

def deque_Push.M (c_deque_begin : Int → Int → Den kparkLot → Int → Heap → (Den kdequeOp → Heap → Prop) → Prop) (d1 : Den kparkLot) (v2 : Int) (h3 : Heap) (Q : Den kdequeOp → Heap → Prop) : Prop :=
    c_deque_begin 1 1 (d1.1, (d1.2.1, ())) v2 h3 fun r4 h5 =>
    Q (r4.1, (r4.2.1, ((r4.2.2.1.1, (r4.2.2.1.2.1, ())), (r4.2.2.2.1, (r4.2.2.2.2.1, (r4.2.2.2.2.2.1, (r4.2.2.2.2.2.2.1, (r4.2.2.2.2.2.2.2.1, (r4.2.2.2.2.2.2.2.2.1, (r4.2.2.2.2.2.2.2.2.2.1, (r4.2.2.2.2.2.2.2.2.2.2.1, (r4.2.2.2.2.2.2.2.2.2.2.2.1, (r4.2.2.2.2.2.2.2.2.2.2.2.2.1, (r4.2.2.2.2.2.2.2.2.2.2.2.2.2.1, (r4.2.2.2.2.2.2.2.2.2.2.2.2.2.2.1, ()))))))))))))))) h5
def deque_Push.mk : Mk := (.s (.r [0, 1]) (.s .d .d))

def deque_Pop.M (c_deque_begin : Int → Int → Den kparkLot → Int → Heap → (Den kdequeOp → Heap → Prop) → Prop) (d1 : Den kparkLot) (h2 : Heap) (Q : Den kdequeOp → Heap → Prop) : Prop :=
    c_deque_begin 2 1 (d1.1, (d1.2.1, ())) 0 h2 fun r3 h4 =>
    Q (r3.1, (r3.2.1, ((r3.2.2.1.1, (r3.2.2.1.2.1, ())), (r3.2.2.2.1, (r3.2.2.2.2.1, (r3.2.2.2.2.2.1, (r3.2.2.2.2.2.2.1, (r3.2.2.2.2.2.2.2.1, (r3.2.2.2.2.2.2.2.2.1, (r3.2.2.2.2.2.2.2.2.2.1, (r3.2.2.2.2.2.2.2.2.2.2.1, (r3.2.2.2.2.2.2.2.2.2.2.2.1, (r3.2.2.2.2.2.2.2.2.2.2.2.2.1, (r3.2.2.2.2.2.2.2.2.2.2.2.2.2.1, (r3.2.2.2.2.2.2.2.2.2.2.2.2.2.2.1, ()))))))))))))))) h4
def deque_Pop.mk : Mk := (.s (.r [0, 1]) (.s .d .d))

def deque_Steal.M (c_deque_begin : Int → Int → Den kparkLot → Int → Heap → (Den kdequeOp → Heap → Prop) → Prop) (d1 : Den kparkLot) (h2 : Heap) (Q : Den kdequeOp → Heap → Prop) : Prop :=
    c_deque_begin 3 2 (d1.1, (d1.2.1, ())) 0 h2 fun r3 h4 =>
    Q (r3.1, (r3.2.1, ((r3.2.2.1.1, (r3.2.2.1.2.1, ())), (r3.2.2.2.1, (r3.2.2.2.2.1, (r3.2.2.2.2.2.1, (r3.2.2.2.2.2.2.1, (r3.2.2.2.2.2.2.2.1, (r3.2.2.2.2.2.2.2.2.1, (r3.2.2.2.2.2.2.2.2.2.1, (r3.2.2.2.2.2.2.2.2.2.2.1, (r3.2.2.2.2.2.2.2.2.2.2.2.1, (r3.2.2.2.2.2.2.2.2.2.2.2.2.1, (r3.2.2.2.2.2.2.2.2.2.2.2.2.2.1, (r3.2.2.2.2.2.2.2.2.2.2.2.2.2.2.1, ()))))))))))))))) h4
def deque_Steal.mk : Mk := (.s (.r [0, 1]) (.s .d .d))

def deque_Look.M (c_deque_begin : Int → Int → Den kparkLot → Int → Heap → (Den kdequeOp → Heap → Prop) → Prop) (d1 : Den kparkLot) (h2 : Heap) (Q : Den kdequeOp → Heap → Prop) : Prop :=
    c_deque_begin 4 2 (d1.1, (d1.2.1, ())) 0 h2 fun r3 h4 =>
    Q (r3.1, (r3.2.1, ((r3.2.2.1.1, (r3.2.2.1.2.1, ())), (r3.2.2.2.1, (r3.2.2.2.2.1, (r3.2.2.2.2.2.1, (r3.2.2.2.2.2.2.1, (r3.2.2.2.2.2.2.2.1, (r3.2.2.2.2.2.2.2.2.1, (r3.2.2.2.2.2.2.2.2.2.1, (r3.2.2.2.2.2.2.2.2.2.2.1, (r3.2.2.2.2.2.2.2.2.2.2.2.1, (r3.2.2.2.2.2.2.2.2.2.2.2.2.1, (r3.2.2.2.2.2.2.2.2.2.2.2.2.2.1, (r3.2.2.2.2.2.2.2.2.2.2.2.2.2.2.1, ()))))))))))))))) h4
def deque_Look.mk : Mk := (.s (.r [0, 1]) (.s .d .d))

def law3_whole.j1 (c_deque_Answer : Den kdequeOp → Heap → (Den kparkLot → Heap → Prop) → Prop) (Q : (Int × (Int × (Bool × Unit))) → Heap → Prop) (s5 : ((Int × (Int × (Int × (Int × (Int × (Int × (Int × (Int × (Int × (Int × (Int × (Int × (Int × (Bool × Den kparkLot)))))))))))))) × Unit)) (h6 : Heap) : Prop :=
    c_deque_Answer (s5.1.1, (s5.1.2.1, ((s5.1.2.2.1, (s5.1.2.2.2.1, ())), (s5.1.2.2.2.2.1, (s5.1.2.2.2.2.2.1, (s5.1.2.2.2.2.2.2.1, (s5.1.2.2.2.2.2.2.2.1, (s5.1.2.2.2.2.2.2.2.2.1, (s5.1.2.2.2.2.2.2.2.2.2.1, (s5.1.2.2.2.2.2.2.2.2.2.2.1, (s5.1.2.2.2.2.2.2.2.2.2.2.2.1, (s5.1.2.2.2.2.2.2.2.2.2.2.2.2.1, (s5.1.2.2.2.2.2.2.2.2.2.2.2.2.2.1, (s5.1.2.2.2.2.2.2.2.2.2.2.2.2.2.2.1, (s5.1.2.2.2.2.2.2.2.2.2.2.2.2.2.2.2.1, ()))))))))))))))) h6 fun r7 h8 =>
    Q (r7.1, r7.2.1, (decide (r7.1 ≠ 0)), ()) h8
def law3_whole.l2 (c_deque_Answer : Den kdequeOp → Heap → (Den kparkLot → Heap → Prop) → Prop) (c_deque_Step : Value → Den kdequeOp → Heap → (Den kdequeOp → Heap → Prop) → Prop) (m1 : Option Addr) (n3 : Int) (Q : (Int × (Int × (Bool × Unit))) → Heap → Prop) (go11 : (Int × ((Int × (Int × (Int × (Int × (Int × (Int × (Int × (Int × (Int × (Int × (Int × (Int × (Int × (Bool × Den kparkLot)))))))))))))) × Unit)) → Heap → Prop) (s9 : (Int × ((Int × (Int × (Int × (Int × (Int × (Int × (Int × (Int × (Int × (Int × (Int × (Int × (Int × (Bool × Den kparkLot)))))))))))))) × Unit))) (h10 : Heap) : Prop :=
    (((decide (s9.1 < n3)) = true →
    c_deque_Answer (s9.2.1.1, (s9.2.1.2.1, ((s9.2.1.2.2.1, (s9.2.1.2.2.2.1, ())), (s9.2.1.2.2.2.2.1, (s9.2.1.2.2.2.2.2.1, (s9.2.1.2.2.2.2.2.2.1, (s9.2.1.2.2.2.2.2.2.2.1, (s9.2.1.2.2.2.2.2.2.2.2.1, (s9.2.1.2.2.2.2.2.2.2.2.2.1, (s9.2.1.2.2.2.2.2.2.2.2.2.2.1, (s9.2.1.2.2.2.2.2.2.2.2.2.2.2.1, (s9.2.1.2.2.2.2.2.2.2.2.2.2.2.2.1, (s9.2.1.2.2.2.2.2.2.2.2.2.2.2.2.2.1, (s9.2.1.2.2.2.2.2.2.2.2.2.2.2.2.2.2.1, (s9.2.1.2.2.2.2.2.2.2.2.2.2.2.2.2.2.2.1, ()))))))))))))))) h10 fun r12 h13 =>
    (((decide (r12.1 ≠ 0)) = true →
    law3_whole.j1 c_deque_Answer Q ((s9.2.1.1, (s9.2.1.2.1, (s9.2.1.2.2.1, (s9.2.1.2.2.2.1, (s9.2.1.2.2.2.2.1, (s9.2.1.2.2.2.2.2.1, (s9.2.1.2.2.2.2.2.2.1, (s9.2.1.2.2.2.2.2.2.2.1, (s9.2.1.2.2.2.2.2.2.2.2.1, (s9.2.1.2.2.2.2.2.2.2.2.2.1, (s9.2.1.2.2.2.2.2.2.2.2.2.2.1, (s9.2.1.2.2.2.2.2.2.2.2.2.2.2.1, (s9.2.1.2.2.2.2.2.2.2.2.2.2.2.2.1, (s9.2.1.2.2.2.2.2.2.2.2.2.2.2.2.2.1, (s9.2.1.2.2.2.2.2.2.2.2.2.2.2.2.2.2.1, (s9.2.1.2.2.2.2.2.2.2.2.2.2.2.2.2.2.2.1, ())))))))))))))))), ()) h13) ∧
    ((decide (r12.1 ≠ 0)) = false →
    c_deque_Step (Value.iface 24 (Kd.val (.ptr : Kd) m1)) (s9.2.1.1, (s9.2.1.2.1, ((s9.2.1.2.2.1, (s9.2.1.2.2.2.1, ())), (s9.2.1.2.2.2.2.1, (s9.2.1.2.2.2.2.2.1, (s9.2.1.2.2.2.2.2.2.1, (s9.2.1.2.2.2.2.2.2.2.1, (s9.2.1.2.2.2.2.2.2.2.2.1, (s9.2.1.2.2.2.2.2.2.2.2.2.1, (s9.2.1.2.2.2.2.2.2.2.2.2.2.1, (s9.2.1.2.2.2.2.2.2.2.2.2.2.2.1, (s9.2.1.2.2.2.2.2.2.2.2.2.2.2.2.1, (s9.2.1.2.2.2.2.2.2.2.2.2.2.2.2.2.1, (s9.2.1.2.2.2.2.2.2.2.2.2.2.2.2.2.2.1, (s9.2.1.2.2.2.2.2.2.2.2.2.2.2.2.2.2.2.1, ()))))))))))))))) h13 fun r14 h15 =>
    go11 ((w64 (s9.1 + 1)), (r14.1, (r14.2.1, (r14.2.2.1.1, (r14.2.2.1.2.1, (r14.2.2.2.1, (r14.2.2.2.2.1, (r14.2.2.2.2.2.1, (r14.2.2.2.2.2.2.1, (r14.2.2.2.2.2.2.2.1, (r14.2.2.2.2.2.2.2.2.1, (r14.2.2.2.2.2.2.2.2.2.1, (r14.2.2.2.2.2.2.2.2.2.2.1, (r14.2.2.2.2.2.2.2.2.2.2.2.1, (r14.2.2.2.2.2.2.2.2.2.2.2.2.1, (r14.2.2.2.2.2.2.2.2.2.2.2.2.2.1, (r14.2.2.2.2.2.2.2.2.2.2.2.2.2.2.1, ())))))))))))))))), ()) h15))) ∧
    ((decide (s9.1 < n3)) = false →
    law3_whole.j1 c_deque_Answer Q ((s9.2.1.1, (s9.2.1.2.1, (s9.2.1.2.2.1, (s9.2.1.2.2.2.1, (s9.2.1.2.2.2.2.1, (s9.2.1.2.2.2.2.2.1, (s9.2.1.2.2.2.2.2.2.1, (s9.2.1.2.2.2.2.2.2.2.1, (s9.2.1.2.2.2.2.2.2.2.2.1, (s9.2.1.2.2.2.2.2.2.2.2.2.1, (s9.2.1.2.2.2.2.2.2.2.2.2.2.1, (s9.2.1.2.2.2.2.2.2.2.2.2.2.2.1, (s9.2.1.2.2.2.2.2.2.2.2.2.2.2.2.1, (s9.2.1.2.2.2.2.2.2.2.2.2.2.2.2.2.1, (s9.2.1.2.2.2.2.2.2.2.2.2.2.2.2.2.2.1, (s9.2.1.2.2.2.2.2.2.2.2.2.2.2.2.2.2.2.1, ())))))))))))))))), ()) h10))
def law3_whole.M (c_deque_Answer : Den kdequeOp → Heap → (Den kparkLot → Heap → Prop) → Prop) (c_deque_Step : Value → Den kdequeOp → Heap → (Den kdequeOp → Heap → Prop) → Prop) (m1 : Option Addr) (o2 : Den kdequeOp) (n3 : Int) (h4 : Heap) (Q : (Int × (Int × (Bool × Unit))) → Heap → Prop) : Prop :=
    Loop (law3_whole.l2 c_deque_Answer c_deque_Step m1 n3 Q) (0, (o2.1, (o2.2.1, (o2.2.2.1.1, (o2.2.2.1.2.1, (o2.2.2.2.1, (o2.2.2.2.2.1, (o2.2.2.2.2.2.1, (o2.2.2.2.2.2.2.1, (o2.2.2.2.2.2.2.2.1, (o2.2.2.2.2.2.2.2.2.1, (o2.2.2.2.2.2.2.2.2.2.1, (o2.2.2.2.2.2.2.2.2.2.2.1, (o2.2.2.2.2.2.2.2.2.2.2.2.1, (o2.2.2.2.2.2.2.2.2.2.2.2.2.1, (o2.2.2.2.2.2.2.2.2.2.2.2.2.2.1, (o2.2.2.2.2.2.2.2.2.2.2.2.2.2.2.1, ())))))))))))))))), ()) h4
def law3_whole.mk : Mk := (.s (.r [0]) (.j [.box 4 (.pair (.int .i64) (.pair (.int .i64) (.pair (.int .i64) (.pair (.int .i64) (.pair (.int .i64) (.pair (.int .i64) (.pair (.int .i64) (.pair (.int .i64) (.pair (.int .i64) (.pair (.int .i64) (.pair (.int .i64) (.pair (.int .i64) (.pair (.int .i64) (.pair .bool kparkLot))))))))))))))] (.s .d (.b (.l [.slot 9 (.int .i64), .box 4 (.pair (.int .i64) (.pair (.int .i64) (.pair (.int .i64) (.pair (.int .i64) (.pair (.int .i64) (.pair (.int .i64) (.pair (.int .i64) (.pair (.int .i64) (.pair (.int .i64) (.pair (.int .i64) (.pair (.int .i64) (.pair (.int .i64) (.pair (.int .i64) (.pair .bool kparkLot))))))))))))))] (.s (.s .d (.c .d .d)) (.s (.b (.s .d (.s (.s .d (.c .d .d)) .d))) .d))))) (.s .d (.s .d .d))))

def law3_works.M (c_deque_Push : Den kparkLot → Int → Heap → (Den kdequeOp → Heap → Prop) → Prop) (c_law3_whole : Option Addr → Den kdequeOp → Int → Heap → ((Int × (Int × (Bool × Unit))) → Heap → Prop) → Prop) (c_deque_Steal : Den kparkLot → Heap → (Den kdequeOp → Heap → Prop) → Prop) (c_deque_Look : Den kparkLot → Heap → (Den kdequeOp → Heap → Prop) → Prop) (m1 : Option Addr) (d2 : Den kparkLot) (h3 : Heap) (Q : Bool → Heap → Prop) : Prop :=
    c_deque_Push (d2.1, (d2.2.1, ())) 7 h3 fun r4 h5 =>
    c_law3_whole m1 r4 6 h5 fun r6 h7 =>
    c_deque_Steal (d2.1, (d2.2.1, ())) h7 fun r8 h9 =>
    c_law3_whole m1 r8 6 h9 fun r10 h11 =>
    c_deque_Look (d2.1, (d2.2.1, ())) h11 fun r12 h13 =>
    c_law3_whole m1 r12 2 h13 fun r14 h15 =>
    ((r6.2.2.1 = true →
    ((r10.2.2.1 = true →
    ((r14.2.2.1 = true →
    (((decide (r6.1 = 2)) = true →
    (((decide (r10.1 = 4)) = true →
    (((decide (r10.2.1 = 7)) = true →
    Q (decide (r14.1 = 8)) h15) ∧
    ((decide (r10.2.1 = 7)) = false →
    Q false h15))) ∧
    ((decide (r10.1 = 4)) = false →
    Q false h15))) ∧
    ((decide (r6.1 = 2)) = false →
    Q false h15))) ∧
    (r14.2.2.1 = false →
    Q false h15))) ∧
    (r10.2.2.1 = false →
    Q false h15))) ∧
    (r6.2.2.1 = false →
    Q false h15))
def law3_works.mk : Mk := (.s (.r [0]) (.s .d (.s .d (.s .d (.s .d .d)))))

def law3_turned.j1 (c_deque_Step : Value → Den kdequeOp → Heap → (Den kdequeOp → Heap → Prop) → Prop) (m1 : Option Addr) (Q : Den kdequeOp → Heap → Prop) (s8 : ((Int × (Int × (Int × (Int × (Int × (Int × (Int × (Int × (Int × (Int × (Int × (Int × (Int × (Bool × Den kparkLot)))))))))))))) × Unit)) (h9 : Heap) : Prop :=
    c_deque_Step (Value.iface 24 (Kd.val (.ptr : Kd) m1)) (s8.1.1, (s8.1.2.1, ((s8.1.2.2.1, (s8.1.2.2.2.1, ())), (s8.1.2.2.2.2.1, (s8.1.2.2.2.2.2.1, (s8.1.2.2.2.2.2.2.1, (s8.1.2.2.2.2.2.2.2.1, (s8.1.2.2.2.2.2.2.2.2.1, (s8.1.2.2.2.2.2.2.2.2.2.1, (s8.1.2.2.2.2.2.2.2.2.2.2.1, (s8.1.2.2.2.2.2.2.2.2.2.2.2.1, (s8.1.2.2.2.2.2.2.2.2.2.2.2.2.1, (s8.1.2.2.2.2.2.2.2.2.2.2.2.2.2.1, (s8.1.2.2.2.2.2.2.2.2.2.2.2.2.2.2.1, (s8.1.2.2.2.2.2.2.2.2.2.2.2.2.2.2.2.1, ()))))))))))))))) h9 fun r10 h11 =>
    Q (r10.1, (r10.2.1, ((r10.2.2.1.1, (r10.2.2.1.2.1, ())), (r10.2.2.2.1, (r10.2.2.2.2.1, (r10.2.2.2.2.2.1, (r10.2.2.2.2.2.2.1, (r10.2.2.2.2.2.2.2.1, (r10.2.2.2.2.2.2.2.2.1, (r10.2.2.2.2.2.2.2.2.2.1, (r10.2.2.2.2.2.2.2.2.2.2.1, (r10.2.2.2.2.2.2.2.2.2.2.2.1, (r10.2.2.2.2.2.2.2.2.2.2.2.2.1, (r10.2.2.2.2.2.2.2.2.2.2.2.2.2.1, (r10.2.2.2.2.2.2.2.2.2.2.2.2.2.2.1, ()))))))))))))))) h11
def law3_turned.M (c_deque_Answer : Den kdequeOp → Heap → (Den kparkLot → Heap → Prop) → Prop) (c_deque_Push : Den kparkLot → Int → Heap → (Den kdequeOp → Heap → Prop) → Prop) (c_deque_Steal : Den kparkLot → Heap → (Den kdequeOp → Heap → Prop) → Prop) (c_deque_Pop : Den kparkLot → Heap → (Den kdequeOp → Heap → Prop) → Prop) (c_deque_Step : Value → Den kdequeOp → Heap → (Den kdequeOp → Heap → Prop) → Prop) (m1 : Option Addr) (d2 : Den kparkLot) (o3 : Den kdequeOp) (t4 : Den klaw3Turn) (h5 : Heap) (Q : Den kdequeOp → Heap → Prop) : Prop :=
    c_deque_Answer (o3.1, (o3.2.1, ((o3.2.2.1.1, (o3.2.2.1.2.1, ())), (o3.2.2.2.1, (o3.2.2.2.2.1, (o3.2.2.2.2.2.1, (o3.2.2.2.2.2.2.1, (o3.2.2.2.2.2.2.2.1, (o3.2.2.2.2.2.2.2.2.1, (o3.2.2.2.2.2.2.2.2.2.1, (o3.2.2.2.2.2.2.2.2.2.2.1, (o3.2.2.2.2.2.2.2.2.2.2.2.1, (o3.2.2.2.2.2.2.2.2.2.2.2.2.1, (o3.2.2.2.2.2.2.2.2.2.2.2.2.2.1, (o3.2.2.2.2.2.2.2.2.2.2.2.2.2.2.1, ()))))))))))))))) h5 fun r6 h7 =>
    (((decide (r6.1 ≠ 0)) = true →
    c_deque_Push (d2.1, (d2.2.1, ())) t4.2.2.2.1 h7 fun r12 h13 =>
    ((t4.2.1 = true →
    c_deque_Steal (d2.1, (d2.2.1, ())) h13 fun r14 h15 =>
    law3_turned.j1 c_deque_Step m1 Q ((r14.1, (r14.2.1, (r14.2.2.1.1, (r14.2.2.1.2.1, (r14.2.2.2.1, (r14.2.2.2.2.1, (r14.2.2.2.2.2.1, (r14.2.2.2.2.2.2.1, (r14.2.2.2.2.2.2.2.1, (r14.2.2.2.2.2.2.2.2.1, (r14.2.2.2.2.2.2.2.2.2.1, (r14.2.2.2.2.2.2.2.2.2.2.1, (r14.2.2.2.2.2.2.2.2.2.2.2.1, (r14.2.2.2.2.2.2.2.2.2.2.2.2.1, (r14.2.2.2.2.2.2.2.2.2.2.2.2.2.1, (r14.2.2.2.2.2.2.2.2.2.2.2.2.2.2.1, ())))))))))))))))), ()) h15) ∧
    (t4.2.1 = false →
    ((t4.2.2.1 = true →
    c_deque_Pop (d2.1, (d2.2.1, ())) h13 fun r16 h17 =>
    law3_turned.j1 c_deque_Step m1 Q ((r16.1, (r16.2.1, (r16.2.2.1.1, (r16.2.2.1.2.1, (r16.2.2.2.1, (r16.2.2.2.2.1, (r16.2.2.2.2.2.1, (r16.2.2.2.2.2.2.1, (r16.2.2.2.2.2.2.2.1, (r16.2.2.2.2.2.2.2.2.1, (r16.2.2.2.2.2.2.2.2.2.1, (r16.2.2.2.2.2.2.2.2.2.2.1, (r16.2.2.2.2.2.2.2.2.2.2.2.1, (r16.2.2.2.2.2.2.2.2.2.2.2.2.1, (r16.2.2.2.2.2.2.2.2.2.2.2.2.2.1, (r16.2.2.2.2.2.2.2.2.2.2.2.2.2.2.1, ())))))))))))))))), ()) h17) ∧
    (t4.2.2.1 = false →
    law3_turned.j1 c_deque_Step m1 Q ((r12.1, (r12.2.1, (r12.2.2.1.1, (r12.2.2.1.2.1, (r12.2.2.2.1, (r12.2.2.2.2.1, (r12.2.2.2.2.2.1, (r12.2.2.2.2.2.2.1, (r12.2.2.2.2.2.2.2.1, (r12.2.2.2.2.2.2.2.2.1, (r12.2.2.2.2.2.2.2.2.2.1, (r12.2.2.2.2.2.2.2.2.2.2.1, (r12.2.2.2.2.2.2.2.2.2.2.2.1, (r12.2.2.2.2.2.2.2.2.2.2.2.2.1, (r12.2.2.2.2.2.2.2.2.2.2.2.2.2.1, (r12.2.2.2.2.2.2.2.2.2.2.2.2.2.2.1, ())))))))))))))))), ()) h13))))) ∧
    ((decide (r6.1 ≠ 0)) = false →
    law3_turned.j1 c_deque_Step m1 Q ((o3.1, (o3.2.1, (o3.2.2.1.1, (o3.2.2.1.2.1, (o3.2.2.2.1, (o3.2.2.2.2.1, (o3.2.2.2.2.2.1, (o3.2.2.2.2.2.2.1, (o3.2.2.2.2.2.2.2.1, (o3.2.2.2.2.2.2.2.2.1, (o3.2.2.2.2.2.2.2.2.2.1, (o3.2.2.2.2.2.2.2.2.2.2.1, (o3.2.2.2.2.2.2.2.2.2.2.2.1, (o3.2.2.2.2.2.2.2.2.2.2.2.2.1, (o3.2.2.2.2.2.2.2.2.2.2.2.2.2.1, (o3.2.2.2.2.2.2.2.2.2.2.2.2.2.2.1, ())))))))))))))))), ()) h7))
def law3_turned.mk : Mk := (.s (.r [0, 1, 2, 3]) (.s .d (.j [.box 6 (.pair (.int .i64) (.pair (.int .i64) (.pair (.int .i64) (.pair (.int .i64) (.pair (.int .i64) (.pair (.int .i64) (.pair (.int .i64) (.pair (.int .i64) (.pair (.int .i64) (.pair (.int .i64) (.pair (.int .i64) (.pair (.int .i64) (.pair (.int .i64) (.pair .bool kparkLot))))))))))))))] (.s .d (.c (.s .d (.s .d (.c .d (.s .d (.c .d .d))))) .d)) (.s .d .d))))

def cells_Arena_Reserve.j1 (c_cells_ledger_refuse : Option Addr → Int → Heap → (Int → Heap → Prop) → Prop) (c_cells_ledger_take : Option Addr → Int → Heap → (Int → Heap → Prop) → Prop) (c_cells_Arena_note : Option Addr → Int → Int → Int → Int → Bool → Heap → (Unit → Heap → Prop) → Prop) (a1 : Option Addr) (n2 : Int) (Q : Den kparkLot → Heap → Prop) (s4 : (Option Addr × Unit)) (h5 : Heap) : Prop :=
    c_cells_ledger_refuse s4.1 n2 h5 fun r6 h7 =>
    (((decide (r6 ≠ 0)) = true →
    Q (0, r6, ()) h7) ∧
    ((decide (r6 ≠ 0)) = false →
    c_cells_ledger_take s4.1 n2 h7 fun r8 h9 =>
    deref a1 fun a10 =>
    ld (.sl : Kd) h9 (a10.add 2) fun t11 =>
    appendZM ((.int .i64) : Kd) 8 h9 t11 n2 fun t12 h13 =>
    deref a1 fun a14 =>
    st (.sl : Kd) h13 (a14.add 2) t12 fun h15 =>
    c_cells_Arena_note a1 4 r8 n2 0 true h15 fun r16 h17 =>
    Q (r8, 0, ()) h17))
def cells_Arena_Reserve.M (c_cells_ledger_refuse : Option Addr → Int → Heap → (Int → Heap → Prop) → Prop) (c_cells_ledger_take : Option Addr → Int → Heap → (Int → Heap → Prop) → Prop) (c_cells_Arena_note : Option Addr → Int → Int → Int → Int → Bool → Heap → (Unit → Heap → Prop) → Prop) (a1 : Option Addr) (n2 : Int) (h3 : Heap) (Q : Den kparkLot → Heap → Prop) : Prop :=
    (((Option.isSome a1) = true →
    deref a1 fun a18 =>
    cells_Arena_Reserve.j1 c_cells_ledger_refuse c_cells_ledger_take c_cells_Arena_note a1 n2 Q ((some (a18.add 0)), ()) h3) ∧
    ((Option.isSome a1) = false →
    cells_Arena_Reserve.j1 c_cells_ledger_refuse c_cells_ledger_take c_cells_Arena_note a1 n2 Q (none, ()) h3))
def cells_Arena_Reserve.mk : Mk := (.s .d (.s .d (.j [.slot 6 .ptr] (.s .d (.c .d .d)) (.s (.s .d (.s .d (.c (.s .d .d) .d))) (.s .d (.s .d (.s .d (.s .d .d))))))))

def cells_Arena_Store.M (c_cells_Arena_outside : Option Addr → Int → Heap → (Bool → Heap → Prop) → Prop) (c_cells_Arena_note : Option Addr → Int → Int → Int → Int → Bool → Heap → (Unit → Heap → Prop) → Prop) (a1 : Option Addr) (addr2 : Int) (v3 : Int) (h4 : Heap) (Q : Int → Heap → Prop) : Prop :=
    c_cells_Arena_outside a1 addr2 h4 fun r5 h6 =>
    ((r5 = true →
    Q 20 h6) ∧
    (r5 = false →
    deref a1 fun a7 =>
    ld (.sl : Kd) h6 (a7.add 2) fun t8 =>
    (0 ≤ addr2 ∧ addr2 < (t8.len : Int)) ∧
    deref t8.a fun a9 =>
    st ((.int .i64) : Kd) h6 (a9.add ((addr2 : Int).toNat * 1)) v3 fun h10 =>
    c_cells_Arena_note a1 1 addr2 v3 0 true h10 fun r11 h12 =>
    Q 0 h12))
def cells_Arena_Store.mk : Mk := (.s .d (.s (.s .d (.c (.s .d .d) .d)) (.s .d (.s .d (.s .d .d)))))

def cells_Arena_Watch.M  (a1 : Option Addr) (on2 : Bool) (h3 : Heap) (Q : Unit → Heap → Prop) : Prop :=
    (((Option.isSome a1) = true →
    deref a1 fun a4 =>
    st (.bool : Kd) h3 (a4.add 5) on2 fun h5 =>
    Q () h5) ∧
    ((Option.isSome a1) = false →
    Q () h3))
def cells_Arena_Watch.mk : Mk := (.s .d (.c .d .d))

def deque_capsOK.M  (low1 : Int) (most2 : Int) (h3 : Heap) (Q : Bool → Heap → Prop) : Prop :=
    (((decide ((1 : Int) ≤ low1)) = true →
    (((decide (low1 ≤ most2)) = true →
    Q (decide (most2 ≤ 4096)) h3) ∧
    ((decide (low1 ≤ most2)) = false →
    Q false h3))) ∧
    ((decide ((1 : Int) ≤ low1)) = false →
    Q false h3))
def deque_capsOK.mk : Mk := (.s .d (.s .d .d))

def deque_Op_over.M  (o1 : Den kdequeOp) (code2 : Int) (v3 : Int) (h4 : Heap) (Q : Den kdequeOp → Heap → Prop) : Prop :=
    Q (o1.1, (0, ((o1.2.2.1.1, (o1.2.2.1.2.1, ())), (o1.2.2.2.1, (o1.2.2.2.2.1, (o1.2.2.2.2.2.1, (o1.2.2.2.2.2.2.1, (o1.2.2.2.2.2.2.2.1, (o1.2.2.2.2.2.2.2.2.1, (o1.2.2.2.2.2.2.2.2.2.1, (o1.2.2.2.2.2.2.2.2.2.2.1, (o1.2.2.2.2.2.2.2.2.2.2.2.1, (o1.2.2.2.2.2.2.2.2.2.2.2.2.1, (code2, (v3, ()))))))))))))))) h4
def deque_Op_over.mk : Mk := (.s (.r [0, 1]) (.s .d (.s .d .d)))

def deque_Op_access.j1 (c_inv_Load : Value → Int → Heap → (Den kparkLot → Heap → Prop) → Prop) (c_deque_place : Int → Int → Int → Heap → (Int → Heap → Prop) → Prop) (c_nil : Value → Prop) (o1 : Den kdequeOp) (m2 : Value) (Q : Den kparkLot → Heap → Prop) (s34 : (Int × Unit)) (h35 : Heap) : Prop :=
    c_nil (Value.func (.method "Load") (List.toArray [Kd.val (.iface : Kd) m2]) (List.toArray [])) ∧
    c_deque_place o1.2.2.2.2.2.2.1 o1.2.2.2.2.2.2.2.1 s34.1 h35 fun r36 h37 =>
    c_inv_Load m2 r36 h37 fun r38 h39 =>
    Q (r38.1, r38.2.1, ()) h39
def deque_Op_access.M (c_inv_Load : Value → Int → Heap → (Den kparkLot → Heap → Prop) → Prop) (c_inv_Reserve : Value → Int → Heap → (Den kparkLot → Heap → Prop) → Prop) (c_inv_Store : Value → Int → Int → Heap → (Int → Heap → Prop) → Prop) (c_deque_place : Int → Int → Int → Heap → (Int → Heap → Prop) → Prop) (c_deque_Op_next : Den kdequeOp → Heap → (Int → Heap → Prop) → Prop) (c_inv_CAS : Value → Int → Int → Int → Heap → ((Bool × (Int × Unit)) → Heap → Prop) → Prop) (c_nil : Value → Prop) (o1 : Den kdequeOp) (m2 : Value) (h3 : Heap) (Q : Den kparkLot → Heap → Prop) : Prop :=
    (((decide (o1.2.1 = 1)) = true →
    c_inv_Load m2 (w64 (o1.2.2.1.1 + 1)) h3 fun r4 h5 =>
    Q (r4.1, r4.2.1, ()) h5) ∧
    ((decide (o1.2.1 = 1)) = false →
    (((decide (o1.2.1 = 2)) = true →
    c_inv_Load m2 (w64 (o1.2.2.1.1 + 0)) h3 fun r6 h7 =>
    Q (r6.1, r6.2.1, ()) h7) ∧
    ((decide (o1.2.1 = 2)) = false →
    (((decide (o1.2.1 = 3)) = true →
    c_inv_Load m2 (w64 (o1.2.2.1.1 + 2)) h3 fun r8 h9 =>
    Q (r8.1, r8.2.1, ()) h9) ∧
    ((decide (o1.2.1 = 3)) = false →
    (((decide (o1.2.1 = 4)) = true →
    c_inv_Load m2 o1.2.2.2.2.2.2.1 h3 fun r10 h11 =>
    Q (r10.1, r10.2.1, ()) h11) ∧
    ((decide (o1.2.1 = 4)) = false →
    (((decide (o1.2.1 = 5)) = true →
    c_inv_Reserve m2 (w64 (1 + o1.2.2.2.2.2.2.2.2.2.1)) h3 fun r12 h13 =>
    Q (r12.1, r12.2.1, ()) h13) ∧
    ((decide (o1.2.1 = 5)) = false →
    (((decide (o1.2.1 = 6)) = true →
    c_inv_Store m2 o1.2.2.2.2.2.2.2.2.1 o1.2.2.2.2.2.2.2.2.2.1 h3 fun r14 h15 =>
    Q (0, r14, ()) h15) ∧
    ((decide (o1.2.1 = 6)) = false →
    (((decide (o1.2.1 = 7)) = true →
    c_nil (Value.func (.method "Load") (List.toArray [Kd.val (.iface : Kd) m2]) (List.toArray [])) ∧
    c_deque_place o1.2.2.2.2.2.2.1 o1.2.2.2.2.2.2.2.1 o1.2.2.2.2.2.2.2.2.2.2.1 h3 fun r16 h17 =>
    c_inv_Load m2 r16 h17 fun r18 h19 =>
    Q (r18.1, r18.2.1, ()) h19) ∧
    ((decide (o1.2.1 = 7)) = false →
    (((decide (o1.2.1 = 8)) = true →
    c_nil (Value.func (.method "Store") (List.toArray [Kd.val (.iface : Kd) m2]) (List.toArray [])) ∧
    c_deque_place o1.2.2.2.2.2.2.2.2.1 o1.2.2.2.2.2.2.2.2.2.1 o1.2.2.2.2.2.2.2.2.2.2.1 h3 fun r20 h21 =>
    c_inv_Store m2 r20 o1.2.2.2.2.2.2.2.2.2.2.2.1 h21 fun r22 h23 =>
    Q (0, r22, ()) h23) ∧
    ((decide (o1.2.1 = 8)) = false →
    (((decide (o1.2.1 = 9)) = true →
    c_inv_Store m2 (w64 (o1.2.2.1.1 + 2)) o1.2.2.2.2.2.2.2.2.1 h3 fun r24 h25 =>
    Q (0, r24, ()) h25) ∧
    ((decide (o1.2.1 = 9)) = false →
    (((decide (o1.2.1 = 10)) = true →
    c_nil (Value.func (.method "Store") (List.toArray [Kd.val (.iface : Kd) m2]) (List.toArray [])) ∧
    c_deque_place o1.2.2.2.2.2.2.1 o1.2.2.2.2.2.2.2.1 o1.2.2.2.2.2.1 h3 fun r26 h27 =>
    c_inv_Store m2 r26 o1.2.2.2.1 h27 fun r28 h29 =>
    Q (0, r28, ()) h29) ∧
    ((decide (o1.2.1 = 10)) = false →
    (((decide (o1.2.1 = 11)) = true →
    c_nil (Value.func (.method "Store") (List.toArray [Kd.val (.iface : Kd) m2]) (List.toArray [])) ∧
    c_deque_Op_next (o1.1, (o1.2.1, ((o1.2.2.1.1, (o1.2.2.1.2.1, ())), (o1.2.2.2.1, (o1.2.2.2.2.1, (o1.2.2.2.2.2.1, (o1.2.2.2.2.2.2.1, (o1.2.2.2.2.2.2.2.1, (o1.2.2.2.2.2.2.2.2.1, (o1.2.2.2.2.2.2.2.2.2.1, (o1.2.2.2.2.2.2.2.2.2.2.1, (o1.2.2.2.2.2.2.2.2.2.2.2.1, (o1.2.2.2.2.2.2.2.2.2.2.2.2.1, (o1.2.2.2.2.2.2.2.2.2.2.2.2.2.1, (o1.2.2.2.2.2.2.2.2.2.2.2.2.2.2.1, ()))))))))))))))) h3 fun r30 h31 =>
    c_inv_Store m2 (w64 (o1.2.2.1.1 + 1)) r30 h31 fun r32 h33 =>
    Q (0, r32, ()) h33) ∧
    ((decide (o1.2.1 = 11)) = false →
    (((decide (o1.2.1 = 12)) = true →
    (((decide (o1.1 = 2)) = true →
    deque_Op_access.j1 c_inv_Load c_deque_place c_nil o1 m2 Q (o1.2.2.2.2.2.1, ()) h3) ∧
    ((decide (o1.1 = 2)) = false →
    deque_Op_access.j1 c_inv_Load c_deque_place c_nil o1 m2 Q (o1.2.2.2.2.1, ()) h3))) ∧
    ((decide (o1.2.1 = 12)) = false →
    c_inv_CAS m2 (w64 (o1.2.2.1.1 + 0)) o1.2.2.2.2.1 (w64 (o1.2.2.2.2.1 + 1)) h3 fun r40 h41 =>
    ((r40.1 = true →
    Q (1, r40.2.1, ()) h41) ∧
    (r40.1 = false →
    Q (0, r40.2.1, ()) h41))))))))))))))))))))))))))
def deque_Op_access.mk : Mk := (.s (.r [0]) (.s .d (.s (.s .d (.b (.s .d (.c (.s .d .d) (.s .d (.c (.s .d .d) (.s .d (.c (.s .d .d) (.s .d (.c (.s .d .d) (.s .d (.c (.s .d (.s .d .d)) (.s .d (.c (.s .d .d) (.s .d (.c (.s (.q [] [] [.p 0, .p 1, .p 3, .p 5, .p 8, .p 9, .p 10, .w 2 [2, 7, 11, 12, 13, 14, 15], .w 4 [4, 7, 11, 12, 13, 14, 15], .w 6 [6, 7, 11, 12, 13, 14, 15], .o 7, .o 11, .p 12, .p 13, .p 14, .p 15]) .d) (.s .d (.c (.s (.q [] [] [.p 0, .p 1, .p 3, .p 5, .p 8, .p 10, .p 11, .p 12, .w 2 [2, 7, 13, 14, 15], .w 4 [4, 7, 13, 14, 15], .w 6 [6, 7, 13, 14, 15], .w 9 [9, 13, 14, 15], .o 7, .o 13, .p 14, .p 15]) .d) (.s .d (.c (.s .d .d) (.s .d (.c (.s (.q [] [] [.p 0, .p 1, .p 3, .p 5, .p 8, .p 10, .p 11, .p 12, .w 2 [2, 7, 13, 14, 15], .w 4 [4, 7, 13, 14, 15], .w 6 [6, 7, 13, 14, 15], .w 9 [9, 13, 14, 15], .o 7, .o 13, .p 14, .p 15]) .d) (.s .d (.c (.s (.q [] [] [.p 0, .p 1, .p 2, .p 5, .p 6, .p 7, .w 3 [3, 4, 8, 9, 10], .o 4, .o 8, .p 9, .p 10]) .d) (.s .d (.c (.s .d (.j [.slot 9 (.int .i64)] (.s .d (.c .d .d)) (.s (.q [] [] [.p 0, .p 1, .p 3, .p 5, .p 7, .p 8, .p 9, .w 2 [2, 6, 10, 11, 12, 13, 14], .w 4 [4, 6, 10, 11, 12, 13, 14], .o 6, .o 10, .p 11, .p 12, .p 13, .p 14]) .d))) .d)))))))))))))))))))))))))) (.s .d (.s (.s .d (.c (.s .d .d) .d)) (.s .d .d))))))

def deque_Op_pushed.j1 (Q : Den kdequeOp → Heap → Prop) (s4 : ((Int × (Int × (Int × (Int × (Int × (Int × (Int × (Int × (Int × (Int × (Int × (Int × (Int × (Bool × Den kparkLot)))))))))))))) × ((Int × (Int × (Int × (Int × (Int × (Int × (Int × (Int × (Int × (Int × (Int × (Int × (Int × (Bool × Den kparkLot)))))))))))))) × Unit))) (h5 : Heap) : Prop :=
    Q (s4.1.1, (s4.1.2.1, ((s4.1.2.2.1, (s4.1.2.2.2.1, ())), (s4.1.2.2.2.2.1, (s4.1.2.2.2.2.2.1, (s4.1.2.2.2.2.2.2.1, (s4.1.2.2.2.2.2.2.2.1, (s4.1.2.2.2.2.2.2.2.2.1, (s4.1.2.2.2.2.2.2.2.2.2.1, (s4.1.2.2.2.2.2.2.2.2.2.2.1, (s4.1.2.2.2.2.2.2.2.2.2.2.2.1, (s4.1.2.2.2.2.2.2.2.2.2.2.2.2.1, (s4.1.2.2.2.2.2.2.2.2.2.2.2.2.2.1, (s4.1.2.2.2.2.2.2.2.2.2.2.2.2.2.2.1, (s4.1.2.2.2.2.2.2.2.2.2.2.2.2.2.2.2.1, ()))))))))))))))) h5
def deque_Op_pushed.M (c_deque_Op_over : Den kdequeOp → Int → Int → Heap → (Den kdequeOp → Heap → Prop) → Prop) (o1 : Den kdequeOp) (got2 : Int) (h3 : Heap) (Q : Den kdequeOp → Heap → Prop) : Prop :=
    (((decide (o1.2.1 = 1)) = true →
    deque_Op_pushed.j1 Q ((o1.1, (2, (o1.2.2.1.1, (o1.2.2.1.2.1, (o1.2.2.2.1, (o1.2.2.2.2.1, (got2, (o1.2.2.2.2.2.2.1, (o1.2.2.2.2.2.2.2.1, (o1.2.2.2.2.2.2.2.2.1, (o1.2.2.2.2.2.2.2.2.2.1, (o1.2.2.2.2.2.2.2.2.2.2.1, (o1.2.2.2.2.2.2.2.2.2.2.2.1, (o1.2.2.2.2.2.2.2.2.2.2.2.2.1, (o1.2.2.2.2.2.2.2.2.2.2.2.2.2.1, (o1.2.2.2.2.2.2.2.2.2.2.2.2.2.2.1, ())))))))))))))))), (0, (0, (0, (0, (0, (0, (0, (0, (0, (0, (0, (0, (0, (false, (0, (0, ())))))))))))))))), ()) h3) ∧
    ((decide (o1.2.1 = 1)) = false →
    (((decide (o1.2.1 = 2)) = true →
    deque_Op_pushed.j1 Q ((o1.1, (3, (o1.2.2.1.1, (o1.2.2.1.2.1, (o1.2.2.2.1, (got2, (o1.2.2.2.2.2.1, (o1.2.2.2.2.2.2.1, (o1.2.2.2.2.2.2.2.1, (o1.2.2.2.2.2.2.2.2.1, (o1.2.2.2.2.2.2.2.2.2.1, (o1.2.2.2.2.2.2.2.2.2.2.1, (o1.2.2.2.2.2.2.2.2.2.2.2.1, (o1.2.2.2.2.2.2.2.2.2.2.2.2.1, (o1.2.2.2.2.2.2.2.2.2.2.2.2.2.1, (o1.2.2.2.2.2.2.2.2.2.2.2.2.2.2.1, ())))))))))))))))), (0, (0, (0, (0, (0, (0, (0, (0, (0, (0, (0, (0, (0, (false, (0, (0, ())))))))))))))))), ()) h3) ∧
    ((decide (o1.2.1 = 2)) = false →
    (((decide (o1.2.1 = 3)) = true →
    deque_Op_pushed.j1 Q ((o1.1, (4, (o1.2.2.1.1, (o1.2.2.1.2.1, (o1.2.2.2.1, (o1.2.2.2.2.1, (o1.2.2.2.2.2.1, (got2, (o1.2.2.2.2.2.2.2.1, (o1.2.2.2.2.2.2.2.2.1, (o1.2.2.2.2.2.2.2.2.2.1, (o1.2.2.2.2.2.2.2.2.2.2.1, (o1.2.2.2.2.2.2.2.2.2.2.2.1, (o1.2.2.2.2.2.2.2.2.2.2.2.2.1, (o1.2.2.2.2.2.2.2.2.2.2.2.2.2.1, (o1.2.2.2.2.2.2.2.2.2.2.2.2.2.2.1, ())))))))))))))))), (0, (0, (0, (0, (0, (0, (0, (0, (0, (0, (0, (0, (0, (false, (0, (0, ())))))))))))))))), ()) h3) ∧
    ((decide (o1.2.1 = 3)) = false →
    (((decide (o1.2.1 = 4)) = true →
    (((decide (got2 < 1)) = true →
    c_deque_Op_over (o1.1, (10, ((o1.2.2.1.1, (o1.2.2.1.2.1, ())), (o1.2.2.2.1, (o1.2.2.2.2.1, (o1.2.2.2.2.2.1, (o1.2.2.2.2.2.2.1, (got2, (o1.2.2.2.2.2.2.2.2.1, (o1.2.2.2.2.2.2.2.2.2.1, (o1.2.2.2.2.2.2.2.2.2.2.1, (o1.2.2.2.2.2.2.2.2.2.2.2.1, (o1.2.2.2.2.2.2.2.2.2.2.2.2.1, (o1.2.2.2.2.2.2.2.2.2.2.2.2.2.1, (o1.2.2.2.2.2.2.2.2.2.2.2.2.2.2.1, ()))))))))))))))) 1 0 h3 fun r6 h7 =>
    Q (r6.1, (r6.2.1, ((r6.2.2.1.1, (r6.2.2.1.2.1, ())), (r6.2.2.2.1, (r6.2.2.2.2.1, (r6.2.2.2.2.2.1, (r6.2.2.2.2.2.2.1, (r6.2.2.2.2.2.2.2.1, (r6.2.2.2.2.2.2.2.2.1, (r6.2.2.2.2.2.2.2.2.2.1, (r6.2.2.2.2.2.2.2.2.2.2.1, (r6.2.2.2.2.2.2.2.2.2.2.2.1, (r6.2.2.2.2.2.2.2.2.2.2.2.2.1, (r6.2.2.2.2.2.2.2.2.2.2.2.2.2.1, (r6.2.2.2.2.2.2.2.2.2.2.2.2.2.2.1, ()))))))))))))))) h7) ∧
    ((decide (got2 < 1)) = false →
    (((decide ((w64 (o1.2.2.2.2.2.1 - o1.2.2.2.2.1)) < got2)) = true →
    deque_Op_pushed.j1 Q ((o1.1, (10, (o1.2.2.1.1, (o1.2.2.1.2.1, (o1.2.2.2.1, (o1.2.2.2.2.1, (o1.2.2.2.2.2.1, (o1.2.2.2.2.2.2.1, (got2, (o1.2.2.2.2.2.2.2.2.1, (o1.2.2.2.2.2.2.2.2.2.1, (o1.2.2.2.2.2.2.2.2.2.2.1, (o1.2.2.2.2.2.2.2.2.2.2.2.1, (o1.2.2.2.2.2.2.2.2.2.2.2.2.1, (o1.2.2.2.2.2.2.2.2.2.2.2.2.2.1, (o1.2.2.2.2.2.2.2.2.2.2.2.2.2.2.1, ())))))))))))))))), (0, (0, (0, (0, (0, (0, (0, (0, (0, (0, (0, (0, (0, (false, (0, (0, ())))))))))))))))), ()) h3) ∧
    ((decide ((w64 (o1.2.2.2.2.2.1 - o1.2.2.2.2.1)) < got2)) = false →
    (((decide (o1.2.2.1.2.1 ≤ got2)) = true →
    c_deque_Op_over (o1.1, (10, ((o1.2.2.1.1, (o1.2.2.1.2.1, ())), (o1.2.2.2.1, (o1.2.2.2.2.1, (o1.2.2.2.2.2.1, (o1.2.2.2.2.2.2.1, (got2, (o1.2.2.2.2.2.2.2.2.1, (o1.2.2.2.2.2.2.2.2.2.1, (o1.2.2.2.2.2.2.2.2.2.2.1, (o1.2.2.2.2.2.2.2.2.2.2.2.1, (o1.2.2.2.2.2.2.2.2.2.2.2.2.1, (o1.2.2.2.2.2.2.2.2.2.2.2.2.2.1, (o1.2.2.2.2.2.2.2.2.2.2.2.2.2.2.1, ()))))))))))))))) 3 0 h3 fun r8 h9 =>
    Q (r8.1, (r8.2.1, ((r8.2.2.1.1, (r8.2.2.1.2.1, ())), (r8.2.2.2.1, (r8.2.2.2.2.1, (r8.2.2.2.2.2.1, (r8.2.2.2.2.2.2.1, (r8.2.2.2.2.2.2.2.1, (r8.2.2.2.2.2.2.2.2.1, (r8.2.2.2.2.2.2.2.2.2.1, (r8.2.2.2.2.2.2.2.2.2.2.1, (r8.2.2.2.2.2.2.2.2.2.2.2.1, (r8.2.2.2.2.2.2.2.2.2.2.2.2.1, (r8.2.2.2.2.2.2.2.2.2.2.2.2.2.1, (r8.2.2.2.2.2.2.2.2.2.2.2.2.2.2.1, ()))))))))))))))) h9) ∧
    ((decide (o1.2.2.1.2.1 ≤ got2)) = false →
    deque_Op_pushed.j1 Q ((o1.1, (5, (o1.2.2.1.1, (o1.2.2.1.2.1, (o1.2.2.2.1, (o1.2.2.2.2.1, (o1.2.2.2.2.2.1, (o1.2.2.2.2.2.2.1, (got2, (o1.2.2.2.2.2.2.2.2.1, ((if o1.2.2.1.2.1 < (w64 (2 * got2)) then o1.2.2.1.2.1 else (w64 (2 * got2))), (o1.2.2.2.2.2.2.2.2.2.2.1, (o1.2.2.2.2.2.2.2.2.2.2.2.1, (o1.2.2.2.2.2.2.2.2.2.2.2.2.1, (o1.2.2.2.2.2.2.2.2.2.2.2.2.2.1, (o1.2.2.2.2.2.2.2.2.2.2.2.2.2.2.1, ())))))))))))))))), (0, (0, (0, (0, (0, (0, (0, (0, (0, (0, (0, (0, (0, (false, (0, (0, ())))))))))))))))), ()) h3))))))) ∧
    ((decide (o1.2.1 = 4)) = false →
    (((decide (o1.2.1 = 5)) = true →
    deque_Op_pushed.j1 Q ((o1.1, (6, (o1.2.2.1.1, (o1.2.2.1.2.1, (o1.2.2.2.1, (o1.2.2.2.2.1, (o1.2.2.2.2.2.1, (o1.2.2.2.2.2.2.1, (o1.2.2.2.2.2.2.2.1, (got2, (o1.2.2.2.2.2.2.2.2.2.1, (o1.2.2.2.2.2.2.2.2.2.2.1, (o1.2.2.2.2.2.2.2.2.2.2.2.1, (o1.2.2.2.2.2.2.2.2.2.2.2.2.1, (o1.2.2.2.2.2.2.2.2.2.2.2.2.2.1, (o1.2.2.2.2.2.2.2.2.2.2.2.2.2.2.1, ())))))))))))))))), (0, (0, (0, (0, (0, (0, (0, (0, (0, (0, (0, (0, (0, (false, (0, (0, ())))))))))))))))), ()) h3) ∧
    ((decide (o1.2.1 = 5)) = false →
    (((decide (o1.2.1 = 6)) = true →
    deque_Op_pushed.j1 Q ((o1.1, (7, (o1.2.2.1.1, (o1.2.2.1.2.1, (o1.2.2.2.1, (o1.2.2.2.2.1, (o1.2.2.2.2.2.1, (o1.2.2.2.2.2.2.1, (o1.2.2.2.2.2.2.2.1, (o1.2.2.2.2.2.2.2.2.1, (o1.2.2.2.2.2.2.2.2.2.1, (o1.2.2.2.2.1, (o1.2.2.2.2.2.2.2.2.2.2.2.1, (o1.2.2.2.2.2.2.2.2.2.2.2.2.1, (o1.2.2.2.2.2.2.2.2.2.2.2.2.2.1, (o1.2.2.2.2.2.2.2.2.2.2.2.2.2.2.1, ())))))))))))))))), (0, (0, (0, (0, (0, (0, (0, (0, (0, (0, (0, (0, (0, (false, (0, (0, ())))))))))))))))), ()) h3) ∧
    ((decide (o1.2.1 = 6)) = false →
    (((decide (o1.2.1 = 7)) = true →
    deque_Op_pushed.j1 Q ((o1.1, (8, (o1.2.2.1.1, (o1.2.2.1.2.1, (o1.2.2.2.1, (o1.2.2.2.2.1, (o1.2.2.2.2.2.1, (o1.2.2.2.2.2.2.1, (o1.2.2.2.2.2.2.2.1, (o1.2.2.2.2.2.2.2.2.1, (o1.2.2.2.2.2.2.2.2.2.1, (o1.2.2.2.2.2.2.2.2.2.2.1, (got2, (o1.2.2.2.2.2.2.2.2.2.2.2.2.1, (o1.2.2.2.2.2.2.2.2.2.2.2.2.2.1, (o1.2.2.2.2.2.2.2.2.2.2.2.2.2.2.1, ())))))))))))))))), (0, (0, (0, (0, (0, (0, (0, (0, (0, (0, (0, (0, (0, (false, (0, (0, ())))))))))))))))), ()) h3) ∧
    ((decide (o1.2.1 = 7)) = false →
    (((decide (o1.2.1 = 8)) = true →
    (((decide ((w64 (o1.2.2.2.2.2.2.2.2.2.2.1 + 1)) = o1.2.2.2.2.2.1)) = true →
    deque_Op_pushed.j1 Q ((o1.1, (9, (o1.2.2.1.1, (o1.2.2.1.2.1, (o1.2.2.2.1, (o1.2.2.2.2.1, (o1.2.2.2.2.2.1, (o1.2.2.2.2.2.2.1, (o1.2.2.2.2.2.2.2.1, (o1.2.2.2.2.2.2.2.2.1, (o1.2.2.2.2.2.2.2.2.2.1, ((w64 (o1.2.2.2.2.2.2.2.2.2.2.1 + 1)), (o1.2.2.2.2.2.2.2.2.2.2.2.1, (o1.2.2.2.2.2.2.2.2.2.2.2.2.1, (o1.2.2.2.2.2.2.2.2.2.2.2.2.2.1, (o1.2.2.2.2.2.2.2.2.2.2.2.2.2.2.1, ())))))))))))))))), (0, (0, (0, (0, (0, (0, (0, (0, (0, (0, (0, (0, (0, (false, (0, (0, ())))))))))))))))), ()) h3) ∧
    ((decide ((w64 (o1.2.2.2.2.2.2.2.2.2.2.1 + 1)) = o1.2.2.2.2.2.1)) = false →
    deque_Op_pushed.j1 Q ((o1.1, (7, (o1.2.2.1.1, (o1.2.2.1.2.1, (o1.2.2.2.1, (o1.2.2.2.2.1, (o1.2.2.2.2.2.1, (o1.2.2.2.2.2.2.1, (o1.2.2.2.2.2.2.2.1, (o1.2.2.2.2.2.2.2.2.1, (o1.2.2.2.2.2.2.2.2.2.1, ((w64 (o1.2.2.2.2.2.2.2.2.2.2.1 + 1)), (o1.2.2.2.2.2.2.2.2.2.2.2.1, (o1.2.2.2.2.2.2.2.2.2.2.2.2.1, (o1.2.2.2.2.2.2.2.2.2.2.2.2.2.1, (o1.2.2.2.2.2.2.2.2.2.2.2.2.2.2.1, ())))))))))))))))), (0, (0, (0, (0, (0, (0, (0, (0, (0, (0, (0, (0, (0, (false, (0, (0, ())))))))))))))))), ()) h3))) ∧
    ((decide (o1.2.1 = 8)) = false →
    (((decide (o1.2.1 = 9)) = true →
    deque_Op_pushed.j1 Q ((o1.1, (10, (o1.2.2.1.1, (o1.2.2.1.2.1, (o1.2.2.2.1, (o1.2.2.2.2.1, (o1.2.2.2.2.2.1, (o1.2.2.2.2.2.2.2.2.1, (o1.2.2.2.2.2.2.2.2.2.1, (o1.2.2.2.2.2.2.2.2.1, (o1.2.2.2.2.2.2.2.2.2.1, (o1.2.2.2.2.2.2.2.2.2.2.1, (o1.2.2.2.2.2.2.2.2.2.2.2.1, (o1.2.2.2.2.2.2.2.2.2.2.2.2.1, (o1.2.2.2.2.2.2.2.2.2.2.2.2.2.1, (o1.2.2.2.2.2.2.2.2.2.2.2.2.2.2.1, ())))))))))))))))), (0, (0, (0, (0, (0, (0, (0, (0, (0, (0, (0, (0, (0, (false, (0, (0, ())))))))))))))))), ()) h3) ∧
    ((decide (o1.2.1 = 9)) = false →
    (((decide (o1.2.1 = 10)) = true →
    deque_Op_pushed.j1 Q ((o1.1, (11, (o1.2.2.1.1, (o1.2.2.1.2.1, (o1.2.2.2.1, (o1.2.2.2.2.1, (o1.2.2.2.2.2.1, (o1.2.2.2.2.2.2.1, (o1.2.2.2.2.2.2.2.1, (o1.2.2.2.2.2.2.2.2.1, (o1.2.2.2.2.2.2.2.2.2.1, (o1.2.2.2.2.2.2.2.2.2.2.1, (o1.2.2.2.2.2.2.2.2.2.2.2.1, (o1.2.2.2.2.2.2.2.2.2.2.2.2.1, (o1.2.2.2.2.2.2.2.2.2.2.2.2.2.1, (o1.2.2.2.2.2.2.2.2.2.2.2.2.2.2.1, ())))))))))))))))), (0, (0, (0, (0, (0, (0, (0, (0, (0, (0, (0, (0, (0, (false, (0, (0, ())))))))))))))))), ()) h3) ∧
    ((decide (o1.2.1 = 10)) = false →
    (((decide (o1.2.1 = 11)) = true →
    c_deque_Op_over (o1.1, (o1.2.1, ((o1.2.2.1.1, (o1.2.2.1.2.1, ())), (o1.2.2.2.1, (o1.2.2.2.2.1, (o1.2.2.2.2.2.1, (o1.2.2.2.2.2.2.1, (o1.2.2.2.2.2.2.2.1, (o1.2.2.2.2.2.2.2.2.1, (o1.2.2.2.2.2.2.2.2.2.1, (o1.2.2.2.2.2.2.2.2.2.2.1, (o1.2.2.2.2.2.2.2.2.2.2.2.1, (o1.2.2.2.2.2.2.2.2.2.2.2.2.1, (o1.2.2.2.2.2.2.2.2.2.2.2.2.2.1, (o1.2.2.2.2.2.2.2.2.2.2.2.2.2.2.1, ()))))))))))))))) 2 0 h3 fun r10 h11 =>
    Q (r10.1, (r10.2.1, ((r10.2.2.1.1, (r10.2.2.1.2.1, ())), (r10.2.2.2.1, (r10.2.2.2.2.1, (r10.2.2.2.2.2.1, (r10.2.2.2.2.2.2.1, (r10.2.2.2.2.2.2.2.1, (r10.2.2.2.2.2.2.2.2.1, (r10.2.2.2.2.2.2.2.2.2.1, (r10.2.2.2.2.2.2.2.2.2.2.1, (r10.2.2.2.2.2.2.2.2.2.2.2.1, (r10.2.2.2.2.2.2.2.2.2.2.2.2.1, (r10.2.2.2.2.2.2.2.2.2.2.2.2.2.1, (r10.2.2.2.2.2.2.2.2.2.2.2.2.2.2.1, ()))))))))))))))) h11) ∧
    ((decide (o1.2.1 = 11)) = false →
    deque_Op_pushed.j1 Q ((o1.1, (o1.2.1, (o1.2.2.1.1, (o1.2.2.1.2.1, (o1.2.2.2.1, (o1.2.2.2.2.1, (o1.2.2.2.2.2.1, (o1.2.2.2.2.2.2.1, (o1.2.2.2.2.2.2.2.1, (o1.2.2.2.2.2.2.2.2.1, (o1.2.2.2.2.2.2.2.2.2.1, (o1.2.2.2.2.2.2.2.2.2.2.1, (o1.2.2.2.2.2.2.2.2.2.2.2.1, (o1.2.2.2.2.2.2.2.2.2.2.2.2.1, (o1.2.2.2.2.2.2.2.2.2.2.2.2.2.1, (o1.2.2.2.2.2.2.2.2.2.2.2.2.2.2.1, ())))))))))))))))), (0, (0, (0, (0, (0, (0, (0, (0, (0, (0, (0, (0, (0, (false, (0, (0, ())))))))))))))))), ()) h3))))))))))))))))))))))
def deque_Op_pushed.mk : Mk := (.s (.r [0, 1]) (.j [.box 2 (.pair (.int .i64) (.pair (.int .i64) (.pair (.int .i64) (.pair (.int .i64) (.pair (.int .i64) (.pair (.int .i64) (.pair (.int .i64) (.pair (.int .i64) (.pair (.int .i64) (.pair (.int .i64) (.pair (.int .i64) (.pair (.int .i64) (.pair (.int .i64) (.pair .bool kparkLot)))))))))))))), .box 4 (.pair (.int .i64) (.pair (.int .i64) (.pair (.int .i64) (.pair (.int .i64) (.pair (.int .i64) (.pair (.int .i64) (.pair (.int .i64) (.pair (.int .i64) (.pair (.int .i64) (.pair (.int .i64) (.pair (.int .i64) (.pair (.int .i64) (.pair (.int .i64) (.pair .bool kparkLot))))))))))))))] (.s .d (.b (.s .d (.c .d (.s .d (.c .d (.s .d (.c .d (.s .d (.c (.s .d (.b (.s .d (.c (.s .d .d) (.s .d (.c .d (.s .d (.c (.s .d .d) .d)))))))) (.s .d (.c .d (.s .d (.c .d (.s .d (.c .d (.s .d (.c (.s .d (.s .d (.s .d (.c .d .d)))) (.s .d (.c .d (.s .d (.c .d (.s .d (.c (.s .d .d) .d)))))))))))))))))))))))) (.s .d .d)))

def deque_Op_popped.j1 (Q : Den kdequeOp → Heap → Prop) (s4 : ((Int × (Int × (Int × (Int × (Int × (Int × (Int × (Int × (Int × (Int × (Int × (Int × (Int × (Bool × Den kparkLot)))))))))))))) × ((Int × (Int × (Int × (Int × (Int × (Int × (Int × (Int × (Int × (Int × (Int × (Int × (Int × (Bool × Den kparkLot)))))))))))))) × Unit))) (h5 : Heap) : Prop :=
    Q (s4.1.1, (s4.1.2.1, ((s4.1.2.2.1, (s4.1.2.2.2.1, ())), (s4.1.2.2.2.2.1, (s4.1.2.2.2.2.2.1, (s4.1.2.2.2.2.2.2.1, (s4.1.2.2.2.2.2.2.2.1, (s4.1.2.2.2.2.2.2.2.2.1, (s4.1.2.2.2.2.2.2.2.2.2.1, (s4.1.2.2.2.2.2.2.2.2.2.2.1, (s4.1.2.2.2.2.2.2.2.2.2.2.2.1, (s4.1.2.2.2.2.2.2.2.2.2.2.2.2.1, (s4.1.2.2.2.2.2.2.2.2.2.2.2.2.2.1, (s4.1.2.2.2.2.2.2.2.2.2.2.2.2.2.2.1, (s4.1.2.2.2.2.2.2.2.2.2.2.2.2.2.2.2.1, ()))))))))))))))) h5
def deque_Op_popped.M (c_deque_Op_over : Den kdequeOp → Int → Int → Heap → (Den kdequeOp → Heap → Prop) → Prop) (o1 : Den kdequeOp) (got2 : Int) (h3 : Heap) (Q : Den kdequeOp → Heap → Prop) : Prop :=
    (((decide (o1.2.1 = 1)) = true →
    deque_Op_popped.j1 Q ((o1.1, (3, (o1.2.2.1.1, (o1.2.2.1.2.1, (o1.2.2.2.1, (o1.2.2.2.2.1, ((w64 (got2 - 1)), (o1.2.2.2.2.2.2.1, (o1.2.2.2.2.2.2.2.1, (o1.2.2.2.2.2.2.2.2.1, (o1.2.2.2.2.2.2.2.2.2.1, (o1.2.2.2.2.2.2.2.2.2.2.1, (o1.2.2.2.2.2.2.2.2.2.2.2.1, (o1.2.2.2.2.2.2.2.2.2.2.2.2.1, (o1.2.2.2.2.2.2.2.2.2.2.2.2.2.1, (o1.2.2.2.2.2.2.2.2.2.2.2.2.2.2.1, ())))))))))))))))), (0, (0, (0, (0, (0, (0, (0, (0, (0, (0, (0, (0, (0, (false, (0, (0, ())))))))))))))))), ()) h3) ∧
    ((decide (o1.2.1 = 1)) = false →
    (((decide (o1.2.1 = 3)) = true →
    deque_Op_popped.j1 Q ((o1.1, (11, (o1.2.2.1.1, (o1.2.2.1.2.1, (o1.2.2.2.1, (o1.2.2.2.2.1, (o1.2.2.2.2.2.1, (got2, (o1.2.2.2.2.2.2.2.1, (o1.2.2.2.2.2.2.2.2.1, (o1.2.2.2.2.2.2.2.2.2.1, (o1.2.2.2.2.2.2.2.2.2.2.1, (o1.2.2.2.2.2.2.2.2.2.2.2.1, (o1.2.2.2.2.2.2.2.2.2.2.2.2.1, (o1.2.2.2.2.2.2.2.2.2.2.2.2.2.1, (o1.2.2.2.2.2.2.2.2.2.2.2.2.2.2.1, ())))))))))))))))), (0, (0, (0, (0, (0, (0, (0, (0, (0, (0, (0, (0, (0, (false, (0, (0, ())))))))))))))))), ()) h3) ∧
    ((decide (o1.2.1 = 3)) = false →
    (((decide (o1.2.1 = 11)) = true →
    (((decide (o1.2.2.2.2.2.2.2.2.2.2.1 = 0)) = true →
    deque_Op_popped.j1 Q ((o1.1, (2, (o1.2.2.1.1, (o1.2.2.1.2.1, (o1.2.2.2.1, (o1.2.2.2.2.1, (o1.2.2.2.2.2.1, (o1.2.2.2.2.2.2.1, (o1.2.2.2.2.2.2.2.1, (o1.2.2.2.2.2.2.2.2.1, (o1.2.2.2.2.2.2.2.2.2.1, (o1.2.2.2.2.2.2.2.2.2.2.1, (o1.2.2.2.2.2.2.2.2.2.2.2.1, (o1.2.2.2.2.2.2.2.2.2.2.2.2.1, (o1.2.2.2.2.2.2.2.2.2.2.2.2.2.1, (o1.2.2.2.2.2.2.2.2.2.2.2.2.2.2.1, ())))))))))))))))), (0, (0, (0, (0, (0, (0, (0, (0, (0, (0, (0, (0, (0, (false, (0, (0, ())))))))))))))))), ()) h3) ∧
    ((decide (o1.2.2.2.2.2.2.2.2.2.2.1 = 0)) = false →
    ((o1.2.2.2.2.2.2.2.2.2.2.2.2.1 = true →
    c_deque_Op_over (o1.1, (o1.2.1, ((o1.2.2.1.1, (o1.2.2.1.2.1, ())), (o1.2.2.2.1, (o1.2.2.2.2.1, (o1.2.2.2.2.2.1, (o1.2.2.2.2.2.2.1, (o1.2.2.2.2.2.2.2.1, (o1.2.2.2.2.2.2.2.2.1, (o1.2.2.2.2.2.2.2.2.2.1, (o1.2.2.2.2.2.2.2.2.2.2.1, (o1.2.2.2.2.2.2.2.2.2.2.2.1, (o1.2.2.2.2.2.2.2.2.2.2.2.2.1, (o1.2.2.2.2.2.2.2.2.2.2.2.2.2.1, (o1.2.2.2.2.2.2.2.2.2.2.2.2.2.2.1, ()))))))))))))))) 4 o1.2.2.2.2.2.2.2.2.2.2.2.1 h3 fun r6 h7 =>
    Q (r6.1, (r6.2.1, ((r6.2.2.1.1, (r6.2.2.1.2.1, ())), (r6.2.2.2.1, (r6.2.2.2.2.1, (r6.2.2.2.2.2.1, (r6.2.2.2.2.2.2.1, (r6.2.2.2.2.2.2.2.1, (r6.2.2.2.2.2.2.2.2.1, (r6.2.2.2.2.2.2.2.2.2.1, (r6.2.2.2.2.2.2.2.2.2.2.1, (r6.2.2.2.2.2.2.2.2.2.2.2.1, (r6.2.2.2.2.2.2.2.2.2.2.2.2.1, (r6.2.2.2.2.2.2.2.2.2.2.2.2.2.1, (r6.2.2.2.2.2.2.2.2.2.2.2.2.2.2.1, ()))))))))))))))) h7) ∧
    (o1.2.2.2.2.2.2.2.2.2.2.2.2.1 = false →
    c_deque_Op_over (o1.1, (o1.2.1, ((o1.2.2.1.1, (o1.2.2.1.2.1, ())), (o1.2.2.2.1, (o1.2.2.2.2.1, (o1.2.2.2.2.2.1, (o1.2.2.2.2.2.2.1, (o1.2.2.2.2.2.2.2.1, (o1.2.2.2.2.2.2.2.2.1, (o1.2.2.2.2.2.2.2.2.2.1, (o1.2.2.2.2.2.2.2.2.2.2.1, (o1.2.2.2.2.2.2.2.2.2.2.2.1, (o1.2.2.2.2.2.2.2.2.2.2.2.2.1, (o1.2.2.2.2.2.2.2.2.2.2.2.2.2.1, (o1.2.2.2.2.2.2.2.2.2.2.2.2.2.2.1, ()))))))))))))))) 5 0 h3 fun r8 h9 =>
    Q (r8.1, (r8.2.1, ((r8.2.2.1.1, (r8.2.2.1.2.1, ())), (r8.2.2.2.1, (r8.2.2.2.2.1, (r8.2.2.2.2.2.1, (r8.2.2.2.2.2.2.1, (r8.2.2.2.2.2.2.2.1, (r8.2.2.2.2.2.2.2.2.1, (r8.2.2.2.2.2.2.2.2.2.1, (r8.2.2.2.2.2.2.2.2.2.2.1, (r8.2.2.2.2.2.2.2.2.2.2.2.1, (r8.2.2.2.2.2.2.2.2.2.2.2.2.1, (r8.2.2.2.2.2.2.2.2.2.2.2.2.2.1, (r8.2.2.2.2.2.2.2.2.2.2.2.2.2.2.1, ()))))))))))))))) h9))))) ∧
    ((decide (o1.2.1 = 11)) = false →
    (((decide (o1.2.1 = 2)) = true →
    (((decide (o1.2.2.2.2.2.1 < got2)) = true →
    deque_Op_popped.j1 Q ((o1.1, (11, (o1.2.2.1.1, (o1.2.2.1.2.1, (o1.2.2.2.1, (got2, (o1.2.2.2.2.2.1, (o1.2.2.2.2.2.2.1, (o1.2.2.2.2.2.2.2.1, (o1.2.2.2.2.2.2.2.2.1, (o1.2.2.2.2.2.2.2.2.2.1, (1, (o1.2.2.2.2.2.2.2.2.2.2.2.1, (o1.2.2.2.2.2.2.2.2.2.2.2.2.1, (o1.2.2.2.2.2.2.2.2.2.2.2.2.2.1, (o1.2.2.2.2.2.2.2.2.2.2.2.2.2.2.1, ())))))))))))))))), (0, (0, (0, (0, (0, (0, (0, (0, (0, (0, (0, (0, (0, (false, (0, (0, ())))))))))))))))), ()) h3) ∧
    ((decide (o1.2.2.2.2.2.1 < got2)) = false →
    deque_Op_popped.j1 Q ((o1.1, (4, (o1.2.2.1.1, (o1.2.2.1.2.1, (o1.2.2.2.1, (got2, (o1.2.2.2.2.2.1, (o1.2.2.2.2.2.2.1, (o1.2.2.2.2.2.2.2.1, (o1.2.2.2.2.2.2.2.2.1, (o1.2.2.2.2.2.2.2.2.2.1, (1, (o1.2.2.2.2.2.2.2.2.2.2.2.1, (o1.2.2.2.2.2.2.2.2.2.2.2.2.1, (o1.2.2.2.2.2.2.2.2.2.2.2.2.2.1, (o1.2.2.2.2.2.2.2.2.2.2.2.2.2.2.1, ())))))))))))))))), (0, (0, (0, (0, (0, (0, (0, (0, (0, (0, (0, (0, (0, (false, (0, (0, ())))))))))))))))), ()) h3))) ∧
    ((decide (o1.2.1 = 2)) = false →
    (((decide (o1.2.1 = 4)) = true →
    (((decide (got2 < 1)) = true →
    c_deque_Op_over (o1.1, (12, ((o1.2.2.1.1, (o1.2.2.1.2.1, ())), (o1.2.2.2.1, (o1.2.2.2.2.1, (o1.2.2.2.2.2.1, (o1.2.2.2.2.2.2.1, (got2, (o1.2.2.2.2.2.2.2.2.1, (o1.2.2.2.2.2.2.2.2.2.1, (o1.2.2.2.2.2.2.2.2.2.2.1, (o1.2.2.2.2.2.2.2.2.2.2.2.1, (o1.2.2.2.2.2.2.2.2.2.2.2.2.1, (o1.2.2.2.2.2.2.2.2.2.2.2.2.2.1, (o1.2.2.2.2.2.2.2.2.2.2.2.2.2.2.1, ()))))))))))))))) 1 0 h3 fun r10 h11 =>
    Q (r10.1, (r10.2.1, ((r10.2.2.1.1, (r10.2.2.1.2.1, ())), (r10.2.2.2.1, (r10.2.2.2.2.1, (r10.2.2.2.2.2.1, (r10.2.2.2.2.2.2.1, (r10.2.2.2.2.2.2.2.1, (r10.2.2.2.2.2.2.2.2.1, (r10.2.2.2.2.2.2.2.2.2.1, (r10.2.2.2.2.2.2.2.2.2.2.1, (r10.2.2.2.2.2.2.2.2.2.2.2.1, (r10.2.2.2.2.2.2.2.2.2.2.2.2.1, (r10.2.2.2.2.2.2.2.2.2.2.2.2.2.1, (r10.2.2.2.2.2.2.2.2.2.2.2.2.2.2.1, ()))))))))))))))) h11) ∧
    ((decide (got2 < 1)) = false →
    deque_Op_popped.j1 Q ((o1.1, (12, (o1.2.2.1.1, (o1.2.2.1.2.1, (o1.2.2.2.1, (o1.2.2.2.2.1, (o1.2.2.2.2.2.1, (o1.2.2.2.2.2.2.1, (got2, (o1.2.2.2.2.2.2.2.2.1, (o1.2.2.2.2.2.2.2.2.2.1, (o1.2.2.2.2.2.2.2.2.2.2.1, (o1.2.2.2.2.2.2.2.2.2.2.2.1, (o1.2.2.2.2.2.2.2.2.2.2.2.2.1, (o1.2.2.2.2.2.2.2.2.2.2.2.2.2.1, (o1.2.2.2.2.2.2.2.2.2.2.2.2.2.2.1, ())))))))))))))))), (0, (0, (0, (0, (0, (0, (0, (0, (0, (0, (0, (0, (0, (false, (0, (0, ())))))))))))))))), ()) h3))) ∧
    ((decide (o1.2.1 = 4)) = false →
    (((decide (o1.2.1 = 12)) = true →
    (((decide (o1.2.2.2.2.1 < o1.2.2.2.2.2.1)) = true →
    c_deque_Op_over (o1.1, (13, ((o1.2.2.1.1, (o1.2.2.1.2.1, ())), (o1.2.2.2.1, (o1.2.2.2.2.1, (o1.2.2.2.2.2.1, (o1.2.2.2.2.2.2.1, (o1.2.2.2.2.2.2.2.1, (o1.2.2.2.2.2.2.2.2.1, (o1.2.2.2.2.2.2.2.2.2.1, (o1.2.2.2.2.2.2.2.2.2.2.1, (got2, (o1.2.2.2.2.2.2.2.2.2.2.2.2.1, (o1.2.2.2.2.2.2.2.2.2.2.2.2.2.1, (o1.2.2.2.2.2.2.2.2.2.2.2.2.2.2.1, ()))))))))))))))) 4 got2 h3 fun r12 h13 =>
    Q (r12.1, (r12.2.1, ((r12.2.2.1.1, (r12.2.2.1.2.1, ())), (r12.2.2.2.1, (r12.2.2.2.2.1, (r12.2.2.2.2.2.1, (r12.2.2.2.2.2.2.1, (r12.2.2.2.2.2.2.2.1, (r12.2.2.2.2.2.2.2.2.1, (r12.2.2.2.2.2.2.2.2.2.1, (r12.2.2.2.2.2.2.2.2.2.2.1, (r12.2.2.2.2.2.2.2.2.2.2.2.1, (r12.2.2.2.2.2.2.2.2.2.2.2.2.1, (r12.2.2.2.2.2.2.2.2.2.2.2.2.2.1, (r12.2.2.2.2.2.2.2.2.2.2.2.2.2.2.1, ()))))))))))))))) h13) ∧
    ((decide (o1.2.2.2.2.1 < o1.2.2.2.2.2.1)) = false →
    deque_Op_popped.j1 Q ((o1.1, (13, (o1.2.2.1.1, (o1.2.2.1.2.1, (o1.2.2.2.1, (o1.2.2.2.2.1, (o1.2.2.2.2.2.1, (o1.2.2.2.2.2.2.1, (o1.2.2.2.2.2.2.2.1, (o1.2.2.2.2.2.2.2.2.1, (o1.2.2.2.2.2.2.2.2.2.1, (o1.2.2.2.2.2.2.2.2.2.2.1, (got2, (o1.2.2.2.2.2.2.2.2.2.2.2.2.1, (o1.2.2.2.2.2.2.2.2.2.2.2.2.2.1, (o1.2.2.2.2.2.2.2.2.2.2.2.2.2.2.1, ())))))))))))))))), (0, (0, (0, (0, (0, (0, (0, (0, (0, (0, (0, (0, (0, (false, (0, (0, ())))))))))))))))), ()) h3))) ∧
    ((decide (o1.2.1 = 12)) = false →
    (((decide (o1.2.1 = 13)) = true →
    deque_Op_popped.j1 Q ((o1.1, (11, (o1.2.2.1.1, (o1.2.2.1.2.1, (o1.2.2.2.1, (o1.2.2.2.2.1, (o1.2.2.2.2.2.1, (o1.2.2.2.2.2.2.1, (o1.2.2.2.2.2.2.2.1, (o1.2.2.2.2.2.2.2.2.1, (o1.2.2.2.2.2.2.2.2.2.1, (o1.2.2.2.2.2.2.2.2.2.2.1, (o1.2.2.2.2.2.2.2.2.2.2.2.1, ((decide (got2 = 1)), (o1.2.2.2.2.2.2.2.2.2.2.2.2.2.1, (o1.2.2.2.2.2.2.2.2.2.2.2.2.2.2.1, ())))))))))))))))), (0, (0, (0, (0, (0, (0, (0, (0, (0, (0, (0, (0, (0, (false, (0, (0, ())))))))))))))))), ()) h3) ∧
    ((decide (o1.2.1 = 13)) = false →
    deque_Op_popped.j1 Q ((o1.1, (o1.2.1, (o1.2.2.1.1, (o1.2.2.1.2.1, (o1.2.2.2.1, (o1.2.2.2.2.1, (o1.2.2.2.2.2.1, (o1.2.2.2.2.2.2.1, (o1.2.2.2.2.2.2.2.1, (o1.2.2.2.2.2.2.2.2.1, (o1.2.2.2.2.2.2.2.2.2.1, (o1.2.2.2.2.2.2.2.2.2.2.1, (o1.2.2.2.2.2.2.2.2.2.2.2.1, (o1.2.2.2.2.2.2.2.2.2.2.2.2.1, (o1.2.2.2.2.2.2.2.2.2.2.2.2.2.1, (o1.2.2.2.2.2.2.2.2.2.2.2.2.2.2.1, ())))))))))))))))), (0, (0, (0, (0, (0, (0, (0, (0, (0, (0, (0, (0, (0, (false, (0, (0, ())))))))))))))))), ()) h3))))))))))))))
def deque_Op_popped.mk : Mk := (.s (.r [0, 1]) (.j [.box 2 (.pair (.int .i64) (.pair (.int .i64) (.pair (.int .i64) (.pair (.int .i64) (.pair (.int .i64) (.pair (.int .i64) (.pair (.int .i64) (.pair (.int .i64) (.pair (.int .i64) (.pair (.int .i64) (.pair (.int .i64) (.pair (.int .i64) (.pair (.int .i64) (.pair .bool kparkLot)))))))))))))), .box 4 (.pair (.int .i64) (.pair (.int .i64) (.pair (.int .i64) (.pair (.int .i64) (.pair (.int .i64) (.pair (.int .i64) (.pair (.int .i64) (.pair (.int .i64) (.pair (.int .i64) (.pair (.int .i64) (.pair (.int .i64) (.pair (.int .i64) (.pair (.int .i64) (.pair .bool kparkLot))))))))))))))] (.s .d (.b (.s .d (.c .d (.s .d (.c .d (.s .d (.c (.b (.s .d (.c .d (.s .d (.c (.s .d .d) (.s .d .d)))))) (.s .d (.c (.s .d (.s .d (.c .d .d))) (.s .d (.c (.s .d (.s .d (.c (.s .d .d) .d))) (.s .d (.c (.s .d (.s .d (.c (.s .d .d) .d))) (.s .d (.c .d .d)))))))))))))))) (.s .d .d)))

def deque_Op_stolen.j1 (Q : Den kdequeOp → Heap → Prop) (s4 : ((Int × (Int × (Int × (Int × (Int × (Int × (Int × (Int × (Int × (Int × (Int × (Int × (Int × (Bool × Den kparkLot)))))))))))))) × ((Int × (Int × (Int × (Int × (Int × (Int × (Int × (Int × (Int × (Int × (Int × (Int × (Int × (Bool × Den kparkLot)))))))))))))) × Unit))) (h5 : Heap) : Prop :=
    Q (s4.1.1, (s4.1.2.1, ((s4.1.2.2.1, (s4.1.2.2.2.1, ())), (s4.1.2.2.2.2.1, (s4.1.2.2.2.2.2.1, (s4.1.2.2.2.2.2.2.1, (s4.1.2.2.2.2.2.2.2.1, (s4.1.2.2.2.2.2.2.2.2.1, (s4.1.2.2.2.2.2.2.2.2.2.1, (s4.1.2.2.2.2.2.2.2.2.2.2.1, (s4.1.2.2.2.2.2.2.2.2.2.2.2.1, (s4.1.2.2.2.2.2.2.2.2.2.2.2.2.1, (s4.1.2.2.2.2.2.2.2.2.2.2.2.2.2.1, (s4.1.2.2.2.2.2.2.2.2.2.2.2.2.2.2.1, (s4.1.2.2.2.2.2.2.2.2.2.2.2.2.2.2.2.1, ()))))))))))))))) h5
def deque_Op_stolen.M (c_deque_Op_over : Den kdequeOp → Int → Int → Heap → (Den kdequeOp → Heap → Prop) → Prop) (o1 : Den kdequeOp) (got2 : Int) (h3 : Heap) (Q : Den kdequeOp → Heap → Prop) : Prop :=
    (((decide (o1.2.1 = 2)) = true →
    deque_Op_stolen.j1 Q ((o1.1, (1, (o1.2.2.1.1, (o1.2.2.1.2.1, (o1.2.2.2.1, (got2, (o1.2.2.2.2.2.1, (o1.2.2.2.2.2.2.1, (o1.2.2.2.2.2.2.2.1, (o1.2.2.2.2.2.2.2.2.1, (o1.2.2.2.2.2.2.2.2.2.1, (o1.2.2.2.2.2.2.2.2.2.2.1, (o1.2.2.2.2.2.2.2.2.2.2.2.1, (o1.2.2.2.2.2.2.2.2.2.2.2.2.1, (o1.2.2.2.2.2.2.2.2.2.2.2.2.2.1, (o1.2.2.2.2.2.2.2.2.2.2.2.2.2.2.1, ())))))))))))))))), (0, (0, (0, (0, (0, (0, (0, (0, (0, (0, (0, (0, (0, (false, (0, (0, ())))))))))))))))), ()) h3) ∧
    ((decide (o1.2.1 = 2)) = false →
    (((decide (o1.2.1 = 1)) = true →
    (((decide (got2 ≤ o1.2.2.2.2.1)) = true →
    c_deque_Op_over (o1.1, (3, ((o1.2.2.1.1, (o1.2.2.1.2.1, ())), (o1.2.2.2.1, (o1.2.2.2.2.1, (got2, (o1.2.2.2.2.2.2.1, (o1.2.2.2.2.2.2.2.1, (o1.2.2.2.2.2.2.2.2.1, (o1.2.2.2.2.2.2.2.2.2.1, (o1.2.2.2.2.2.2.2.2.2.2.1, (o1.2.2.2.2.2.2.2.2.2.2.2.1, (o1.2.2.2.2.2.2.2.2.2.2.2.2.1, (o1.2.2.2.2.2.2.2.2.2.2.2.2.2.1, (o1.2.2.2.2.2.2.2.2.2.2.2.2.2.2.1, ()))))))))))))))) 5 0 h3 fun r6 h7 =>
    Q (r6.1, (r6.2.1, ((r6.2.2.1.1, (r6.2.2.1.2.1, ())), (r6.2.2.2.1, (r6.2.2.2.2.1, (r6.2.2.2.2.2.1, (r6.2.2.2.2.2.2.1, (r6.2.2.2.2.2.2.2.1, (r6.2.2.2.2.2.2.2.2.1, (r6.2.2.2.2.2.2.2.2.2.1, (r6.2.2.2.2.2.2.2.2.2.2.1, (r6.2.2.2.2.2.2.2.2.2.2.2.1, (r6.2.2.2.2.2.2.2.2.2.2.2.2.1, (r6.2.2.2.2.2.2.2.2.2.2.2.2.2.1, (r6.2.2.2.2.2.2.2.2.2.2.2.2.2.2.1, ()))))))))))))))) h7) ∧
    ((decide (got2 ≤ o1.2.2.2.2.1)) = false →
    deque_Op_stolen.j1 Q ((o1.1, (3, (o1.2.2.1.1, (o1.2.2.1.2.1, (o1.2.2.2.1, (o1.2.2.2.2.1, (got2, (o1.2.2.2.2.2.2.1, (o1.2.2.2.2.2.2.2.1, (o1.2.2.2.2.2.2.2.2.1, (o1.2.2.2.2.2.2.2.2.2.1, (o1.2.2.2.2.2.2.2.2.2.2.1, (o1.2.2.2.2.2.2.2.2.2.2.2.1, (o1.2.2.2.2.2.2.2.2.2.2.2.2.1, (o1.2.2.2.2.2.2.2.2.2.2.2.2.2.1, (o1.2.2.2.2.2.2.2.2.2.2.2.2.2.2.1, ())))))))))))))))), (0, (0, (0, (0, (0, (0, (0, (0, (0, (0, (0, (0, (0, (false, (0, (0, ())))))))))))))))), ()) h3))) ∧
    ((decide (o1.2.1 = 1)) = false →
    (((decide (o1.2.1 = 3)) = true →
    deque_Op_stolen.j1 Q ((o1.1, (4, (o1.2.2.1.1, (o1.2.2.1.2.1, (o1.2.2.2.1, (o1.2.2.2.2.1, (o1.2.2.2.2.2.1, (got2, (o1.2.2.2.2.2.2.2.1, (o1.2.2.2.2.2.2.2.2.1, (o1.2.2.2.2.2.2.2.2.2.1, (o1.2.2.2.2.2.2.2.2.2.2.1, (o1.2.2.2.2.2.2.2.2.2.2.2.1, (o1.2.2.2.2.2.2.2.2.2.2.2.2.1, (o1.2.2.2.2.2.2.2.2.2.2.2.2.2.1, (o1.2.2.2.2.2.2.2.2.2.2.2.2.2.2.1, ())))))))))))))))), (0, (0, (0, (0, (0, (0, (0, (0, (0, (0, (0, (0, (0, (false, (0, (0, ())))))))))))))))), ()) h3) ∧
    ((decide (o1.2.1 = 3)) = false →
    (((decide (o1.2.1 = 4)) = true →
    (((decide (got2 < 1)) = true →
    c_deque_Op_over (o1.1, (12, ((o1.2.2.1.1, (o1.2.2.1.2.1, ())), (o1.2.2.2.1, (o1.2.2.2.2.1, (o1.2.2.2.2.2.1, (o1.2.2.2.2.2.2.1, (got2, (o1.2.2.2.2.2.2.2.2.1, (o1.2.2.2.2.2.2.2.2.2.1, (o1.2.2.2.2.2.2.2.2.2.2.1, (o1.2.2.2.2.2.2.2.2.2.2.2.1, (o1.2.2.2.2.2.2.2.2.2.2.2.2.1, (o1.2.2.2.2.2.2.2.2.2.2.2.2.2.1, (o1.2.2.2.2.2.2.2.2.2.2.2.2.2.2.1, ()))))))))))))))) 1 0 h3 fun r8 h9 =>
    Q (r8.1, (r8.2.1, ((r8.2.2.1.1, (r8.2.2.1.2.1, ())), (r8.2.2.2.1, (r8.2.2.2.2.1, (r8.2.2.2.2.2.1, (r8.2.2.2.2.2.2.1, (r8.2.2.2.2.2.2.2.1, (r8.2.2.2.2.2.2.2.2.1, (r8.2.2.2.2.2.2.2.2.2.1, (r8.2.2.2.2.2.2.2.2.2.2.1, (r8.2.2.2.2.2.2.2.2.2.2.2.1, (r8.2.2.2.2.2.2.2.2.2.2.2.2.1, (r8.2.2.2.2.2.2.2.2.2.2.2.2.2.1, (r8.2.2.2.2.2.2.2.2.2.2.2.2.2.2.1, ()))))))))))))))) h9) ∧
    ((decide (got2 < 1)) = false →
    deque_Op_stolen.j1 Q ((o1.1, (12, (o1.2.2.1.1, (o1.2.2.1.2.1, (o1.2.2.2.1, (o1.2.2.2.2.1, (o1.2.2.2.2.2.1, (o1.2.2.2.2.2.2.1, (got2, (o1.2.2.2.2.2.2.2.2.1, (o1.2.2.2.2.2.2.2.2.2.1, (o1.2.2.2.2.2.2.2.2.2.2.1, (o1.2.2.2.2.2.2.2.2.2.2.2.1, (o1.2.2.2.2.2.2.2.2.2.2.2.2.1, (o1.2.2.2.2.2.2.2.2.2.2.2.2.2.1, (o1.2.2.2.2.2.2.2.2.2.2.2.2.2.2.1, ())))))))))))))))), (0, (0, (0, (0, (0, (0, (0, (0, (0, (0, (0, (0, (0, (false, (0, (0, ())))))))))))))))), ()) h3))) ∧
    ((decide (o1.2.1 = 4)) = false →
    (((decide (o1.2.1 = 12)) = true →
    deque_Op_stolen.j1 Q ((o1.1, (13, (o1.2.2.1.1, (o1.2.2.1.2.1, (o1.2.2.2.1, (o1.2.2.2.2.1, (o1.2.2.2.2.2.1, (o1.2.2.2.2.2.2.1, (o1.2.2.2.2.2.2.2.1, (o1.2.2.2.2.2.2.2.2.1, (o1.2.2.2.2.2.2.2.2.2.1, (o1.2.2.2.2.2.2.2.2.2.2.1, (got2, (o1.2.2.2.2.2.2.2.2.2.2.2.2.1, (o1.2.2.2.2.2.2.2.2.2.2.2.2.2.1, (o1.2.2.2.2.2.2.2.2.2.2.2.2.2.2.1, ())))))))))))))))), (0, (0, (0, (0, (0, (0, (0, (0, (0, (0, (0, (0, (0, (false, (0, (0, ())))))))))))))))), ()) h3) ∧
    ((decide (o1.2.1 = 12)) = false →
    (((decide (o1.2.1 = 13)) = true →
    (((decide (got2 = 1)) = true →
    c_deque_Op_over (o1.1, (o1.2.1, ((o1.2.2.1.1, (o1.2.2.1.2.1, ())), (o1.2.2.2.1, (o1.2.2.2.2.1, (o1.2.2.2.2.2.1, (o1.2.2.2.2.2.2.1, (o1.2.2.2.2.2.2.2.1, (o1.2.2.2.2.2.2.2.2.1, (o1.2.2.2.2.2.2.2.2.2.1, (o1.2.2.2.2.2.2.2.2.2.2.1, (o1.2.2.2.2.2.2.2.2.2.2.2.1, (o1.2.2.2.2.2.2.2.2.2.2.2.2.1, (o1.2.2.2.2.2.2.2.2.2.2.2.2.2.1, (o1.2.2.2.2.2.2.2.2.2.2.2.2.2.2.1, ()))))))))))))))) 4 o1.2.2.2.2.2.2.2.2.2.2.2.1 h3 fun r10 h11 =>
    Q (r10.1, (r10.2.1, ((r10.2.2.1.1, (r10.2.2.1.2.1, ())), (r10.2.2.2.1, (r10.2.2.2.2.1, (r10.2.2.2.2.2.1, (r10.2.2.2.2.2.2.1, (r10.2.2.2.2.2.2.2.1, (r10.2.2.2.2.2.2.2.2.1, (r10.2.2.2.2.2.2.2.2.2.1, (r10.2.2.2.2.2.2.2.2.2.2.1, (r10.2.2.2.2.2.2.2.2.2.2.2.1, (r10.2.2.2.2.2.2.2.2.2.2.2.2.1, (r10.2.2.2.2.2.2.2.2.2.2.2.2.2.1, (r10.2.2.2.2.2.2.2.2.2.2.2.2.2.2.1, ()))))))))))))))) h11) ∧
    ((decide (got2 = 1)) = false →
    c_deque_Op_over (o1.1, (o1.2.1, ((o1.2.2.1.1, (o1.2.2.1.2.1, ())), (o1.2.2.2.1, (o1.2.2.2.2.1, (o1.2.2.2.2.2.1, (o1.2.2.2.2.2.2.1, (o1.2.2.2.2.2.2.2.1, (o1.2.2.2.2.2.2.2.2.1, (o1.2.2.2.2.2.2.2.2.2.1, (o1.2.2.2.2.2.2.2.2.2.2.1, (o1.2.2.2.2.2.2.2.2.2.2.2.1, (o1.2.2.2.2.2.2.2.2.2.2.2.2.1, (o1.2.2.2.2.2.2.2.2.2.2.2.2.2.1, (o1.2.2.2.2.2.2.2.2.2.2.2.2.2.2.1, ()))))))))))))))) 6 0 h3 fun r12 h13 =>
    Q (r12.1, (r12.2.1, ((r12.2.2.1.1, (r12.2.2.1.2.1, ())), (r12.2.2.2.1, (r12.2.2.2.2.1, (r12.2.2.2.2.2.1, (r12.2.2.2.2.2.2.1, (r12.2.2.2.2.2.2.2.1, (r12.2.2.2.2.2.2.2.2.1, (r12.2.2.2.2.2.2.2.2.2.1, (r12.2.2.2.2.2.2.2.2.2.2.1, (r12.2.2.2.2.2.2.2.2.2.2.2.1, (r12.2.2.2.2.2.2.2.2.2.2.2.2.1, (r12.2.2.2.2.2.2.2.2.2.2.2.2.2.1, (r12.2.2.2.2.2.2.2.2.2.2.2.2.2.2.1, ()))))))))))))))) h13))) ∧
    ((decide (o1.2.1 = 13)) = false →
    deque_Op_stolen.j1 Q ((o1.1, (o1.2.1, (o1.2.2.1.1, (o1.2.2.1.2.1, (o1.2.2.2.1, (o1.2.2.2.2.1, (o1.2.2.2.2.2.1, (o1.2.2.2.2.2.2.1, (o1.2.2.2.2.2.2.2.1, (o1.2.2.2.2.2.2.2.2.1, (o1.2.2.2.2.2.2.2.2.2.1, (o1.2.2.2.2.2.2.2.2.2.2.1, (o1.2.2.2.2.2.2.2.2.2.2.2.1, (o1.2.2.2.2.2.2.2.2.2.2.2.2.1, (o1.2.2.2.2.2.2.2.2.2.2.2.2.2.1, (o1.2.2.2.2.2.2.2.2.2.2.2.2.2.2.1, ())))))))))))))))), (0, (0, (0, (0, (0, (0, (0, (0, (0, (0, (0, (0, (0, (false, (0, (0, ())))))))))))))))), ()) h3))))))))))))
def deque_Op_stolen.mk : Mk := (.s (.r [0, 1]) (.j [.box 2 (.pair (.int .i64) (.pair (.int .i64) (.pair (.int .i64) (.pair (.int .i64) (.pair (.int .i64) (.pair (.int .i64) (.pair (.int .i64) (.pair (.int .i64) (.pair (.int .i64) (.pair (.int .i64) (.pair (.int .i64) (.pair (.int .i64) (.pair (.int .i64) (.pair .bool kparkLot)))))))))))))), .box 4 (.pair (.int .i64) (.pair (.int .i64) (.pair (.int .i64) (.pair (.int .i64) (.pair (.int .i64) (.pair (.int .i64) (.pair (.int .i64) (.pair (.int .i64) (.pair (.int .i64) (.pair (.int .i64) (.pair (.int .i64) (.pair (.int .i64) (.pair (.int .i64) (.pair .bool kparkLot))))))))))))))] (.s .d (.b (.s .d (.c .d (.s .d (.c (.s .d (.s .d (.c (.s .d .d) .d))) (.s .d (.c .d (.s .d (.c (.s .d (.s .d (.c (.s .d .d) .d))) (.s .d (.c .d (.s .d (.c (.s (.s .d (.c (.s .d .d) .d)) (.s .d .d)) .d)))))))))))))) (.s .d .d)))

def deque_Op_looked.M (c_deque_Op_over : Den kdequeOp → Int → Int → Heap → (Den kdequeOp → Heap → Prop) → Prop) (o1 : Den kdequeOp) (got2 : Int) (h3 : Heap) (Q : Den kdequeOp → Heap → Prop) : Prop :=
    (((decide (o1.2.1 = 2)) = true →
    Q (o1.1, (1, ((o1.2.2.1.1, (o1.2.2.1.2.1, ())), (o1.2.2.2.1, (got2, (o1.2.2.2.2.2.1, (o1.2.2.2.2.2.2.1, (o1.2.2.2.2.2.2.2.1, (o1.2.2.2.2.2.2.2.2.1, (o1.2.2.2.2.2.2.2.2.2.1, (o1.2.2.2.2.2.2.2.2.2.2.1, (o1.2.2.2.2.2.2.2.2.2.2.2.1, (o1.2.2.2.2.2.2.2.2.2.2.2.2.1, (o1.2.2.2.2.2.2.2.2.2.2.2.2.2.1, (o1.2.2.2.2.2.2.2.2.2.2.2.2.2.2.1, ()))))))))))))))) h3) ∧
    ((decide (o1.2.1 = 2)) = false →
    (((decide (o1.2.2.2.2.1 < got2)) = true →
    c_deque_Op_over (o1.1, (o1.2.1, ((o1.2.2.1.1, (o1.2.2.1.2.1, ())), (o1.2.2.2.1, (o1.2.2.2.2.1, (o1.2.2.2.2.2.1, (o1.2.2.2.2.2.2.1, (o1.2.2.2.2.2.2.2.1, (o1.2.2.2.2.2.2.2.2.1, (o1.2.2.2.2.2.2.2.2.2.1, (o1.2.2.2.2.2.2.2.2.2.2.1, (o1.2.2.2.2.2.2.2.2.2.2.2.1, (o1.2.2.2.2.2.2.2.2.2.2.2.2.1, (o1.2.2.2.2.2.2.2.2.2.2.2.2.2.1, (o1.2.2.2.2.2.2.2.2.2.2.2.2.2.2.1, ()))))))))))))))) 7 0 h3 fun r4 h5 =>
    Q (r4.1, (r4.2.1, ((r4.2.2.1.1, (r4.2.2.1.2.1, ())), (r4.2.2.2.1, (r4.2.2.2.2.1, (r4.2.2.2.2.2.1, (r4.2.2.2.2.2.2.1, (r4.2.2.2.2.2.2.2.1, (r4.2.2.2.2.2.2.2.2.1, (r4.2.2.2.2.2.2.2.2.2.1, (r4.2.2.2.2.2.2.2.2.2.2.1, (r4.2.2.2.2.2.2.2.2.2.2.2.1, (r4.2.2.2.2.2.2.2.2.2.2.2.2.1, (r4.2.2.2.2.2.2.2.2.2.2.2.2.2.1, (r4.2.2.2.2.2.2.2.2.2.2.2.2.2.2.1, ()))))))))))))))) h5) ∧
    ((decide (o1.2.2.2.2.1 < got2)) = false →
    c_deque_Op_over (o1.1, (o1.2.1, ((o1.2.2.1.1, (o1.2.2.1.2.1, ())), (o1.2.2.2.1, (o1.2.2.2.2.1, (o1.2.2.2.2.2.1, (o1.2.2.2.2.2.2.1, (o1.2.2.2.2.2.2.2.1, (o1.2.2.2.2.2.2.2.2.1, (o1.2.2.2.2.2.2.2.2.2.1, (o1.2.2.2.2.2.2.2.2.2.2.1, (o1.2.2.2.2.2.2.2.2.2.2.2.1, (o1.2.2.2.2.2.2.2.2.2.2.2.2.1, (o1.2.2.2.2.2.2.2.2.2.2.2.2.2.1, (o1.2.2.2.2.2.2.2.2.2.2.2.2.2.2.1, ()))))))))))))))) 8 0 h3 fun r6 h7 =>
    Q (r6.1, (r6.2.1, ((r6.2.2.1.1, (r6.2.2.1.2.1, ())), (r6.2.2.2.1, (r6.2.2.2.2.1, (r6.2.2.2.2.2.1, (r6.2.2.2.2.2.2.1, (r6.2.2.2.2.2.2.2.1, (r6.2.2.2.2.2.2.2.2.1, (r6.2.2.2.2.2.2.2.2.2.1, (r6.2.2.2.2.2.2.2.2.2.2.1, (r6.2.2.2.2.2.2.2.2.2.2.2.1, (r6.2.2.2.2.2.2.2.2.2.2.2.2.1, (r6.2.2.2.2.2.2.2.2.2.2.2.2.2.1, (r6.2.2.2.2.2.2.2.2.2.2.2.2.2.2.1, ()))))))))))))))) h7))))
def deque_Op_looked.mk : Mk := (.s (.r [0, 1]) (.s (.s .d (.c (.s .d (.s .d .d)) .d)) (.s (.s .d (.c (.s .d .d) .d)) (.s .d .d))))

def cells_good.M  (size1 : Int) (h2 : Heap) (Q : Bool → Heap → Prop) : Prop :=
    (((decide ((0 : Int) ≤ size1)) = true →
    Q (decide (size1 ≤ 1048576)) h2) ∧
    ((decide ((0 : Int) ≤ size1)) = false →
    Q false h2))
def cells_good.mk : Mk := (.s .d (.s .d .d))

def deque_begin.j1 (kind1 : Int) (at_2 : Int) (d3 : Den kparkLot) (v4 : Int) (Q : Den kdequeOp → Heap → Prop) (s6 : ((Int × (Int × (Int × (Int × (Int × (Int × (Int × (Int × (Int × (Int × (Int × (Int × (Int × (Bool × Den kparkLot)))))))))))))) × Unit)) (h7 : Heap) : Prop :=
    Q (kind1, (at_2, ((d3.1, (d3.2.1, ())), (v4, (0, (0, (0, (0, (0, (0, (0, (0, (false, (0, (0, ()))))))))))))))) h7
def deque_begin.j2 (kind1 : Int) (at_2 : Int) (d3 : Den kparkLot) (v4 : Int) (Q : Den kdequeOp → Heap → Prop) (s8 : (Bool × Unit)) (h9 : Heap) : Prop :=
    ((s8.1 = true →
    Q (0, (0, ((0, (0, ())), (0, (0, (0, (0, (0, (0, (0, (0, (0, (false, (0, (0, ()))))))))))))))) h9) ∧
    (s8.1 = false →
    deque_begin.j1 kind1 at_2 d3 v4 Q ((0, (0, (0, (0, (0, (0, (0, (0, (0, (0, (0, (0, (0, (false, (0, (0, ())))))))))))))))), ()) h9))
def deque_begin.M  (kind1 : Int) (at_2 : Int) (d3 : Den kparkLot) (v4 : Int) (h5 : Heap) (Q : Den kdequeOp → Heap → Prop) : Prop :=
    (((decide (d3.2.1 < 1)) = true →
    deque_begin.j2 kind1 at_2 d3 v4 Q (true, ()) h5) ∧
    ((decide (d3.2.1 < 1)) = false →
    deque_begin.j2 kind1 at_2 d3 v4 Q ((decide ((4096 : Int) < d3.2.1)), ()) h5))
def deque_begin.mk : Mk := (.s (.r [0, 1]) (.j [.box 8 (.pair (.int .i64) (.pair (.int .i64) (.pair (.int .i64) (.pair (.int .i64) (.pair (.int .i64) (.pair (.int .i64) (.pair (.int .i64) (.pair (.int .i64) (.pair (.int .i64) (.pair (.int .i64) (.pair (.int .i64) (.pair (.int .i64) (.pair (.int .i64) (.pair .bool kparkLot))))))))))))))] (.j [.slot 16 .bool] .d (.c (.s .d .d) .d)) (.s .d .d)))

def cells_ledger_refuse.j1 (Q : Int → Heap → Prop) (s4 : Unit) (h5 : Heap) : Prop :=
    Q 0 h5
def cells_ledger_refuse.j2 (Q : Int → Heap → Prop) (s6 : (Bool × Unit)) (h7 : Heap) : Prop :=
    ((s6.1 = true →
    Q 22 h7) ∧
    (s6.1 = false →
    cells_ledger_refuse.j1 Q () h7))
def cells_ledger_refuse.M  (l1 : Option Addr) (n2 : Int) (h3 : Heap) (Q : Int → Heap → Prop) : Prop :=
    (((decide (n2 < 1)) = true →
    Q 21 h3) ∧
    ((decide (n2 < 1)) = false →
    (((Option.isNone l1) = true →
    cells_ledger_refuse.j2 Q (true, ()) h3) ∧
    ((Option.isNone l1) = false →
    deref l1 fun a8 =>
    deref l1 fun a9 =>
    ld ((.int .i64) : Kd) h3 (a8.add 0) fun t10 =>
    ld ((.int .i64) : Kd) h3 (a9.add 1) fun t11 =>
    cells_ledger_refuse.j2 Q ((decide ((w64 (t10 - t11)) < n2)), ()) h3))))
def cells_ledger_refuse.mk : Mk := (.s .d (.s (.s .d (.c (.s .d .d) .d)) (.j [] (.j [.slot 21 .bool] (.q [] [] [.p 0, .p 1, .p 2, .p 3, .p 4, .p 5, .p 6, .p 8, .p 9, .p 10, .w 7 [7, 12, 13, 14], .w 11 [11, 12, 13, 14], .p 12, .p 13, .p 14]) (.c (.s .d .d) .d)) (.s .d .d))))

def cells_ledger_take.M  (l1 : Option Addr) (n2 : Int) (h3 : Heap) (Q : Int → Heap → Prop) : Prop :=
    deref l1 fun a4 =>
    ld ((.int .i64) : Kd) h3 (a4.add 1) fun t5 =>
    deref l1 fun a6 =>
    ld ((.int .i64) : Kd) h3 (a6.add 1) fun t7 =>
    deref l1 fun a8 =>
    st ((.int .i64) : Kd) h3 (a8.add 1) (w64 (t7 + n2)) fun h9 =>
    Q t5 h9
def cells_ledger_take.mk : Mk := (.s .d (.s .d (.s .d (.s .d .d))))

def cells_Arena_note.M  (a1 : Option Addr) (kind2 : Int) (addr3 : Int) (x4 : Int) (y5 : Int) (ok6 : Bool) (h7 : Heap) (Q : Unit → Heap → Prop) : Prop :=
    deref a1 fun a8 =>
    ld (.bool : Kd) h7 (a8.add 5) fun t9 =>
    ((t9 = true →
    deref a1 fun a10 =>
    deref a1 fun a11 =>
    ld (.sl : Kd) h7 (a10.add 3) fun t12 =>
    ld ((.int .i64) : Kd) h7 (a11.add 4) fun t13 =>
    new h7 (([(t13, (kind2, (addr3, (x4, (y5, (ok6, ()))))))] : List (Den kapiAccess)).flatMap (Kd.cells kapiAccess)) fun p14 h15 =>
    appendM 6 48 h15 t12 ⟨some p14, 1, 1⟩ fun t16 h17 =>
    deref a1 fun a18 =>
    st (.sl : Kd) h17 (a18.add 3) t16 fun h19 =>
    Q () h19) ∧
    (t9 = false →
    Q () h7))
def cells_Arena_note.mk : Mk := (.s .d (.c (.q [] [] [.p 0, .p 1, .p 2, .p 3, .p 5, .p 6, .p 7, .p 9, .p 10, .p 11, .p 12, .p 13, .w 4 [4, 16, 17, 18, 19], .w 8 [8, 14, 15, 16, 17, 18, 19], .p 14, .o 15, .o 16, .p 17, .p 18, .o 19]) .d))

def cells_Arena_outside.M (c_cells_ledger_has : Option Addr → Int → Heap → (Bool → Heap → Prop) → Prop) (a1 : Option Addr) (addr2 : Int) (h3 : Heap) (Q : Bool → Heap → Prop) : Prop :=
    (((Option.isNone a1) = true →
    Q true h3) ∧
    ((Option.isNone a1) = false →
    deref a1 fun a4 =>
    c_cells_ledger_has (some (a4.add 0)) addr2 h3 fun r5 h6 =>
    Q (!r5) h6))
def cells_Arena_outside.mk : Mk := (.s .d (.s .d .d))

def deque_place.j1 (a1 : Int) (Q : Int → Heap → Prop) (s5 : (Int × Unit)) (h6 : Heap) : Prop :=
    Q (w64 ((w64 (a1 + 1)) + s5.1)) h6
def deque_place.M  (a1 : Int) (c2 : Int) (i3 : Int) (h4 : Heap) (Q : Int → Heap → Prop) : Prop :=
    c2 ≠ 0 ∧
    (((decide ((Int.tmod i3 c2) < 0)) = true →
    deque_place.j1 a1 Q ((w64 ((Int.tmod i3 c2) + c2)), ()) h4) ∧
    ((decide ((Int.tmod i3 c2) < 0)) = false →
    deque_place.j1 a1 Q ((Int.tmod i3 c2), ()) h4))
def deque_place.mk : Mk := (.s .d (.s .d (.j [.slot 7 (.int .i64)] (.s .d (.c .d .d)) (.s .d .d))))

def deque_Op_next.M  (o1 : Den kdequeOp) (h2 : Heap) (Q : Int → Heap → Prop) : Prop :=
    (((decide (o1.1 = 1)) = true →
    Q (w64 (o1.2.2.2.2.2.1 + 1)) h2) ∧
    ((decide (o1.1 = 1)) = false →
    (((decide (o1.2.2.2.2.2.2.2.2.2.2.1 = 0)) = true →
    Q o1.2.2.2.2.2.1 h2) ∧
    ((decide (o1.2.2.2.2.2.2.2.2.2.2.1 = 0)) = false →
    (((decide (o1.2.2.2.2.2.1 < o1.2.2.2.2.1)) = true →
    Q o1.2.2.2.2.1 h2) ∧
    ((decide (o1.2.2.2.2.2.1 < o1.2.2.2.2.1)) = false →
    Q (w64 (o1.2.2.2.2.1 + 1)) h2))))))
def deque_Op_next.mk : Mk := (.s (.r [0]) (.s (.b (.s .d (.c (.s .d .d) (.s .d (.c (.s .d .d) (.s .d (.c (.s .d .d) .d))))))) (.s .d .d)))

def cells_ledger_has.M  (l1 : Option Addr) (addr2 : Int) (h3 : Heap) (Q : Bool → Heap → Prop) : Prop :=
    (((decide ((0 : Int) ≤ addr2)) = true →
    deref l1 fun a4 =>
    ld ((.int .i64) : Kd) h3 (a4.add 1) fun t5 =>
    Q (decide (addr2 < t5)) h3) ∧
    ((decide ((0 : Int) ≤ addr2)) = false →
    Q false h3))
def cells_ledger_has.mk : Mk := (.s .d (.s .d .d))

def cells_Arena_Add.M (c_cells_Arena_outside : Option Addr → Int → Heap → (Bool → Heap → Prop) → Prop) (c_cells_Arena_note : Option Addr → Int → Int → Int → Int → Bool → Heap → (Unit → Heap → Prop) → Prop) (a1 : Option Addr) (addr2 : Int) (d3 : Int) (h4 : Heap) (Q : Den kparkLot → Heap → Prop) : Prop :=
    c_cells_Arena_outside a1 addr2 h4 fun r5 h6 =>
    ((r5 = true →
    Q (0, 20, ()) h6) ∧
    (r5 = false →
    deref a1 fun a7 =>
    ld (.sl : Kd) h6 (a7.add 2) fun t8 =>
    (0 ≤ addr2 ∧ addr2 < (t8.len : Int)) ∧
    deref t8.a fun a9 =>
    ld ((.int .i64) : Kd) h6 (a9.add ((addr2 : Int).toNat * 1)) fun t10 =>
    (0 ≤ addr2 ∧ addr2 < (t8.len : Int)) ∧
    deref t8.a fun a11 =>
    st ((.int .i64) : Kd) h6 (a11.add ((addr2 : Int).toNat * 1)) (w64 (t10 + d3)) fun h12 =>
    deref a1 fun a13 =>
    ld (.sl : Kd) h12 (a13.add 2) fun t14 =>
    (0 ≤ addr2 ∧ addr2 < (t14.len : Int)) ∧
    deref t14.a fun a15 =>
    ld ((.int .i64) : Kd) h12 (a15.add ((addr2 : Int).toNat * 1)) fun t16 =>
    c_cells_Arena_note a1 3 addr2 d3 t16 true h12 fun r17 h18 =>
    deref a1 fun a19 =>
    ld (.sl : Kd) h18 (a19.add 2) fun t20 =>
    (0 ≤ addr2 ∧ addr2 < (t20.len : Int)) ∧
    deref t20.a fun a21 =>
    ld ((.int .i64) : Kd) h18 (a21.add ((addr2 : Int).toNat * 1)) fun t22 =>
    Q (t22, 0, ()) h18))
def cells_Arena_Add.mk : Mk := (.s .d (.s (.s .d (.c (.s .d .d) .d)) (.s .d (.s .d (.s .d .d)))))

def cells_Arena_CAS.j1 (c_cells_Arena_note : Option Addr → Int → Int → Int → Int → Bool → Heap → (Unit → Heap → Prop) → Prop) (a1 : Option Addr) (addr2 : Int) (old3 : Int) (next4 : Int) (Q : (Bool × (Int × Unit)) → Heap → Prop) (t11 : Int) (s12 : Unit) (h13 : Heap) : Prop :=
    c_cells_Arena_note a1 2 addr2 old3 next4 (decide (t11 = old3)) h13 fun r14 h15 =>
    Q ((decide (t11 = old3)), 0, ()) h15
def cells_Arena_CAS.M (c_cells_Arena_outside : Option Addr → Int → Heap → (Bool → Heap → Prop) → Prop) (c_cells_Arena_note : Option Addr → Int → Int → Int → Int → Bool → Heap → (Unit → Heap → Prop) → Prop) (a1 : Option Addr) (addr2 : Int) (old3 : Int) (next4 : Int) (h5 : Heap) (Q : (Bool × (Int × Unit)) → Heap → Prop) : Prop :=
    c_cells_Arena_outside a1 addr2 h5 fun r6 h7 =>
    ((r6 = true →
    Q (false, 20, ()) h7) ∧
    (r6 = false →
    deref a1 fun a8 =>
    ld (.sl : Kd) h7 (a8.add 2) fun t9 =>
    (0 ≤ addr2 ∧ addr2 < (t9.len : Int)) ∧
    deref t9.a fun a10 =>
    ld ((.int .i64) : Kd) h7 (a10.add ((addr2 : Int).toNat * 1)) fun t11 =>
    (((decide (t11 = old3)) = true →
    deref a1 fun a16 =>
    ld (.sl : Kd) h7 (a16.add 2) fun t17 =>
    (0 ≤ addr2 ∧ addr2 < (t17.len : Int)) ∧
    deref t17.a fun a18 =>
    st ((.int .i64) : Kd) h7 (a18.add ((addr2 : Int).toNat * 1)) next4 fun h19 =>
    cells_Arena_CAS.j1 c_cells_Arena_note a1 addr2 old3 next4 Q t11 () h19) ∧
    ((decide (t11 = old3)) = false →
    cells_Arena_CAS.j1 c_cells_Arena_note a1 addr2 old3 next4 Q t11 () h7))))
def cells_Arena_CAS.mk : Mk := (.s .d (.s (.s .d (.c (.s .d .d) .d)) (.s .d (.j [] (.s .d (.c .d .d)) (.s .d (.s .d .d))))))

def cells_Arena_Load.M (c_cells_Arena_outside : Option Addr → Int → Heap → (Bool → Heap → Prop) → Prop) (c_cells_Arena_note : Option Addr → Int → Int → Int → Int → Bool → Heap → (Unit → Heap → Prop) → Prop) (a1 : Option Addr) (addr2 : Int) (h3 : Heap) (Q : Den kparkLot → Heap → Prop) : Prop :=
    c_cells_Arena_outside a1 addr2 h3 fun r4 h5 =>
    ((r4 = true →
    Q (0, 20, ()) h5) ∧
    (r4 = false →
    deref a1 fun a6 =>
    ld (.sl : Kd) h5 (a6.add 2) fun t7 =>
    (0 ≤ addr2 ∧ addr2 < (t7.len : Int)) ∧
    deref t7.a fun a8 =>
    ld ((.int .i64) : Kd) h5 (a8.add ((addr2 : Int).toNat * 1)) fun t9 =>
    c_cells_Arena_note a1 0 addr2 t9 0 true h5 fun r10 h11 =>
    Q (t9, 0, ()) h11))
def cells_Arena_Load.mk : Mk := (.s .d (.s (.s .d (.c (.s .d .d) .d)) (.s .d (.s .d (.s .d .d)))))

def law3_Deny_CAS.M (c_law3_Deny_refuses : Option Addr → Heap → (Bool → Heap → Prop) → Prop) (c_cells_Arena_CAS : Option Addr → Int → Int → Int → Heap → ((Bool × (Int × Unit)) → Heap → Prop) → Prop) (m1 : Option Addr) (addr2 : Int) (from_3 : Int) (to4 : Int) (h5 : Heap) (Q : (Bool × (Int × Unit)) → Heap → Prop) : Prop :=
    c_law3_Deny_refuses m1 h5 fun r6 h7 =>
    ((r6 = true →
    Q (false, 77, ()) h7) ∧
    (r6 = false →
    deref m1 fun a8 =>
    ld (.ptr : Kd) h7 (a8.add 0) fun t9 =>
    c_cells_Arena_CAS t9 addr2 from_3 to4 h7 fun r10 h11 =>
    Q (r10.1, r10.2.1, ()) h11))
def law3_Deny_CAS.mk : Mk := (.s .d (.s (.s .d (.c (.s .d .d) .d)) (.s .d .d)))

def law3_Deny_Load.M (c_law3_Deny_refuses : Option Addr → Heap → (Bool → Heap → Prop) → Prop) (c_cells_Arena_Load : Option Addr → Int → Heap → (Den kparkLot → Heap → Prop) → Prop) (m1 : Option Addr) (addr2 : Int) (h3 : Heap) (Q : Den kparkLot → Heap → Prop) : Prop :=
    c_law3_Deny_refuses m1 h3 fun r4 h5 =>
    ((r4 = true →
    Q (0, 77, ()) h5) ∧
    (r4 = false →
    deref m1 fun a6 =>
    ld (.ptr : Kd) h5 (a6.add 0) fun t7 =>
    c_cells_Arena_Load t7 addr2 h5 fun r8 h9 =>
    Q (r8.1, r8.2.1, ()) h9))
def law3_Deny_Load.mk : Mk := (.s .d (.s (.s .d (.c (.s .d .d) .d)) (.s .d .d)))

def law3_Deny_Reserve.M (c_law3_Deny_refuses : Option Addr → Heap → (Bool → Heap → Prop) → Prop) (c_cells_Arena_Reserve : Option Addr → Int → Heap → (Den kparkLot → Heap → Prop) → Prop) (m1 : Option Addr) (n2 : Int) (h3 : Heap) (Q : Den kparkLot → Heap → Prop) : Prop :=
    c_law3_Deny_refuses m1 h3 fun r4 h5 =>
    ((r4 = true →
    Q (0, 77, ()) h5) ∧
    (r4 = false →
    deref m1 fun a6 =>
    ld (.ptr : Kd) h5 (a6.add 0) fun t7 =>
    c_cells_Arena_Reserve t7 n2 h5 fun r8 h9 =>
    Q (r8.1, r8.2.1, ()) h9))
def law3_Deny_Reserve.mk : Mk := (.s .d (.s (.s .d (.c (.s .d .d) .d)) (.s .d .d)))

def law3_Deny_Store.M (c_law3_Deny_refuses : Option Addr → Heap → (Bool → Heap → Prop) → Prop) (c_cells_Arena_Store : Option Addr → Int → Int → Heap → (Int → Heap → Prop) → Prop) (m1 : Option Addr) (addr2 : Int) (v3 : Int) (h4 : Heap) (Q : Int → Heap → Prop) : Prop :=
    c_law3_Deny_refuses m1 h4 fun r5 h6 =>
    ((r5 = true →
    Q 77 h6) ∧
    (r5 = false →
    deref m1 fun a7 =>
    ld (.ptr : Kd) h6 (a7.add 0) fun t8 =>
    c_cells_Arena_Store t8 addr2 v3 h6 fun r9 h10 =>
    Q r9 h10))
def law3_Deny_Store.mk : Mk := (.s .d (.s (.s .d (.c (.s .d .d) .d)) (.s .d .d)))

def law3_Deny_refuses.M  (m1 : Option Addr) (h2 : Heap) (Q : Bool → Heap → Prop) : Prop :=
    deref m1 fun a3 =>
    ld ((.int .i64) : Kd) h2 (a3.add 2) fun t4 =>
    deref m1 fun a5 =>
    st ((.int .i64) : Kd) h2 (a5.add 2) (w64 (t4 + 1)) fun h6 =>
    deref m1 fun a7 =>
    deref m1 fun a8 =>
    ld ((.int .i64) : Kd) h6 (a7.add 2) fun t9 =>
    ld ((.int .i64) : Kd) h6 (a8.add 1) fun t10 =>
    Q (decide (t10 < t9)) h6
def law3_Deny_refuses.mk : Mk := (.s .d (.s .d (.s (.q [] [] [.p 0, .p 1, .p 2, .p 4, .p 5, .p 6, .w 3 [3, 8, 9], .w 7 [7, 8, 9], .p 8, .p 9]) .d)))

end Go.Mx
