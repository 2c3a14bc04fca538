/-
  What the functions of this seat come to over abstract heaps: printed by a program of this workplace.
-/
import Derived.Test.YthkjfdbmkggemaaMxN
set_option linter.unusedVariables false
namespace Go.Mx
abbrev kapiBufferRun : Kd := (.pair .sl (.pair .sl (.pair .sl (.pair .sl (.pair .bool .nil)))))
abbrev kapiAct : Kd := (.pair (.int .i64) (.pair (.int .i64) (.pair (.int .i64) (.pair (.int .i64) (.pair (.int .i64) .nil)))))
abbrev kapiCellRun : Kd := (.pair .sl (.pair .sl (.pair .sl .nil)))
abbrev kapiEffect : Kd := (.pair (.int .i64) (.pair .bool (.pair (.int .i64) .nil)))
abbrev kapiCall : Kd := (.pair (.int .i64) (.pair (.int .i64) kapiAct))
abbrev kapiTodo : Kd := (.pair (.int .i64) (.pair (.int .i64) .nil))
abbrev kbuffersplace : Kd := (.pair .ptr (.pair (.int .i64) .nil))
abbrev kbuffersView : Kd := (.pair kbuffersplace .nil)
abbrev kbuffersMemory : Kd := (.pair .ptr (.pair (.int .i64) (.pair (.int .i64) (.pair (.arr 8 .sl) (.pair (.arr 8 kbuffersView) .nil)))))
abbrev kbuffersgame : Kd := (.pair .ptr (.pair kapiTodo (.pair .bool kapiCellRun)))
abbrev kdequeOp : Kd := (.pair (.int .i64) (.pair (.int .i64) (.pair kapiTodo (.pair (.int .i64) (.pair (.int .i64) (.pair (.int .i64) (.pair (.int .i64) (.pair (.int .i64) (.pair (.int .i64) (.pair (.int .i64) (.pair (.int .i64) (.pair (.int .i64) (.pair .bool kapiTodo)))))))))))))
abbrev kbuffersactor : Kd := (.pair kdequeOp (.pair (.int .i64) .nil))
abbrev kdequegame : Kd := (.pair .ptr (.pair kapiTodo kapiCellRun))
abbrev kapiAccess : Kd := (.pair (.int .i64) (.pair (.int .i64) (.pair (.int .i64) (.pair (.int .i64) (.pair (.int .i64) (.pair .bool .nil))))))
abbrev kcellsArena : Kd := (.pair kapiTodo (.pair .sl (.pair .sl (.pair (.int .i64) (.pair .bool .nil)))))
abbrev kbuffersfencedView : Kd := (.pair .ptr .nil)
-- @T buffers_fencedView 163
-- @T p_buffers_View 78
-- @T p_cells_Arena 85
-- @T  9

def law21_BuffersCalm.j1 (go21 : (Sl × (Sl × (Int × Unit))) → Heap → Prop) (s19 : (Sl × (Sl × (Int × Unit)))) (s22 : (Sl × (Sl × Unit))) (h23 : Heap) : Prop :=
    go21 (s22.1, s22.2.1, (w64 (s19.2.2.1 + 1)), ()) h23
def law21_BuffersCalm.j2 (s17 : Sl) (go21 : (Sl × (Sl × (Int × Unit))) → Heap → Prop) (s19 : (Sl × (Sl × (Int × Unit)))) (r26 : Int) (s30 : (Sl × (Sl × Unit))) (h31 : Heap) : Prop :=
    (0 ≤ r26 ∧ r26 < (s17.len : Int)) ∧
    deref s17.a fun a32 =>
    ld ((.int .i64) : Kd) h31 (a32.add ((r26 : Int).toNat * 1)) fun t33 =>
    (0 ≤ r26 ∧ r26 < (s17.len : Int)) ∧
    deref s17.a fun a34 =>
    st ((.int .i64) : Kd) h31 (a34.add ((r26 : Int).toNat * 1)) (w64 (t33 + 1)) fun h35 =>
    law21_BuffersCalm.j1 go21 s19 (s30.1, s30.2.1, ()) h35
def law21_BuffersCalm.j3 (r7 : Sl) (s17 : Sl) (go21 : (Sl × (Sl × (Int × Unit))) → Heap → Prop) (s19 : (Sl × (Sl × (Int × Unit)))) (r26 : Int) (s28 : (Bool × Unit)) (h29 : Heap) : Prop :=
    ((s28.1 = true →
    (0 ≤ r26 ∧ r26 < (r7.len : Int)) ∧
    deref r7.a fun a36 =>
    (0 ≤ r26 ∧ r26 < (s17.len : Int)) ∧
    deref s17.a fun a37 =>
    ld (.sl : Kd) h29 (a36.add ((r26 : Int).toNat * 1)) fun t38 =>
    ld ((.int .i64) : Kd) h29 (a37.add ((r26 : Int).toNat * 1)) fun t39 =>
    (0 ≤ t39 ∧ t39 < (t38.len : Int)) ∧
    deref t38.a fun a40 =>
    ld ((.int .i64) : Kd) h29 ((a40.add ((t39 : Int).toNat * 5)).add 1) fun t41 =>
    (((decide (t41 ≠ 5)) = true →
    (0 ≤ r26 ∧ r26 < (r7.len : Int)) ∧
    deref r7.a fun a42 =>
    (0 ≤ r26 ∧ r26 < (s17.len : Int)) ∧
    deref s17.a fun a43 =>
    ld (.sl : Kd) h29 (a42.add ((r26 : Int).toNat * 1)) fun t44 =>
    ld ((.int .i64) : Kd) h29 (a43.add ((r26 : Int).toNat * 1)) fun t45 =>
    (0 ≤ t45 ∧ t45 < (t44.len : Int)) ∧
    deref t44.a fun a46 =>
    ld kapiAct h29 (a46.add ((t45 : Int).toNat * 5)) fun t47 =>
    new h29 (([t47] : List (Den kapiAct)).flatMap (Kd.cells kapiAct)) fun p48 h49 =>
    appendM 5 40 h49 s19.1 ⟨some p48, 1, 1⟩ fun t50 h51 =>
    new h51 (([r26] : List (Den ((.int .i64) : Kd))).flatMap (Kd.cells ((.int .i64) : Kd))) fun p52 h53 =>
    appendM 1 8 h53 s19.2.1 ⟨some p52, 1, 1⟩ fun t54 h55 =>
    law21_BuffersCalm.j2 s17 go21 s19 r26 (t50, t54, ()) h55) ∧
    ((decide (t41 ≠ 5)) = false →
    law21_BuffersCalm.j2 s17 go21 s19 r26 (s19.1, s19.2.1, ()) h29))) ∧
    (s28.1 = false →
    law21_BuffersCalm.j1 go21 s19 (s19.1, s19.2.1, ()) h29))
def law21_BuffersCalm.l4 (Q : Bool → Heap → Prop) (r7 : Sl) (r13 : (Den kapiBufferRun × (Int × Unit))) (r62 : (Den kapiCellRun × (Int × Unit))) (s66 : Sl) (go70 : (Int × Unit) → Heap → Prop) (s68 : (Int × Unit)) (t72 : Int) (go75 : Unit → Heap → Prop) (s73 : Unit) (h74 : Heap) : Prop :=
    (0 ≤ t72 ∧ t72 < (r7.len : Int)) ∧
    deref r7.a fun a76 =>
    (0 ≤ t72 ∧ t72 < (s66.len : Int)) ∧
    deref s66.a fun a77 =>
    ld (.sl : Kd) h74 (a76.add ((t72 : Int).toNat * 1)) fun t78 =>
    ld ((.int .i64) : Kd) h74 (a77.add ((t72 : Int).toNat * 1)) fun t79 =>
    (0 ≤ t79 ∧ t79 < (t78.len : Int)) ∧
    deref t78.a fun a80 =>
    ld ((.int .i64) : Kd) h74 ((a80.add ((t79 : Int).toNat * 5)).add 1) fun t81 =>
    (((decide (t81 = 5)) = true →
    (0 ≤ t72 ∧ t72 < (s66.len : Int)) ∧
    deref s66.a fun a82 =>
    ld ((.int .i64) : Kd) h74 (a82.add ((t72 : Int).toNat * 1)) fun t83 =>
    (0 ≤ t72 ∧ t72 < (s66.len : Int)) ∧
    deref s66.a fun a84 =>
    st ((.int .i64) : Kd) h74 (a84.add ((t72 : Int).toNat * 1)) (w64 (t83 + 1)) fun h85 =>
    go75 () h85) ∧
    ((decide (t81 = 5)) = false →
    (0 ≤ t72 ∧ t72 < (s66.len : Int)) ∧
    deref s66.a fun a86 =>
    (0 ≤ t72 ∧ t72 < (r13.1.1.len : Int)) ∧
    deref r13.1.1.a fun a87 =>
    ld (.sl : Kd) h74 (a87.add ((t72 : Int).toNat * 1)) fun t88 =>
    ld ((.int .i64) : Kd) h74 (a86.add ((t72 : Int).toNat * 1)) fun t89 =>
    (0 ≤ t89 ∧ t89 < (t88.len : Int)) ∧
    deref t88.a fun a90 =>
    ld kapiEffect h74 (a90.add ((t89 : Int).toNat * 3)) fun t91 =>
    (0 ≤ (w64 (s68.1 + 1)) ∧ (w64 (s68.1 + 1)) < (r62.1.1.len : Int)) ∧
    deref r62.1.1.a fun a92 =>
    ld kapiEffect h74 (a92.add (((w64 (s68.1 + 1)) : Int).toNat * 3)) fun t93 =>
    (((!(eqK kapiEffect t91 t93)) = true →
    Q false h74) ∧
    ((!(eqK kapiEffect t91 t93)) = false →
    (0 ≤ t72 ∧ t72 < (s66.len : Int)) ∧
    deref s66.a fun a94 =>
    ld ((.int .i64) : Kd) h74 (a94.add ((t72 : Int).toNat * 1)) fun t95 =>
    (0 ≤ t72 ∧ t72 < (s66.len : Int)) ∧
    deref s66.a fun a96 =>
    st ((.int .i64) : Kd) h74 (a96.add ((t72 : Int).toNat * 1)) (w64 (t95 + 1)) fun h97 =>
    go70 ((w64 (s68.1 + 1)), ()) h97))))
def law21_BuffersCalm.l5 (Q : Bool → Heap → Prop) (r7 : Sl) (r13 : (Den kapiBufferRun × (Int × Unit))) (s19 : (Sl × (Sl × (Int × Unit)))) (r62 : (Den kapiCellRun × (Int × Unit))) (s66 : Sl) (go70 : (Int × Unit) → Heap → Prop) (s68 : (Int × Unit)) (h69 : Heap) : Prop :=
    (((decide (s68.1 < (s19.1.len : Int))) = true →
    (0 ≤ s68.1 ∧ s68.1 < (s19.2.1.len : Int)) ∧
    deref s19.2.1.a fun a71 =>
    ld ((.int .i64) : Kd) h69 (a71.add ((s68.1 : Int).toNat * 1)) fun t72 =>
    Loop (law21_BuffersCalm.l4 Q r7 r13 r62 s66 go70 s68 t72) () h69) ∧
    ((decide (s68.1 < (s19.1.len : Int))) = false →
    Q true h69))
def law21_BuffersCalm.j6 (Q : Bool → Heap → Prop) (r7 : Sl) (r13 : (Den kapiBufferRun × (Int × Unit))) (s19 : (Sl × (Sl × (Int × Unit)))) (r62 : (Den kapiCellRun × (Int × Unit))) (s64 : Unit) (h65 : Heap) : Prop :=
    makeM ((.int .i64) : Kd) 8 h65 (r7.len : Int) (r7.len : Int) fun s66 h67 =>
    Loop (law21_BuffersCalm.l5 Q r7 r13 s19 r62 s66) (0, ()) h67
def law21_BuffersCalm.j7 (Q : Bool → Heap → Prop) (r7 : Sl) (r13 : (Den kapiBufferRun × (Int × Unit))) (s19 : (Sl × (Sl × (Int × Unit)))) (r62 : (Den kapiCellRun × (Int × Unit))) (s98 : (Bool × Unit)) (h99 : Heap) : Prop :=
    ((s98.1 = true →
    Q false h99) ∧
    (s98.1 = false →
    law21_BuffersCalm.j6 Q r7 r13 s19 r62 () h99))
def law21_BuffersCalm.l8 (c_law21_mod : Int → Int → Heap → (Int → Heap → Prop) → Prop) (c_law21_opened : Int → Sl → Heap → (Sl → Heap → Prop) → Prop) (c_cells_Play : Int → Sl → Heap → ((Den kapiCellRun × (Int × Unit)) → Heap → Prop) → Prop) (Q : Bool → Heap → Prop) (r7 : Sl) (s11 : (Sl × Unit)) (r13 : (Den kapiBufferRun × (Int × Unit))) (s17 : Sl) (go21 : (Sl × (Sl × (Int × Unit))) → Heap → Prop) (s19 : (Sl × (Sl × (Int × Unit)))) (h20 : Heap) : Prop :=
    (((decide (s19.2.2.1 < (s11.1.len : Int))) = true →
    (0 ≤ s19.2.2.1 ∧ s19.2.2.1 < (s11.1.len : Int)) ∧
    deref s11.1.a fun a24 =>
    ld ((.int .i64) : Kd) h20 (a24.add ((s19.2.2.1 : Int).toNat * 1)) fun t25 =>
    c_law21_mod t25 (w64 (2 * (r7.len : Int))) h20 fun r26 h27 =>
    (((decide (r26 < (r7.len : Int))) = true →
    (0 ≤ r26 ∧ r26 < (s17.len : Int)) ∧
    deref s17.a fun a56 =>
    (0 ≤ r26 ∧ r26 < (r7.len : Int)) ∧
    deref r7.a fun a57 =>
    ld ((.int .i64) : Kd) h27 (a56.add ((r26 : Int).toNat * 1)) fun t58 =>
    ld (.sl : Kd) h27 (a57.add ((r26 : Int).toNat * 1)) fun t59 =>
    law21_BuffersCalm.j3 r7 s17 go21 s19 r26 ((decide (t58 < (t59.len : Int))), ()) h27) ∧
    ((decide (r26 < (r7.len : Int))) = false →
    law21_BuffersCalm.j3 r7 s17 go21 s19 r26 (false, ()) h27))) ∧
    ((decide (s19.2.2.1 < (s11.1.len : Int))) = false →
    c_law21_opened (w64 (4 + (w64 (4 * (r7.len : Int))))) s19.1 h20 fun r60 h61 =>
    c_cells_Play (w64 (4 + (w64 (4 * (r7.len : Int))))) r60 h61 fun r62 h63 =>
    (((decide (r62.2.1 ≠ 0)) = true →
    law21_BuffersCalm.j7 Q r7 r13 s19 r62 (true, ()) h63) ∧
    ((decide (r62.2.1 ≠ 0)) = false →
    law21_BuffersCalm.j7 Q r7 r13 s19 r62 ((decide ((r62.1.1.len : Int) ≠ (w64 ((s19.1.len : Int) + 1)))), ()) h63))))
def law21_BuffersCalm.j9 (c_law21_mod : Int → Int → Heap → (Int → Heap → Prop) → Prop) (c_law21_opened : Int → Sl → Heap → (Sl → Heap → Prop) → Prop) (c_cells_Play : Int → Sl → Heap → ((Den kapiCellRun × (Int × Unit)) → Heap → Prop) → Prop) (Q : Bool → Heap → Prop) (r7 : Sl) (s11 : (Sl × Unit)) (r13 : (Den kapiBufferRun × (Int × Unit))) (s15 : Unit) (h16 : Heap) : Prop :=
    makeM ((.int .i64) : Kd) 8 h16 (r7.len : Int) (r7.len : Int) fun s17 h18 =>
    Loop (law21_BuffersCalm.l8 c_law21_mod c_law21_opened c_cells_Play Q r7 s11 r13 s17) (⟨none, 0, 0⟩, ⟨none, 0, 0⟩, 0, ()) h18
def law21_BuffersCalm.j10 (c_law21_mod : Int → Int → Heap → (Int → Heap → Prop) → Prop) (c_law21_opened : Int → Sl → Heap → (Sl → Heap → Prop) → Prop) (c_cells_Play : Int → Sl → Heap → ((Den kapiCellRun × (Int × Unit)) → Heap → Prop) → Prop) (Q : Bool → Heap → Prop) (r7 : Sl) (s11 : (Sl × Unit)) (r13 : (Den kapiBufferRun × (Int × Unit))) (s100 : (Bool × Unit)) (h101 : Heap) : Prop :=
    ((s100.1 = true →
    Q false h101) ∧
    (s100.1 = false →
    law21_BuffersCalm.j9 c_law21_mod c_law21_opened c_cells_Play Q r7 s11 r13 () h101))
def law21_BuffersCalm.j11 (c_law21_mod : Int → Int → Heap → (Int → Heap → Prop) → Prop) (c_buffers_Play : Int → Int → Int → Sl → Sl → Heap → ((Den kapiBufferRun × (Int × Unit)) → Heap → Prop) → Prop) (c_law21_progress : Den kapiBufferRun → Sl → Sl → Heap → (Bool → Heap → Prop) → Prop) (c_law21_opened : Int → Sl → Heap → (Sl → Heap → Prop) → Prop) (c_cells_Play : Int → Sl → Heap → ((Den kapiCellRun × (Int × Unit)) → Heap → Prop) → Prop) (Q : Bool → Heap → Prop) (r7 : Sl) (r9 : Int) (s11 : (Sl × Unit)) (h12 : Heap) : Prop :=
    c_buffers_Play (w64 (4 + (w64 (4 * (r7.len : Int))))) (w64 (4 + (w64 (4 * (r7.len : Int))))) (w64 (1 + r9)) r7 s11.1 h12 fun r13 h14 =>
    (((decide (r13.2.1 ≠ 0)) = true →
    law21_BuffersCalm.j10 c_law21_mod c_law21_opened c_cells_Play Q r7 s11 r13 (true, ()) h14) ∧
    ((decide (r13.2.1 ≠ 0)) = false →
    (((decide ((r13.1.1.len : Int) ≠ (r7.len : Int))) = true →
    law21_BuffersCalm.j10 c_law21_mod c_law21_opened c_cells_Play Q r7 s11 r13 (true, ()) h14) ∧
    ((decide ((r13.1.1.len : Int) ≠ (r7.len : Int))) = false →
    c_law21_progress (r13.1.1, (r13.1.2.1, (r13.1.2.2.1, (r13.1.2.2.2.1, (r13.1.2.2.2.2.1, ()))))) r7 s11.1 h14 fun r102 h103 =>
    law21_BuffersCalm.j10 c_law21_mod c_law21_opened c_cells_Play Q r7 s11 r13 ((!r102), ()) h103))))
def law21_BuffersCalm.M (c_law21_few : Sl → Bool → Heap → (Sl → Heap → Prop) → Prop) (c_law21_private : Sl → Heap → (Sl → Heap → Prop) → Prop) (c_law21_mod : Int → Int → Heap → (Int → Heap → Prop) → Prop) (c_buffers_Play : Int → Int → Int → Sl → Sl → Heap → ((Den kapiBufferRun × (Int × Unit)) → Heap → Prop) → Prop) (c_law21_progress : Den kapiBufferRun → Sl → Sl → Heap → (Bool → Heap → Prop) → Prop) (c_law21_opened : Int → Sl → Heap → (Sl → Heap → Prop) → Prop) (c_cells_Play : Int → Sl → Heap → ((Den kapiCellRun × (Int × Unit)) → Heap → Prop) → Prop) (room1 : Int) (lists2 : Sl) (picks3 : Sl) (h4 : Heap) (Q : Bool → Heap → Prop) : Prop :=
    c_law21_few lists2 false h4 fun r5 h6 =>
    c_law21_private r5 h6 fun r7 h8 =>
    c_law21_mod room1 64 h8 fun r9 h10 =>
    (((decide ((2000 : Int) < (picks3.len : Int))) = true →
    (0 ≤ (2000 : Int) ∧ (2000 : Int) ≤ (picks3.cap : Int)) ∧
    law21_BuffersCalm.j11 c_law21_mod c_buffers_Play c_law21_progress c_law21_opened c_cells_Play Q r7 r9 ((picks3.cut 0 (((2000 : Int) : Int).toNat) 1), ()) h10) ∧
    ((decide ((2000 : Int) < (picks3.len : Int))) = false →
    law21_BuffersCalm.j11 c_law21_mod c_buffers_Play c_law21_progress c_law21_opened c_cells_Play Q r7 r9 (picks3, ()) h10))
def law21_BuffersCalm.mk : Mk := (.s .d (.s .d (.s .d (.s .d (.s .d (.j [.slot 2 .sl] (.s .d (.c .d .d)) (.s (.r [9]) (.j [] (.j [.slot 62 .bool] .d (.c (.s .d .d) .d)) (.s .d (.s .d (.s .d (.s (.s .d (.b (.l [.slot 12 .sl, .slot 13 .sl, .slot 15 (.int .i64)] (.s (.s .d (.c .d .d)) (.j [.slot 12 .sl, .slot 13 .sl] (.b (.s .d (.j [.slot 92 .bool] (.q [] [] [.p 0, .p 1, .p 2, .p 3, .p 4, .p 5, .p 6, .p 8, .p 9, .p 10, .w 7 [7, 13, 14], .w 11 [11, 12, 13, 14], .p 12, .p 13, .p 14]) (.c (.j [.slot 12 .sl, .slot 13 .sl] (.s (.q [] [] [.p 0, .p 1, .p 2, .p 4, .p 5, .p 6, .w 3 [3, 8, 9, 10, 11], .w 7 [7, 8, 9, 10, 11], .p 8, .p 9, .w 10 [10, 11], .p 11]) (.c (.s (.q [] [] [.p 0, .p 1, .p 2, .p 3, .p 5, .p 6, .p 7, .w 4 [4, 9, 10, 11, 12, 13], .w 8 [8, 9, 10, 11, 12, 13], .p 9, .w 10 [10, 11, 12, 13], .o 11, .o 12, .p 13]) .d) .d)) .d) .d)))) .d))))) (.s (.r [8]) (.j [] (.j [.slot 146 .bool] .d (.c (.s .d .d) .d)) (.s .d (.s (.s .d (.b (.l [.slot 20 (.int .i64)] (.s (.s .d (.c .d .d)) (.s (.b (.s .d (.s (.b (.l [] (.s (.s (.q [] [] [.p 0, .p 1, .p 2, .p 4, .p 5, .p 6, .w 3 [3, 8, 9, 10, 11], .w 7 [7, 8, 9, 10, 11], .p 8, .p 9, .w 10 [10, 11], .p 11]) (.c .d .d)) (.b .d)))) (.s (.s (.q [] [] [.p 0, .p 2, .p 5, .p 6, .p 7, .p 11, .p 13, .p 14, .w 1 [1, 3, 4, 9, 10, 17], .p 3, .w 4 [4, 9, 10, 17], .w 8 [8, 9, 10, 17], .p 9, .w 10 [10, 17], .w 12 [12, 15, 16, 17], .p 15, .w 16 [16, 17], .p 17]) (.c (.s .d .d) .d)) .d)))) .d))))) (.s .d .d)))))))))))))))))

def law21_private.j1 (go8 : (Sl × (Int × Unit)) → Heap → Prop) (s6 : (Sl × (Int × Unit))) (s11 : (Sl × Unit)) (h12 : Heap) : Prop :=
    go8 (s11.1, (w64 (s6.2.1 + 1)), ()) h12
def law21_private.j2 (go8 : (Sl × (Int × Unit)) → Heap → Prop) (s6 : (Sl × (Int × Unit))) (s21 : (Den kapiAct × Unit)) (h22 : Heap) : Prop :=
    new h22 (([(s21.1.1, (s21.1.2.1, (s21.1.2.2.1, (s21.1.2.2.2.1, (s21.1.2.2.2.2.1, ())))))] : List (Den kapiAct)).flatMap (Kd.cells kapiAct)) fun p23 h24 =>
    appendM 5 40 h24 s6.1 ⟨some p23, 1, 1⟩ fun t25 h26 =>
    law21_private.j1 go8 s6 (t25, ()) h26
def law21_private.j3 (c_law21_mod : Int → Int → Heap → (Int → Heap → Prop) → Prop) (s3 : (Sl × (Int × Unit))) (go8 : (Sl × (Int × Unit)) → Heap → Prop) (s6 : (Sl × (Int × Unit))) (t16 : Den kapiAct) (s17 : (Bool × Unit)) (h18 : Heap) : Prop :=
    c_law21_mod t16.2.2.1 4 h18 fun r19 h20 =>
    ((s17.1 = true →
    law21_private.j2 go8 s6 ((t16.1, (t16.2.1, ((w64 ((w64 (r19 + 4)) + (w64 (4 * s3.2.1)))), (t16.2.2.2.1, (t16.2.2.2.2.1, ()))))), ()) h20) ∧
    (s17.1 = false →
    law21_private.j2 go8 s6 ((t16.1, (t16.2.1, (r19, (t16.2.2.2.1, (t16.2.2.2.2.1, ()))))), ()) h20))
def law21_private.l4 (c_law21_mod : Int → Int → Heap → (Int → Heap → Prop) → Prop) (lists1 : Sl) (go5 : (Sl × (Int × Unit)) → Heap → Prop) (s3 : (Sl × (Int × Unit))) (go8 : (Sl × (Int × Unit)) → Heap → Prop) (s6 : (Sl × (Int × Unit))) (h7 : Heap) : Prop :=
    (0 ≤ s3.2.1 ∧ s3.2.1 < (lists1.len : Int)) ∧
    deref lists1.a fun a9 =>
    ld (.sl : Kd) h7 (a9.add ((s3.2.1 : Int).toNat * 1)) fun t10 =>
    (((decide (s6.2.1 < (t10.len : Int))) = true →
    (0 ≤ s3.2.1 ∧ s3.2.1 < (lists1.len : Int)) ∧
    deref lists1.a fun a13 =>
    ld (.sl : Kd) h7 (a13.add ((s3.2.1 : Int).toNat * 1)) fun t14 =>
    (0 ≤ s6.2.1 ∧ s6.2.1 < (t14.len : Int)) ∧
    deref t14.a fun a15 =>
    ld kapiAct h7 (a15.add ((s6.2.1 : Int).toNat * 5)) fun t16 =>
    (((decide (t16.2.1 = 1)) = true →
    law21_private.j3 c_law21_mod s3 go8 s6 t16 (true, ()) h7) ∧
    ((decide (t16.2.1 = 1)) = false →
    c_law21_mod t16.2.2.1 8 h7 fun r27 h28 =>
    law21_private.j3 c_law21_mod s3 go8 s6 t16 ((decide ((4 : Int) ≤ r27)), ()) h28))) ∧
    ((decide (s6.2.1 < (t10.len : Int))) = false →
    new h7 (([s6.1] : List (Den (.sl : Kd))).flatMap (Kd.cells (.sl : Kd))) fun p29 h30 =>
    appendM 1 24 h30 s3.1 ⟨some p29, 1, 1⟩ fun t31 h32 =>
    go5 (t31, (w64 (s3.2.1 + 1)), ()) h32))
def law21_private.l5 (c_law21_mod : Int → Int → Heap → (Int → Heap → Prop) → Prop) (lists1 : Sl) (Q : Sl → Heap → Prop) (go5 : (Sl × (Int × Unit)) → Heap → Prop) (s3 : (Sl × (Int × Unit))) (h4 : Heap) : Prop :=
    (((decide (s3.2.1 < (lists1.len : Int))) = true →
    Loop (law21_private.l4 c_law21_mod lists1 go5 s3) (⟨none, 0, 0⟩, 0, ()) h4) ∧
    ((decide (s3.2.1 < (lists1.len : Int))) = false →
    Q s3.1 h4))
def law21_private.M (c_law21_mod : Int → Int → Heap → (Int → Heap → Prop) → Prop) (lists1 : Sl) (h2 : Heap) (Q : Sl → Heap → Prop) : Prop :=
    Loop (law21_private.l5 c_law21_mod lists1 Q) (⟨none, 0, 0⟩, 0, ()) h2
def law21_private.mk : Mk := (.s .d (.s .d (.s (.s .d (.b (.l [.slot 3 .sl, .slot 4 (.int .i64)] (.s (.s .d (.c .d .d)) (.s (.b (.s .d (.s (.s .d (.b (.l [.slot 5 .sl, .slot 6 (.int .i64)] (.s (.s .d (.c .d .d)) (.j [.slot 5 .sl] (.b (.s (.r [7]) (.j [.slot 8 .bool] .d (.s .d (.j [.box 7 kapiAct] (.s .d (.c .d .d)) .d))))) .d))))) .d))) .d))))) (.s .d .d))))

def law21_few.j1 (Q : Sl → Heap → Prop) (s6 : (Sl × Unit)) (h7 : Heap) : Prop :=
    Q s6.1 h7
def law21_few.j2 (Q : Sl → Heap → Prop) (s4 : (Sl × Unit)) (h5 : Heap) : Prop :=
    (((decide ((s4.1.len : Int) = 0)) = true →
    new h5 (([⟨none, 0, 0⟩] : List (Den (.sl : Kd))).flatMap (Kd.cells (.sl : Kd))) fun p8 h9 =>
    appendM 1 24 h9 s4.1 ⟨some p8, 1, 1⟩ fun t10 h11 =>
    law21_few.j1 Q (t10, ()) h11) ∧
    ((decide ((s4.1.len : Int) = 0)) = false →
    law21_few.j1 Q (s4.1, ()) h5))
def law21_few.j3 (go14 : (Sl × (Int × Unit)) → Heap → Prop) (s12 : (Sl × (Int × Unit))) (s17 : (Sl × Unit)) (h18 : Heap) : Prop :=
    go14 (s17.1, (w64 (s12.2.1 + 1)), ()) h18
def law21_few.j4 (go14 : (Sl × (Int × Unit)) → Heap → Prop) (s12 : (Sl × (Int × Unit))) (s23 : (Sl × Unit)) (h24 : Heap) : Prop :=
    new h24 (([s23.1] : List (Den (.sl : Kd))).flatMap (Kd.cells (.sl : Kd))) fun p25 h26 =>
    appendM 1 24 h26 s12.1 ⟨some p25, 1, 1⟩ fun t27 h28 =>
    law21_few.j3 go14 s12 (t27, ()) h28
def law21_few.j5 (c_law21_guarded : Sl → Heap → (Sl → Heap → Prop) → Prop) (fenced2 : Bool) (go14 : (Sl × (Int × Unit)) → Heap → Prop) (s12 : (Sl × (Int × Unit))) (s21 : (Sl × Unit)) (h22 : Heap) : Prop :=
    ((fenced2 = true →
    c_law21_guarded s21.1 h22 fun r29 h30 =>
    law21_few.j4 go14 s12 (r29, ()) h30) ∧
    (fenced2 = false →
    law21_few.j4 go14 s12 (s21.1, ()) h22))
def law21_few.j6 (c_law21_guarded : Sl → Heap → (Sl → Heap → Prop) → Prop) (lists1 : Sl) (fenced2 : Bool) (go14 : (Sl × (Int × Unit)) → Heap → Prop) (s12 : (Sl × (Int × Unit))) (s15 : Unit) (h16 : Heap) : Prop :=
    (0 ≤ s12.2.1 ∧ s12.2.1 < (lists1.len : Int)) ∧
    deref lists1.a fun a19 =>
    ld (.sl : Kd) h16 (a19.add ((s12.2.1 : Int).toNat * 1)) fun t20 =>
    (((decide ((1000 : Int) < (t20.len : Int))) = true →
    (0 ≤ (1000 : Int) ∧ (1000 : Int) ≤ (t20.cap : Int)) ∧
    law21_few.j5 c_law21_guarded fenced2 go14 s12 ((t20.cut 0 (((1000 : Int) : Int).toNat) 5), ()) h16) ∧
    ((decide ((1000 : Int) < (t20.len : Int))) = false →
    law21_few.j5 c_law21_guarded fenced2 go14 s12 (t20, ()) h16))
def law21_few.j7 (c_law21_guarded : Sl → Heap → (Sl → Heap → Prop) → Prop) (lists1 : Sl) (fenced2 : Bool) (Q : Sl → Heap → Prop) (go14 : (Sl × (Int × Unit)) → Heap → Prop) (s12 : (Sl × (Int × Unit))) (s31 : (Bool × Unit)) (h32 : Heap) : Prop :=
    ((s31.1 = true →
    law21_few.j6 c_law21_guarded lists1 fenced2 go14 s12 () h32) ∧
    (s31.1 = false →
    law21_few.j2 Q (s12.1, ()) h32))
def law21_few.l8 (c_law21_guarded : Sl → Heap → (Sl → Heap → Prop) → Prop) (lists1 : Sl) (fenced2 : Bool) (Q : Sl → Heap → Prop) (go14 : (Sl × (Int × Unit)) → Heap → Prop) (s12 : (Sl × (Int × Unit))) (h13 : Heap) : Prop :=
    (((decide (s12.2.1 < (lists1.len : Int))) = true →
    law21_few.j7 c_law21_guarded lists1 fenced2 Q go14 s12 ((decide (s12.2.1 < 8)), ()) h13) ∧
    ((decide (s12.2.1 < (lists1.len : Int))) = false →
    law21_few.j7 c_law21_guarded lists1 fenced2 Q go14 s12 (false, ()) h13))
def law21_few.M (c_law21_guarded : Sl → Heap → (Sl → Heap → Prop) → Prop) (lists1 : Sl) (fenced2 : Bool) (h3 : Heap) (Q : Sl → Heap → Prop) : Prop :=
    Loop (law21_few.l8 c_law21_guarded lists1 fenced2 Q) (⟨none, 0, 0⟩, 0, ()) h3
def law21_few.mk : Mk := (.s .d (.s .d (.j [.slot 5 .sl] (.s .d (.b (.l [.slot 5 .sl, .slot 6 (.int .i64)] (.j [] (.j [.slot 15 .bool] .d (.c .d .d)) (.j [.slot 5 .sl] (.b (.s .d (.j [.slot 7 .sl] (.s .d (.c .d .d)) (.j [.slot 7 .sl] (.s .d (.c .d .d)) .d)))) .d))))) (.j [.slot 5 .sl] (.s .d (.c .d .d)) (.s .d .d)))))

def law21_mod.j1 (Q : Int → Heap → Prop) (s4 : (Int × Unit)) (h5 : Heap) : Prop :=
    Q s4.1 h5
def law21_mod.M  (x1 : Int) (n2 : Int) (h3 : Heap) (Q : Int → Heap → Prop) : Prop :=
    n2 ≠ 0 ∧
    (((decide ((Int.tmod x1 n2) < 0)) = true →
    law21_mod.j1 Q ((w64 ((Int.tmod x1 n2) + n2)), ()) h3) ∧
    ((decide ((Int.tmod x1 n2) < 0)) = false →
    law21_mod.j1 Q ((Int.tmod x1 n2), ()) h3))
def law21_mod.mk : Mk := (.s .d (.s .d (.j [.slot 5 (.int .i64)] (.s .d (.c .d .d)) (.s .d .d))))

def buffers_Play.j1 (go19 : (Int × Unit) → Heap → Prop) (s17 : (Int × Unit)) (s20 : Unit) (h21 : Heap) : Prop :=
    go19 ((w64 (s17.1 + 1)), ()) h21
def buffers_Play.j2 (go50 : (Int × (Den kapiBufferRun × Unit)) → Heap → Prop) (s48 : (Int × (Den kapiBufferRun × Unit))) (s51 : (Den kapiBufferRun × Unit)) (h52 : Heap) : Prop :=
    go50 ((w64 (s48.1 + 1)), (s51.1.1, (s51.1.2.1, (s51.1.2.2.1, (s51.1.2.2.2.1, (s51.1.2.2.2.2.1, ()))))), ()) h52
def buffers_Play.l3 (c_buffers_Memory_Waiting : Option Addr → Int → Heap → (Sl → Heap → Prop) → Prop) (c_buffers_Memory_Cells : Option Addr → Heap → (Sl → Heap → Prop) → Prop) (c_buffers_Memory_Log : Option Addr → Heap → (Sl → Heap → Prop) → Prop) (Q : (Den kapiBufferRun × (Int × Unit)) → Heap → Prop) (s11 : (Sl × (Sl × (Int × (Option Addr × (Den kapiBufferRun × Unit)))))) (go50 : (Int × (Den kapiBufferRun × Unit)) → Heap → Prop) (s48 : (Int × (Den kapiBufferRun × Unit))) (h49 : Heap) : Prop :=
    (((decide (s48.1 < s11.2.2.1)) = true →
    c_buffers_Memory_Waiting s11.2.2.2.1 s48.1 h49 fun r53 h54 =>
    (0 ≤ s48.1 ∧ s48.1 < (s48.2.1.2.1.len : Int)) ∧
    deref s48.2.1.2.1.a fun a55 =>
    st (.sl : Kd) h54 (a55.add ((s48.1 : Int).toNat * 1)) r53 fun h56 =>
    ((s48.2.1.2.2.2.2.1 = true →
    (0 ≤ s48.1 ∧ s48.1 < (s48.2.1.2.1.len : Int)) ∧
    deref s48.2.1.2.1.a fun a57 =>
    ld (.sl : Kd) h56 (a57.add ((s48.1 : Int).toNat * 1)) fun t58 =>
    (((decide ((t58.len : Int) = 0)) = true →
    (0 ≤ s48.1 ∧ s48.1 < (s11.1.len : Int)) ∧
    deref s11.1.a fun a59 =>
    (0 ≤ s48.1 ∧ s48.1 < (s48.2.1.1.len : Int)) ∧
    deref s48.2.1.1.a fun a60 =>
    ld (.sl : Kd) h56 (a60.add ((s48.1 : Int).toNat * 1)) fun t61 =>
    ld (.sl : Kd) h56 (a59.add ((s48.1 : Int).toNat * 1)) fun t62 =>
    buffers_Play.j2 go50 s48 ((s48.2.1.1, (s48.2.1.2.1, (s48.2.1.2.2.1, (s48.2.1.2.2.2.1, ((decide ((t61.len : Int) = (t62.len : Int))), ()))))), ()) h56) ∧
    ((decide ((t58.len : Int) = 0)) = false →
    buffers_Play.j2 go50 s48 ((s48.2.1.1, (s48.2.1.2.1, (s48.2.1.2.2.1, (s48.2.1.2.2.2.1, (false, ()))))), ()) h56))) ∧
    (s48.2.1.2.2.2.2.1 = false →
    buffers_Play.j2 go50 s48 ((s48.2.1.1, (s48.2.1.2.1, (s48.2.1.2.2.1, (s48.2.1.2.2.2.1, (false, ()))))), ()) h56))) ∧
    ((decide (s48.1 < s11.2.2.1)) = false →
    c_buffers_Memory_Cells s11.2.2.2.1 h49 fun r63 h64 =>
    c_buffers_Memory_Log s11.2.2.2.1 h64 fun r65 h66 =>
    Q ((s48.2.1.1, (s48.2.1.2.1, (r63, (r65, (s48.2.1.2.2.2.2.1, ()))))), 0, ()) h66))
def buffers_Play.l4 (c_ops_Mod : Int → Int → Heap → (Int → Heap → Prop) → Prop) (c_buffers_Memory_Flush : Option Addr → Int → Heap → (Bool → Heap → Prop) → Prop) (c_buffers_Memory_View : Option Addr → Int → Heap → (Option Addr → Heap → Prop) → Prop) (c_buffers_View_act : Option Addr → Den kapiAct → Heap → (Den kapiEffect → Heap → Prop) → Prop) (c_buffers_Memory_Waiting : Option Addr → Int → Heap → (Sl → Heap → Prop) → Prop) (c_buffers_Memory_Cells : Option Addr → Heap → (Sl → Heap → Prop) → Prop) (c_buffers_Memory_Log : Option Addr → Heap → (Sl → Heap → Prop) → Prop) (Q : (Den kapiBufferRun × (Int × Unit)) → Heap → Prop) (s11 : (Sl × (Sl × (Int × (Option Addr × (Den kapiBufferRun × Unit)))))) (s13 : Sl) (s15 : Sl) (go19 : (Int × Unit) → Heap → Prop) (s17 : (Int × Unit)) (h18 : Heap) : Prop :=
    (((decide (s17.1 < (s11.2.1.len : Int))) = true →
    (0 ≤ s17.1 ∧ s17.1 < (s11.2.1.len : Int)) ∧
    deref s11.2.1.a fun a22 =>
    ld ((.int .i64) : Kd) h18 (a22.add ((s17.1 : Int).toNat * 1)) fun t23 =>
    c_ops_Mod t23 (w64 (2 * s11.2.2.1)) h18 fun r24 h25 =>
    (((decide (s11.2.2.1 ≤ r24)) = true →
    c_buffers_Memory_Flush s11.2.2.2.1 (w64 (r24 - s11.2.2.1)) h25 fun r26 h27 =>
    buffers_Play.j1 go19 s17 () h27) ∧
    ((decide (s11.2.2.1 ≤ r24)) = false →
    (0 ≤ r24 ∧ r24 < (s13.len : Int)) ∧
    deref s13.a fun a28 =>
    ld (.sl : Kd) h25 (a28.add ((r24 : Int).toNat * 1)) fun t29 =>
    (0 ≤ r24 ∧ r24 < (s11.1.len : Int)) ∧
    deref s11.1.a fun a30 =>
    ld (.sl : Kd) h25 (a30.add ((r24 : Int).toNat * 1)) fun t31 =>
    (((decide ((t29.len : Int) < (t31.len : Int))) = true →
    (0 ≤ r24 ∧ r24 < (s11.1.len : Int)) ∧
    deref s11.1.a fun a32 =>
    (0 ≤ r24 ∧ r24 < (s13.len : Int)) ∧
    deref s13.a fun a33 =>
    ld (.sl : Kd) h25 (a33.add ((r24 : Int).toNat * 1)) fun t34 =>
    ld (.sl : Kd) h25 (a32.add ((r24 : Int).toNat * 1)) fun t35 =>
    (0 ≤ (t29.len : Int) ∧ (t29.len : Int) < (t35.len : Int)) ∧
    deref t35.a fun a36 =>
    ld kapiAct h25 (a36.add (((t29.len : Int) : Int).toNat * 5)) fun t37 =>
    c_buffers_Memory_View s11.2.2.2.1 r24 h25 fun r38 h39 =>
    sees h39 (some (a36.add (((t29.len : Int) : Int).toNat * 5))) kapiAct t37 ∧
    sees h39 (some (a32.add ((r24 : Int).toNat * 1))) (.sl : Kd) t35 ∧
    sees h39 (some (a33.add ((r24 : Int).toNat * 1))) (.sl : Kd) t34 ∧
    c_buffers_View_act r38 t37 h39 fun r40 h41 =>
    sees h41 (some (a33.add ((r24 : Int).toNat * 1))) (.sl : Kd) t34 ∧
    new h41 (([r40] : List (Den kapiEffect)).flatMap (Kd.cells kapiEffect)) fun p42 h43 =>
    appendM 3 24 h43 t34 ⟨some p42, 1, 1⟩ fun t44 h45 =>
    (0 ≤ r24 ∧ r24 < (s13.len : Int)) ∧
    deref s13.a fun a46 =>
    st (.sl : Kd) h45 (a46.add ((r24 : Int).toNat * 1)) t44 fun h47 =>
    buffers_Play.j1 go19 s17 () h47) ∧
    ((decide ((t29.len : Int) < (t31.len : Int))) = false →
    buffers_Play.j1 go19 s17 () h25))))) ∧
    ((decide (s17.1 < (s11.2.1.len : Int))) = false →
    Loop (buffers_Play.l3 c_buffers_Memory_Waiting c_buffers_Memory_Cells c_buffers_Memory_Log Q s11) (0, (s13, (s15, (Sl.none, (Sl.none, (true, ()))))), ()) h18))
def buffers_Play.j5 (go73 : (Int × Unit) → Heap → Prop) (s71 : (Int × Unit)) (s74 : Unit) (h75 : Heap) : Prop :=
    go73 ((w64 (s71.1 + 1)), ()) h75
def buffers_Play.j6 (go104 : (Int × (Den kapiBufferRun × Unit)) → Heap → Prop) (s102 : (Int × (Den kapiBufferRun × Unit))) (s105 : (Den kapiBufferRun × Unit)) (h106 : Heap) : Prop :=
    go104 ((w64 (s102.1 + 1)), (s105.1.1, (s105.1.2.1, (s105.1.2.2.1, (s105.1.2.2.2.1, (s105.1.2.2.2.2.1, ()))))), ()) h106
def buffers_Play.l7 (c_buffers_Memory_Waiting : Option Addr → Int → Heap → (Sl → Heap → Prop) → Prop) (c_buffers_Memory_Cells : Option Addr → Heap → (Sl → Heap → Prop) → Prop) (c_buffers_Memory_Log : Option Addr → Heap → (Sl → Heap → Prop) → Prop) (Q : (Den kapiBufferRun × (Int × Unit)) → Heap → Prop) (s11 : (Sl × (Sl × (Int × (Option Addr × (Den kapiBufferRun × Unit)))))) (go104 : (Int × (Den kapiBufferRun × Unit)) → Heap → Prop) (s102 : (Int × (Den kapiBufferRun × Unit))) (h103 : Heap) : Prop :=
    (((decide (s102.1 < s11.2.2.1)) = true →
    c_buffers_Memory_Waiting s11.2.2.2.1 s102.1 h103 fun r107 h108 =>
    (0 ≤ s102.1 ∧ s102.1 < (s102.2.1.2.1.len : Int)) ∧
    deref s102.2.1.2.1.a fun a109 =>
    st (.sl : Kd) h108 (a109.add ((s102.1 : Int).toNat * 1)) r107 fun h110 =>
    ((s102.2.1.2.2.2.2.1 = true →
    (0 ≤ s102.1 ∧ s102.1 < (s102.2.1.2.1.len : Int)) ∧
    deref s102.2.1.2.1.a fun a111 =>
    ld (.sl : Kd) h110 (a111.add ((s102.1 : Int).toNat * 1)) fun t112 =>
    (((decide ((t112.len : Int) = 0)) = true →
    (0 ≤ s102.1 ∧ s102.1 < (s11.1.len : Int)) ∧
    deref s11.1.a fun a113 =>
    (0 ≤ s102.1 ∧ s102.1 < (s102.2.1.1.len : Int)) ∧
    deref s102.2.1.1.a fun a114 =>
    ld (.sl : Kd) h110 (a114.add ((s102.1 : Int).toNat * 1)) fun t115 =>
    ld (.sl : Kd) h110 (a113.add ((s102.1 : Int).toNat * 1)) fun t116 =>
    buffers_Play.j6 go104 s102 ((s102.2.1.1, (s102.2.1.2.1, (s102.2.1.2.2.1, (s102.2.1.2.2.2.1, ((decide ((t115.len : Int) = (t116.len : Int))), ()))))), ()) h110) ∧
    ((decide ((t112.len : Int) = 0)) = false →
    buffers_Play.j6 go104 s102 ((s102.2.1.1, (s102.2.1.2.1, (s102.2.1.2.2.1, (s102.2.1.2.2.2.1, (false, ()))))), ()) h110))) ∧
    (s102.2.1.2.2.2.2.1 = false →
    buffers_Play.j6 go104 s102 ((s102.2.1.1, (s102.2.1.2.1, (s102.2.1.2.2.1, (s102.2.1.2.2.2.1, (false, ()))))), ()) h110))) ∧
    ((decide (s102.1 < s11.2.2.1)) = false →
    c_buffers_Memory_Cells s11.2.2.2.1 h103 fun r117 h118 =>
    c_buffers_Memory_Log s11.2.2.2.1 h118 fun r119 h120 =>
    Q ((s102.2.1.1, (s102.2.1.2.1, (r117, (r119, (s102.2.1.2.2.2.2.1, ()))))), 0, ()) h120))
def buffers_Play.l8 (c_ops_Mod : Int → Int → Heap → (Int → Heap → Prop) → Prop) (c_buffers_Memory_Flush : Option Addr → Int → Heap → (Bool → Heap → Prop) → Prop) (c_buffers_Memory_View : Option Addr → Int → Heap → (Option Addr → Heap → Prop) → Prop) (c_buffers_View_act : Option Addr → Den kapiAct → Heap → (Den kapiEffect → Heap → Prop) → Prop) (c_buffers_Memory_Waiting : Option Addr → Int → Heap → (Sl → Heap → Prop) → Prop) (c_buffers_Memory_Cells : Option Addr → Heap → (Sl → Heap → Prop) → Prop) (c_buffers_Memory_Log : Option Addr → Heap → (Sl → Heap → Prop) → Prop) (Q : (Den kapiBufferRun × (Int × Unit)) → Heap → Prop) (s11 : (Sl × (Sl × (Int × (Option Addr × (Den kapiBufferRun × Unit)))))) (s67 : Sl) (s69 : Sl) (go73 : (Int × Unit) → Heap → Prop) (s71 : (Int × Unit)) (h72 : Heap) : Prop :=
    (((decide (s71.1 < (s11.2.1.len : Int))) = true →
    (0 ≤ s71.1 ∧ s71.1 < (s11.2.1.len : Int)) ∧
    deref s11.2.1.a fun a76 =>
    ld ((.int .i64) : Kd) h72 (a76.add ((s71.1 : Int).toNat * 1)) fun t77 =>
    c_ops_Mod t77 (w64 (2 * s11.2.2.1)) h72 fun r78 h79 =>
    (((decide (s11.2.2.1 ≤ r78)) = true →
    c_buffers_Memory_Flush s11.2.2.2.1 (w64 (r78 - s11.2.2.1)) h79 fun r80 h81 =>
    buffers_Play.j5 go73 s71 () h81) ∧
    ((decide (s11.2.2.1 ≤ r78)) = false →
    (0 ≤ r78 ∧ r78 < (s69.len : Int)) ∧
    deref s69.a fun a82 =>
    ld (.sl : Kd) h79 (a82.add ((r78 : Int).toNat * 1)) fun t83 =>
    (0 ≤ r78 ∧ r78 < (s11.1.len : Int)) ∧
    deref s11.1.a fun a84 =>
    ld (.sl : Kd) h79 (a84.add ((r78 : Int).toNat * 1)) fun t85 =>
    (((decide ((t83.len : Int) < (t85.len : Int))) = true →
    (0 ≤ r78 ∧ r78 < (s11.1.len : Int)) ∧
    deref s11.1.a fun a86 =>
    (0 ≤ r78 ∧ r78 < (s69.len : Int)) ∧
    deref s69.a fun a87 =>
    ld (.sl : Kd) h79 (a87.add ((r78 : Int).toNat * 1)) fun t88 =>
    ld (.sl : Kd) h79 (a86.add ((r78 : Int).toNat * 1)) fun t89 =>
    (0 ≤ (t83.len : Int) ∧ (t83.len : Int) < (t89.len : Int)) ∧
    deref t89.a fun a90 =>
    ld kapiAct h79 (a90.add (((t83.len : Int) : Int).toNat * 5)) fun t91 =>
    c_buffers_Memory_View s11.2.2.2.1 r78 h79 fun r92 h93 =>
    sees h93 (some (a90.add (((t83.len : Int) : Int).toNat * 5))) kapiAct t91 ∧
    sees h93 (some (a86.add ((r78 : Int).toNat * 1))) (.sl : Kd) t89 ∧
    sees h93 (some (a87.add ((r78 : Int).toNat * 1))) (.sl : Kd) t88 ∧
    c_buffers_View_act r92 t91 h93 fun r94 h95 =>
    sees h95 (some (a87.add ((r78 : Int).toNat * 1))) (.sl : Kd) t88 ∧
    new h95 (([r94] : List (Den kapiEffect)).flatMap (Kd.cells kapiEffect)) fun p96 h97 =>
    appendM 3 24 h97 t88 ⟨some p96, 1, 1⟩ fun t98 h99 =>
    (0 ≤ r78 ∧ r78 < (s69.len : Int)) ∧
    deref s69.a fun a100 =>
    st (.sl : Kd) h99 (a100.add ((r78 : Int).toNat * 1)) t98 fun h101 =>
    buffers_Play.j5 go73 s71 () h101) ∧
    ((decide ((t83.len : Int) < (t85.len : Int))) = false →
    buffers_Play.j5 go73 s71 () h79))))) ∧
    ((decide (s71.1 < (s11.2.1.len : Int))) = false →
    Loop (buffers_Play.l7 c_buffers_Memory_Waiting c_buffers_Memory_Cells c_buffers_Memory_Log Q s11) (0, (s69, (s67, (Sl.none, (Sl.none, (true, ()))))), ()) h72))
def buffers_Play.k9 (c_ops_Mod : Int → Int → Heap → (Int → Heap → Prop) → Prop) (c_buffers_Memory_Flush : Option Addr → Int → Heap → (Bool → Heap → Prop) → Prop) (c_buffers_Memory_View : Option Addr → Int → Heap → (Option Addr → Heap → Prop) → Prop) (c_buffers_View_act : Option Addr → Den kapiAct → Heap → (Den kapiEffect → Heap → Prop) → Prop) (c_buffers_Memory_Waiting : Option Addr → Int → Heap → (Sl → Heap → Prop) → Prop) (c_buffers_Memory_Cells : Option Addr → Heap → (Sl → Heap → Prop) → Prop) (c_buffers_Memory_Log : Option Addr → Heap → (Sl → Heap → Prop) → Prop) (Q : (Den kapiBufferRun × (Int × Unit)) → Heap → Prop) (s11 : (Sl × (Sl × (Int × (Option Addr × (Den kapiBufferRun × Unit)))))) (h12 : Heap) : Prop :=
    ((makeM (.sl : Kd) 24 h12 s11.2.2.1 s11.2.2.1 fun s13 h14 =>
    makeM (.sl : Kd) 24 h14 s11.2.2.1 s11.2.2.1 fun s15 h16 =>
    Loop (buffers_Play.l4 c_ops_Mod c_buffers_Memory_Flush c_buffers_Memory_View c_buffers_View_act c_buffers_Memory_Waiting c_buffers_Memory_Cells c_buffers_Memory_Log Q s11 s13 s15) (0, ()) h16) ∧
    (makeM (.sl : Kd) 24 h12 s11.2.2.1 s11.2.2.1 fun s67 h68 =>
    makeM (.sl : Kd) 24 h68 s11.2.2.1 s11.2.2.1 fun s69 h70 =>
    Loop (buffers_Play.l8 c_ops_Mod c_buffers_Memory_Flush c_buffers_Memory_View c_buffers_View_act c_buffers_Memory_Waiting c_buffers_Memory_Cells c_buffers_Memory_Log Q s11 s67 s69) (0, ()) h70))
def buffers_Play.M (c_buffers_judged : Int → Int → Int → Sl → Sl → Heap → (Int → Heap → Prop) → Prop) (c_buffers_New : Int → Int → Int → Heap → (Den kbuffersplace → Heap → Prop) → Prop) (c_buffers_Memory_use : Option Addr → Int → Heap → (Unit → Heap → Prop) → Prop) (c_ops_Mod : Int → Int → Heap → (Int → Heap → Prop) → Prop) (c_buffers_Memory_Flush : Option Addr → Int → Heap → (Bool → Heap → Prop) → Prop) (c_buffers_Memory_View : Option Addr → Int → Heap → (Option Addr → Heap → Prop) → Prop) (c_buffers_View_act : Option Addr → Den kapiAct → Heap → (Den kapiEffect → Heap → Prop) → Prop) (c_buffers_Memory_Waiting : Option Addr → Int → Heap → (Sl → Heap → Prop) → Prop) (c_buffers_Memory_Cells : Option Addr → Heap → (Sl → Heap → Prop) → Prop) (c_buffers_Memory_Log : Option Addr → Heap → (Sl → Heap → Prop) → Prop) (size1 : Int) (used2 : Int) (room3 : Int) (lists4 : Sl) (picks5 : Sl) (h6 : Heap) (Q : (Den kapiBufferRun × (Int × Unit)) → Heap → Prop) : Prop :=
    c_buffers_judged size1 used2 room3 lists4 picks5 h6 fun r7 h8 =>
    (((decide (r7 ≠ 0)) = true →
    Q ((Sl.none, (Sl.none, (Sl.none, (Sl.none, (false, ()))))), r7, ()) h8) ∧
    ((decide (r7 ≠ 0)) = false →
    c_buffers_New size1 (lists4.len : Int) room3 h8 fun r9 h10 =>
    (((decide (r9.2.1 ≠ 0)) = true →
    Q ((Sl.none, (Sl.none, (Sl.none, (Sl.none, (false, ()))))), r9.2.1, ()) h10) ∧
    ((decide (r9.2.1 ≠ 0)) = false →
    (((decide ((0 : Int) < used2)) = true →
    c_buffers_Memory_use r9.1 used2 h10 fun r121 h122 =>
    buffers_Play.k9 c_ops_Mod c_buffers_Memory_Flush c_buffers_Memory_View c_buffers_View_act c_buffers_Memory_Waiting c_buffers_Memory_Cells c_buffers_Memory_Log Q (lists4, picks5, (lists4.len : Int), r9.1, (Sl.none, (Sl.none, (Sl.none, (Sl.none, (false, ()))))), ()) h122) ∧
    ((decide ((0 : Int) < used2)) = false →
    buffers_Play.k9 c_ops_Mod c_buffers_Memory_Flush c_buffers_Memory_View c_buffers_View_act c_buffers_Memory_Waiting c_buffers_Memory_Cells c_buffers_Memory_Log Q (lists4, picks5, (lists4.len : Int), r9.1, (Sl.none, (Sl.none, (Sl.none, (Sl.none, (false, ()))))), ()) h10))))))
def buffers_Play.mk : Mk := (.s (.r [0]) (.s (.s .d (.s .d (.c (.s .d .d) .d))) (.s .d (.s .d (.s (.s .d (.c (.s .d .d) .d)) (.k [.slot 3 .sl, .slot 4 .sl, .slot 13 (.int .i64), .slot 14 .ptr, .box 10 kapiBufferRun] [(10, 10, 0)] (.s .d (.c .d .d)) (.s (.q [5] [16] [.p 0, .p 2, .e 1 3, .p 4, .a 5, .o 6]) (.s (.s .d (.b (.l [.slot 57 (.int .i64)] (.s .d (.s (.c .d .d) (.j [] (.b (.s .d (.s .d (.s .d (.c .d (.s .d (.s .d (.c (.q [] [] [.p 0, .p 2, .p 3, .p 5, .p 8, .p 9, .p 11, .p 12, .p 13, .p 15, .w 1 [1, 21, 22], .w 4 [4, 6, 7, 20, 21, 22], .p 6, .w 7 [7, 20, 21, 22], .w 14 [14, 16, 17, 18, 19, 20, 21, 22], .p 16, .w 17 [17, 18, 19, 20, 21, 22], .o 10, .o 18, .o 19, .o 20, .p 21, .o 22]) .d)))))))) .d)))))) (.s (.s .d (.b (.l [.slot 110 (.int .i64), .box 16 kapiBufferRun] (.s .d (.s (.c .d .d) (.j [.box 16 kapiBufferRun] (.b (.s .d (.s (.q [] [] [.p 0, .p 2, .p 3, .p 4, .w 1 [1, 6, 7], .o 5, .p 6, .o 7]) (.q [] [16] [.p 0, .w 1 [1, 2, 3, 4, 5, 6, 7, 8, 9, 10, 11, 12, 13, 14, 15, 16, 17, 18, 19, 20, 21, 22, 23, 24, 25, 26], .p 2, .p 3, .p 5, .w 4 [4, 6, 7, 8, 9, 10, 11, 12, 13, 14, 15, 16, 17, 18, 19, 20, 21, 22, 23, 24, 25, 26], .p 6, .w 7 [7, 8, 9, 10, 11, 12, 13, 14, 15, 16, 17, 18, 19, 20, 21, 22, 23, 24, 25, 26], .p 8, .p 9, .p 10, .p 11, .p 12, .p 14, .p 18, .p 19, .p 20, .w 13 [13, 15, 16, 17, 23, 24, 25, 26], .p 15, .w 16 [16, 17, 23, 24, 25, 26], .p 17, .w 21 [21, 22, 23, 24, 25, 26], .p 22, .p 23, .p 24, .p 25, .o 26])))) .d)))))) (.s .d (.s .d (.s .d .d))))))))))))

def law21_progress.j1 (go9 : (Int × Unit) → Heap → Prop) (s7 : (Int × Unit)) (s10 : Unit) (h11 : Heap) : Prop :=
    go9 ((w64 (s7.1 + 1)), ()) h11
def law21_progress.j2 (s5 : Sl) (go9 : (Int × Unit) → Heap → Prop) (s7 : (Int × Unit)) (r14 : Int) (s16 : (Bool × Unit)) (h17 : Heap) : Prop :=
    ((s16.1 = true →
    (0 ≤ r14 ∧ r14 < (s5.len : Int)) ∧
    deref s5.a fun a18 =>
    ld ((.int .i64) : Kd) h17 (a18.add ((r14 : Int).toNat * 1)) fun t19 =>
    (0 ≤ r14 ∧ r14 < (s5.len : Int)) ∧
    deref s5.a fun a20 =>
    st ((.int .i64) : Kd) h17 (a20.add ((r14 : Int).toNat * 1)) (w64 (t19 + 1)) fun h21 =>
    law21_progress.j1 go9 s7 () h21) ∧
    (s16.1 = false →
    law21_progress.j1 go9 s7 () h17))
def law21_progress.l3 (r1 : Den kapiBufferRun) (l2 : Sl) (Q : Bool → Heap → Prop) (s5 : Sl) (go28 : (Int × Unit) → Heap → Prop) (s26 : (Int × Unit)) (h27 : Heap) : Prop :=
    (((decide (s26.1 < (l2.len : Int))) = true →
    (0 ≤ s26.1 ∧ s26.1 < (s5.len : Int)) ∧
    deref s5.a fun a29 =>
    (0 ≤ s26.1 ∧ s26.1 < (r1.1.len : Int)) ∧
    deref r1.1.a fun a30 =>
    ld (.sl : Kd) h27 (a30.add ((s26.1 : Int).toNat * 1)) fun t31 =>
    ld ((.int .i64) : Kd) h27 (a29.add ((s26.1 : Int).toNat * 1)) fun t32 =>
    (((decide ((t31.len : Int) ≠ t32)) = true →
    Q false h27) ∧
    ((decide ((t31.len : Int) ≠ t32)) = false →
    go28 ((w64 (s26.1 + 1)), ()) h27))) ∧
    ((decide (s26.1 < (l2.len : Int))) = false →
    Q true h27))
def law21_progress.l4 (c_law21_mod : Int → Int → Heap → (Int → Heap → Prop) → Prop) (r1 : Den kapiBufferRun) (l2 : Sl) (picks3 : Sl) (Q : Bool → Heap → Prop) (s5 : Sl) (go9 : (Int × Unit) → Heap → Prop) (s7 : (Int × Unit)) (h8 : Heap) : Prop :=
    (((decide (s7.1 < (picks3.len : Int))) = true →
    (0 ≤ s7.1 ∧ s7.1 < (picks3.len : Int)) ∧
    deref picks3.a fun a12 =>
    ld ((.int .i64) : Kd) h8 (a12.add ((s7.1 : Int).toNat * 1)) fun t13 =>
    c_law21_mod t13 (w64 (2 * (l2.len : Int))) h8 fun r14 h15 =>
    (((decide (r14 < (l2.len : Int))) = true →
    (0 ≤ r14 ∧ r14 < (s5.len : Int)) ∧
    deref s5.a fun a22 =>
    (0 ≤ r14 ∧ r14 < (l2.len : Int)) ∧
    deref l2.a fun a23 =>
    ld ((.int .i64) : Kd) h15 (a22.add ((r14 : Int).toNat * 1)) fun t24 =>
    ld (.sl : Kd) h15 (a23.add ((r14 : Int).toNat * 1)) fun t25 =>
    law21_progress.j2 s5 go9 s7 r14 ((decide (t24 < (t25.len : Int))), ()) h15) ∧
    ((decide (r14 < (l2.len : Int))) = false →
    law21_progress.j2 s5 go9 s7 r14 (false, ()) h15))) ∧
    ((decide (s7.1 < (picks3.len : Int))) = false →
    Loop (law21_progress.l3 r1 l2 Q s5) (0, ()) h8))
def law21_progress.M (c_law21_mod : Int → Int → Heap → (Int → Heap → Prop) → Prop) (r1 : Den kapiBufferRun) (l2 : Sl) (picks3 : Sl) (h4 : Heap) (Q : Bool → Heap → Prop) : Prop :=
    makeM ((.int .i64) : Kd) 8 h4 (l2.len : Int) (l2.len : Int) fun s5 h6 =>
    Loop (law21_progress.l4 c_law21_mod r1 l2 picks3 Q s5) (0, ()) h6
def law21_progress.mk : Mk := (.s (.r [0]) (.s .d (.s .d (.s (.s .d (.b (.l [.slot 9 (.int .i64)] (.s (.s .d (.c .d .d)) (.j [] (.b (.s .d (.j [.slot 43 .bool] (.q [] [] [.p 0, .p 1, .p 2, .p 3, .p 4, .p 5, .p 6, .p 8, .p 9, .p 10, .w 7 [7, 13, 14], .w 11 [11, 12, 13, 14], .p 12, .p 13, .p 14]) (.c .d .d)))) .d))))) (.s (.s .d (.b (.l [.slot 11 (.int .i64)] (.s (.s .d (.c .d .d)) (.s (.b (.s (.q [] [] [.p 0, .p 2, .p 6, .p 7, .p 8, .w 1 [1, 3, 4, 5, 10], .p 3, .w 4 [4, 5, 10], .p 5, .w 9 [9, 10], .p 10]) (.c (.s .d .d) .d))) .d))))) (.s .d .d))))))

def cells_Play.l1 (c_cells_Arena_act : Option Addr → Den kapiAct → Heap → (Den kapiEffect → Heap → Prop) → Prop) (c_cells_Arena_Cells : Option Addr → Heap → (Sl → Heap → Prop) → Prop) (c_cells_Arena_Log : Option Addr → Heap → (Sl → Heap → Prop) → Prop) (acts2 : Sl) (Q : (Den kapiCellRun × (Int × Unit)) → Heap → Prop) (r4 : Den kbuffersplace) (go10 : (Int × (Den kapiCellRun × Unit)) → Heap → Prop) (s8 : (Int × (Den kapiCellRun × Unit))) (h9 : Heap) : Prop :=
    (((decide (s8.1 < (acts2.len : Int))) = true →
    (0 ≤ s8.1 ∧ s8.1 < (acts2.len : Int)) ∧
    deref acts2.a fun a11 =>
    ld kapiAct h9 (a11.add ((s8.1 : Int).toNat * 5)) fun t12 =>
    c_cells_Arena_act r4.1 (t12.1, (t12.2.1, (t12.2.2.1, (t12.2.2.2.1, (t12.2.2.2.2.1, ()))))) h9 fun r13 h14 =>
    new h14 (([r13] : List (Den kapiEffect)).flatMap (Kd.cells kapiEffect)) fun p15 h16 =>
    appendM 3 24 h16 s8.2.1.1 ⟨some p15, 1, 1⟩ fun t17 h18 =>
    go10 ((w64 (s8.1 + 1)), (t17, (s8.2.1.2.1, (s8.2.1.2.2.1, ()))), ()) h18) ∧
    ((decide (s8.1 < (acts2.len : Int))) = false →
    c_cells_Arena_Cells r4.1 h9 fun r19 h20 =>
    c_cells_Arena_Log r4.1 h20 fun r21 h22 =>
    Q ((s8.2.1.1, (r19, (r21, ()))), 0, ()) h22))
def cells_Play.M (c_cells_New : Int → Heap → (Den kbuffersplace → Heap → Prop) → Prop) (c_cells_Arena_Watch : Option Addr → Bool → Heap → (Unit → Heap → Prop) → Prop) (c_cells_Arena_act : Option Addr → Den kapiAct → Heap → (Den kapiEffect → Heap → Prop) → Prop) (c_cells_Arena_Cells : Option Addr → Heap → (Sl → Heap → Prop) → Prop) (c_cells_Arena_Log : Option Addr → Heap → (Sl → Heap → Prop) → Prop) (size1 : Int) (acts2 : Sl) (h3 : Heap) (Q : (Den kapiCellRun × (Int × Unit)) → Heap → Prop) : Prop :=
    c_cells_New size1 h3 fun r4 h5 =>
    (((decide (r4.2.1 ≠ 0)) = true →
    Q ((Sl.none, (Sl.none, (Sl.none, ()))), r4.2.1, ()) h5) ∧
    ((decide (r4.2.1 ≠ 0)) = false →
    (((decide ((4096 : Int) < (acts2.len : Int))) = true →
    Q ((Sl.none, (Sl.none, (Sl.none, ()))), 2, ()) h5) ∧
    ((decide ((4096 : Int) < (acts2.len : Int))) = false →
    c_cells_Arena_Watch r4.1 true h5 fun r6 h7 =>
    Loop (cells_Play.l1 c_cells_Arena_act c_cells_Arena_Cells c_cells_Arena_Log acts2 Q r4) (0, (Sl.none, (Sl.none, (Sl.none, ()))), ()) h7))))
def cells_Play.mk : Mk := (.s (.r [0]) (.s .d (.s (.s .d (.c (.s .d .d) .d)) (.s (.s .d (.c (.s .d .d) .d)) (.s .d (.s (.r [0]) (.s (.s .d (.b (.l [.slot 28 (.int .i64), .box 8 kapiCellRun] (.s .d (.s (.c .d .d) (.s (.b (.s (.r [2]) (.q [] [8] [.p 0, .p 2, .w 1 [1, 6, 7, 8], .w 3 [3, 4, 5, 6, 7, 8], .o 4, .o 5, .o 6, .p 7, .o 8]))) .d)))))) (.s .d (.s .d (.s .d .d))))))))))

def law21_opened.l1 (l2 : Sl) (Q : Sl → Heap → Prop) (go8 : (Sl × (Int × Unit)) → Heap → Prop) (s6 : (Sl × (Int × Unit))) (h7 : Heap) : Prop :=
    (((decide (s6.2.1 < (l2.len : Int))) = true →
    (0 ≤ s6.2.1 ∧ s6.2.1 < (l2.len : Int)) ∧
    deref l2.a fun a9 =>
    ld kapiAct h7 (a9.add ((s6.2.1 : Int).toNat * 5)) fun t10 =>
    new h7 (([t10] : List (Den kapiAct)).flatMap (Kd.cells kapiAct)) fun p11 h12 =>
    appendM 5 40 h12 s6.1 ⟨some p11, 1, 1⟩ fun t13 h14 =>
    go8 (t13, (w64 (s6.2.1 + 1)), ()) h14) ∧
    ((decide (s6.2.1 < (l2.len : Int))) = false →
    Q s6.1 h7))
def law21_opened.j2 (l2 : Sl) (Q : Sl → Heap → Prop) (s4 : (Sl × Unit)) (h5 : Heap) : Prop :=
    Loop (law21_opened.l1 l2 Q) (s4.1, 0, ()) h5
def law21_opened.M  (n1 : Int) (l2 : Sl) (h3 : Heap) (Q : Sl → Heap → Prop) : Prop :=
    (((decide ((0 : Int) < n1)) = true →
    new h3 (([(0, (4, (0, (n1, (0, ())))))] : List (Den kapiAct)).flatMap (Kd.cells kapiAct)) fun p15 h16 =>
    appendM 5 40 h16 ⟨none, 0, 0⟩ ⟨some p15, 1, 1⟩ fun t17 h18 =>
    law21_opened.j2 l2 Q (t17, ()) h18) ∧
    ((decide ((0 : Int) < n1)) = false →
    law21_opened.j2 l2 Q (⟨none, 0, 0⟩, ()) h3))
def law21_opened.mk : Mk := (.s .d (.s .d (.j [.slot 5 .sl] (.s .d (.c .d .d)) (.s (.s .d (.b (.l [.slot 5 .sl, .slot 6 (.int .i64)] (.s (.s .d (.c .d .d)) (.s (.b .d) .d))))) (.s .d .d)))))

def law21_guarded.j1 (Q : Sl → Heap → Prop) (s3 : (Sl × Unit)) (h4 : Heap) : Prop :=
    Q s3.1 h4
def law21_guarded.j2 (go7 : (Sl × (Int × Unit)) → Heap → Prop) (s5 : (Sl × (Int × Unit))) (s10 : (Sl × Unit)) (h11 : Heap) : Prop :=
    go7 (s10.1, (w64 (s5.2.1 + 1)), ()) h11
def law21_guarded.j3 (l1 : Sl) (go7 : (Sl × (Int × Unit)) → Heap → Prop) (s5 : (Sl × (Int × Unit))) (s8 : Unit) (h9 : Heap) : Prop :=
    (0 ≤ s5.2.1 ∧ s5.2.1 < (l1.len : Int)) ∧
    deref l1.a fun a12 =>
    ld kapiAct h9 (a12.add ((s5.2.1 : Int).toNat * 5)) fun t13 =>
    new h9 (([t13] : List (Den kapiAct)).flatMap (Kd.cells kapiAct)) fun p14 h15 =>
    appendM 5 40 h15 s5.1 ⟨some p14, 1, 1⟩ fun t16 h17 =>
    (0 ≤ s5.2.1 ∧ s5.2.1 < (l1.len : Int)) ∧
    deref l1.a fun a18 =>
    ld ((.int .i64) : Kd) h17 ((a18.add ((s5.2.1 : Int).toNat * 5)).add 1) fun t19 =>
    (((decide (t19 = 1)) = true →
    new h17 (([(0, (5, (0, (0, (0, ())))))] : List (Den kapiAct)).flatMap (Kd.cells kapiAct)) fun p20 h21 =>
    appendM 5 40 h21 t16 ⟨some p20, 1, 1⟩ fun t22 h23 =>
    law21_guarded.j2 go7 s5 (t22, ()) h23) ∧
    ((decide (t19 = 1)) = false →
    law21_guarded.j2 go7 s5 (t16, ()) h17))
def law21_guarded.j4 (l1 : Sl) (Q : Sl → Heap → Prop) (go7 : (Sl × (Int × Unit)) → Heap → Prop) (s5 : (Sl × (Int × Unit))) (s24 : (Bool × Unit)) (h25 : Heap) : Prop :=
    ((s24.1 = true →
    law21_guarded.j3 l1 go7 s5 () h25) ∧
    (s24.1 = false →
    law21_guarded.j1 Q (s5.1, ()) h25))
def law21_guarded.l5 (l1 : Sl) (Q : Sl → Heap → Prop) (go7 : (Sl × (Int × Unit)) → Heap → Prop) (s5 : (Sl × (Int × Unit))) (h6 : Heap) : Prop :=
    (((decide (s5.2.1 < (l1.len : Int))) = true →
    law21_guarded.j4 l1 Q go7 s5 ((decide ((w64 ((s5.1.len : Int) + 2)) ≤ 4096)), ()) h6) ∧
    ((decide (s5.2.1 < (l1.len : Int))) = false →
    law21_guarded.j4 l1 Q go7 s5 (false, ()) h6))
def law21_guarded.M  (l1 : Sl) (h2 : Heap) (Q : Sl → Heap → Prop) : Prop :=
    Loop (law21_guarded.l5 l1 Q) (⟨none, 0, 0⟩, 0, ()) h2
def law21_guarded.mk : Mk := (.s .d (.s .d (.j [.slot 3 .sl] (.s .d (.b (.l [.slot 3 .sl, .slot 4 (.int .i64)] (.j [] (.j [.slot 14 .bool] .d (.c .d .d)) (.j [.slot 3 .sl] (.b (.s .d (.s .d (.c .d .d)))) .d))))) (.s .d .d))))

def buffers_judged.l1 (lists4 : Sl) (Q : Int → Heap → Prop) (go11 : (Int × Unit) → Heap → Prop) (s9 : (Int × Unit)) (h10 : Heap) : Prop :=
    (((decide (s9.1 < (lists4.len : Int))) = true →
    (0 ≤ s9.1 ∧ s9.1 < (lists4.len : Int)) ∧
    deref lists4.a fun a12 =>
    ld (.sl : Kd) h10 (a12.add ((s9.1 : Int).toNat * 1)) fun t13 =>
    (((decide ((4096 : Int) < (t13.len : Int))) = true →
    Q 2 h10) ∧
    ((decide ((4096 : Int) < (t13.len : Int))) = false →
    go11 ((w64 (s9.1 + 1)), ()) h10))) ∧
    ((decide (s9.1 < (lists4.len : Int))) = false →
    Q 0 h10))
def buffers_judged.j2 (lists4 : Sl) (Q : Int → Heap → Prop) (s7 : Unit) (h8 : Heap) : Prop :=
    Loop (buffers_judged.l1 lists4 Q) (0, ()) h8
def buffers_judged.j3 (lists4 : Sl) (picks5 : Sl) (Q : Int → Heap → Prop) (s16 : (Bool × Unit)) (h17 : Heap) : Prop :=
    ((s16.1 = true →
    Q 210 h17) ∧
    (s16.1 = false →
    (((decide ((1048576 : Int) < (picks5.len : Int))) = true →
    Q 2 h17) ∧
    ((decide ((1048576 : Int) < (picks5.len : Int))) = false →
    buffers_judged.j2 lists4 Q () h17))))
def buffers_judged.j4 (room3 : Int) (lists4 : Sl) (picks5 : Sl) (Q : Int → Heap → Prop) (s14 : (Bool × Unit)) (h15 : Heap) : Prop :=
    ((s14.1 = true →
    Q 3 h15) ∧
    (s14.1 = false →
    (((decide ((lists4.len : Int) < 1)) = true →
    buffers_judged.j3 lists4 picks5 Q (true, ()) h15) ∧
    ((decide ((lists4.len : Int) < 1)) = false →
    (((decide ((8 : Int) < (lists4.len : Int))) = true →
    buffers_judged.j3 lists4 picks5 Q (true, ()) h15) ∧
    ((decide ((8 : Int) < (lists4.len : Int))) = false →
    (((decide (room3 < 1)) = true →
    buffers_judged.j3 lists4 picks5 Q (true, ()) h15) ∧
    ((decide (room3 < 1)) = false →
    buffers_judged.j3 lists4 picks5 Q ((decide ((64 : Int) < room3)), ()) h15))))))))
def buffers_judged.M  (size1 : Int) (used2 : Int) (room3 : Int) (lists4 : Sl) (picks5 : Sl) (h6 : Heap) (Q : Int → Heap → Prop) : Prop :=
    (((decide (size1 < 0)) = true →
    buffers_judged.j4 room3 lists4 picks5 Q (true, ()) h6) ∧
    ((decide (size1 < 0)) = false →
    (((decide ((1048576 : Int) < size1)) = true →
    buffers_judged.j4 room3 lists4 picks5 Q (true, ()) h6) ∧
    ((decide ((1048576 : Int) < size1)) = false →
    (((decide (used2 < 0)) = true →
    buffers_judged.j4 room3 lists4 picks5 Q (true, ()) h6) ∧
    ((decide (used2 < 0)) = false →
    buffers_judged.j4 room3 lists4 picks5 Q ((decide (size1 < used2)), ()) h6))))))
def buffers_judged.mk : Mk := (.s .d (.j [] (.b (.j [.slot 13 .bool] .d (.c (.s .d .d) (.j [.slot 29 .bool] .d (.c (.s .d .d) (.s .d (.c (.s .d .d) .d))))))) (.s (.s .d (.b (.l [.slot 52 (.int .i64)] (.s .d (.s (.c .d .d) (.s (.b (.s .d (.s .d (.c (.s .d .d) .d)))) .d)))))) (.s .d .d))))

def buffers_New.l1 (actors2 : Int) (Q : Den kbuffersplace → Heap → Prop) (p11 : Addr) (go15 : (Int × Unit) → Heap → Prop) (s13 : (Int × Unit)) (h14 : Heap) : Prop :=
    (((decide (s13.1 < actors2)) = true →
    (0 ≤ s13.1 ∧ s13.1 < (8 : Int)) ∧
    st kbuffersView h14 ((p11.add 11).add ((s13.1 : Int).toNat * 2)) (((some p11), (s13.1, ())), ()) fun h16 =>
    go15 ((w64 (s13.1 + 1)), ()) h16) ∧
    ((decide (s13.1 < actors2)) = false →
    Q ((some p11), 0, ()) h14))
def buffers_New.j2 (c_cells_Arena_Watch : Option Addr → Bool → Heap → (Unit → Heap → Prop) → Prop) (actors2 : Int) (room3 : Int) (Q : Den kbuffersplace → Heap → Prop) (r5 : Den kbuffersplace) (s7 : Unit) (h8 : Heap) : Prop :=
    c_cells_Arena_Watch r5.1 true h8 fun r9 h10 =>
    new h10 (kbuffersMemory.cells (r5.1, (actors2, (room3, ((fun _ => Sl.none), ((fun _ => ((none, (0, ())), ())), ())))))) fun p11 h12 =>
    Loop (buffers_New.l1 actors2 Q p11) (0, ()) h12
def buffers_New.j3 (c_cells_Arena_Watch : Option Addr → Bool → Heap → (Unit → Heap → Prop) → Prop) (actors2 : Int) (room3 : Int) (Q : Den kbuffersplace → Heap → Prop) (r5 : Den kbuffersplace) (s17 : (Bool × Unit)) (h18 : Heap) : Prop :=
    ((s17.1 = true →
    Q (none, 210, ()) h18) ∧
    (s17.1 = false →
    buffers_New.j2 c_cells_Arena_Watch actors2 room3 Q r5 () h18))
def buffers_New.M (c_cells_New : Int → Heap → (Den kbuffersplace → Heap → Prop) → Prop) (c_cells_Arena_Watch : Option Addr → Bool → Heap → (Unit → Heap → Prop) → Prop) (size1 : Int) (actors2 : Int) (room3 : Int) (h4 : Heap) (Q : Den kbuffersplace → Heap → Prop) : Prop :=
    c_cells_New size1 h4 fun r5 h6 =>
    (((decide (r5.2.1 ≠ 0)) = true →
    Q (none, r5.2.1, ()) h6) ∧
    ((decide (r5.2.1 ≠ 0)) = false →
    (((decide (actors2 < 1)) = true →
    buffers_New.j3 c_cells_Arena_Watch actors2 room3 Q r5 (true, ()) h6) ∧
    ((decide (actors2 < 1)) = false →
    (((decide ((8 : Int) < actors2)) = true →
    buffers_New.j3 c_cells_Arena_Watch actors2 room3 Q r5 (true, ()) h6) ∧
    ((decide ((8 : Int) < actors2)) = false →
    (((decide (room3 < 1)) = true →
    buffers_New.j3 c_cells_Arena_Watch actors2 room3 Q r5 (true, ()) h6) ∧
    ((decide (room3 < 1)) = false →
    buffers_New.j3 c_cells_Arena_Watch actors2 room3 Q r5 ((decide ((64 : Int) < room3)), ()) h6))))))))
def buffers_New.mk : Mk := (.s .d (.s .d (.s (.s .d (.c (.s .d .d) .d)) (.j [] (.j [.slot 33 .bool] .d (.c (.s .d .d) .d)) (.s .d (.s .d (.s (.s .d (.b (.l [.slot 42 (.int .i64)] (.s .d (.s (.c .d .d) (.s (.b (.s .d .d)) .d)))))) (.s .d .d))))))))

def buffers_Memory_use.M (c_cells_Arena_Watch : Option Addr → Bool → Heap → (Unit → Heap → Prop) → Prop) (c_cells_Arena_Reserve : Option Addr → Int → Heap → (Den kapiTodo → Heap → Prop) → Prop) (m1 : Option Addr) (n2 : Int) (h3 : Heap) (Q : Unit → Heap → Prop) : Prop :=
    deref m1 fun a4 =>
    ld (.ptr : Kd) h3 (a4.add 0) fun t5 =>
    c_cells_Arena_Watch t5 false h3 fun r6 h7 =>
    deref m1 fun a8 =>
    ld (.ptr : Kd) h7 (a8.add 0) fun t9 =>
    c_cells_Arena_Reserve t9 n2 h7 fun r10 h11 =>
    deref m1 fun a12 =>
    ld (.ptr : Kd) h11 (a12.add 0) fun t13 =>
    c_cells_Arena_Watch t13 true h11 fun r14 h15 =>
    Q () h15
def buffers_Memory_use.mk : Mk := (.s .d (.s .d .d))

def ops_Mod.j1 (Q : Int → Heap → Prop) (s4 : (Int × Unit)) (h5 : Heap) : Prop :=
    Q s4.1 h5
def ops_Mod.M  (x1 : Int) (n2 : Int) (h3 : Heap) (Q : Int → Heap → Prop) : Prop :=
    (((decide (n2 < 1)) = true →
    Q 0 h3) ∧
    ((decide (n2 < 1)) = false →
    n2 ≠ 0 ∧
    (((decide ((Int.tmod x1 n2) < 0)) = true →
    ops_Mod.j1 Q ((w64 ((Int.tmod x1 n2) + n2)), ()) h3) ∧
    ((decide ((Int.tmod x1 n2) < 0)) = false →
    ops_Mod.j1 Q ((Int.tmod x1 n2), ()) h3))))
def ops_Mod.mk : Mk := (.s .d (.s (.s .d (.c (.s .d .d) .d)) (.s .d (.j [.slot 5 (.int .i64)] (.s .d (.c .d .d)) (.s .d .d)))))

def buffers_Memory_Flush.j1 (c_cells_Arena_Who : Option Addr → Int → Heap → (Unit → Heap → Prop) → Prop) (c_cells_Arena_Store : Option Addr → Int → Int → Heap → (Int → Heap → Prop) → Prop) (m1 : Option Addr) (actor2 : Int) (Q : Bool → Heap → Prop) (s4 : Unit) (h5 : Heap) : Prop :=
    deref m1 fun a6 =>
    (0 ≤ actor2 ∧ actor2 < (8 : Int)) ∧
    ld (.sl : Kd) h5 ((a6.add 3).add ((actor2 : Int).toNat * 1)) fun t7 =>
    (0 ≤ (0 : Int) ∧ (0 : Int) < (t7.len : Int)) ∧
    deref t7.a fun a8 =>
    ld kapiTodo h5 (a8.add (((0 : Int) : Int).toNat * 2)) fun t9 =>
    deref m1 fun a10 =>
    (0 ≤ actor2 ∧ actor2 < (8 : Int)) ∧
    deref m1 fun a11 =>
    ld (.sl : Kd) h5 ((a10.add 3).add ((actor2 : Int).toNat * 1)) fun t12 =>
    (0 ≤ (1 : Int) ∧ (1 : Int) ≤ (t12.len : Int)) ∧
    (0 ≤ actor2 ∧ actor2 < (8 : Int)) ∧
    st (.sl : Kd) h5 ((a11.add 3).add ((actor2 : Int).toNat * 1)) (t12.cut (((1 : Int) : Int).toNat) t12.len 2) fun h13 =>
    deref m1 fun a14 =>
    ld (.ptr : Kd) h13 (a14.add 0) fun t15 =>
    c_cells_Arena_Who t15 actor2 h13 fun r16 h17 =>
    deref m1 fun a18 =>
    ld (.ptr : Kd) h17 (a18.add 0) fun t19 =>
    c_cells_Arena_Store t19 t9.1 t9.2.1 h17 fun r20 h21 =>
    Q true h21
def buffers_Memory_Flush.j2 (c_cells_Arena_Who : Option Addr → Int → Heap → (Unit → Heap → Prop) → Prop) (c_cells_Arena_Store : Option Addr → Int → Int → Heap → (Int → Heap → Prop) → Prop) (m1 : Option Addr) (actor2 : Int) (Q : Bool → Heap → Prop) (s22 : (Bool × Unit)) (h23 : Heap) : Prop :=
    ((s22.1 = true →
    Q false h23) ∧
    (s22.1 = false →
    buffers_Memory_Flush.j1 c_cells_Arena_Who c_cells_Arena_Store m1 actor2 Q () h23))
def buffers_Memory_Flush.M (c_buffers_Memory_has : Option Addr → Int → Heap → (Bool → Heap → Prop) → Prop) (c_cells_Arena_Who : Option Addr → Int → Heap → (Unit → Heap → Prop) → Prop) (c_cells_Arena_Store : Option Addr → Int → Int → Heap → (Int → Heap → Prop) → Prop) (m1 : Option Addr) (actor2 : Int) (h3 : Heap) (Q : Bool → Heap → Prop) : Prop :=
    c_buffers_Memory_has m1 actor2 h3 fun r24 h25 =>
    (((!r24) = true →
    buffers_Memory_Flush.j2 c_cells_Arena_Who c_cells_Arena_Store m1 actor2 Q (true, ()) h25) ∧
    ((!r24) = false →
    deref m1 fun a26 =>
    (0 ≤ actor2 ∧ actor2 < (8 : Int)) ∧
    ld (.sl : Kd) h25 ((a26.add 3).add ((actor2 : Int).toNat * 1)) fun t27 =>
    buffers_Memory_Flush.j2 c_cells_Arena_Who c_cells_Arena_Store m1 actor2 Q ((decide ((t27.len : Int) = 0)), ()) h25))
def buffers_Memory_Flush.mk : Mk := (.s .d (.j [] (.j [.slot 19 .bool] .d (.c (.s .d .d) .d)) (.s (.r [8]) (.s (.q [] [] [.p 0, .p 1, .p 2, .p 3, .p 4, .p 5, .p 6, .p 9, .p 10, .w 7 [7, 8, 11, 12], .p 8, .p 11, .o 12]) (.s .d (.s (.q [] [] [.p 0, .p 1, .p 2, .p 4, .p 6, .w 3 [3, 8], .w 5 [5, 8], .w 7 [7, 8], .o 8]) (.s .d .d)))))))

def buffers_Memory_View.M (c_buffers_Memory_has : Option Addr → Int → Heap → (Bool → Heap → Prop) → Prop) (m1 : Option Addr) (actor2 : Int) (h3 : Heap) (Q : Option Addr → Heap → Prop) : Prop :=
    c_buffers_Memory_has m1 actor2 h3 fun r4 h5 =>
    (((!r4) = true →
    Q none h5) ∧
    ((!r4) = false →
    deref m1 fun a6 =>
    (0 ≤ actor2 ∧ actor2 < (8 : Int)) ∧
    Q (some ((a6.add 11).add ((actor2 : Int).toNat * 2))) h5))
def buffers_Memory_View.mk : Mk := (.s .d (.s (.s .d (.c (.s .d .d) .d)) (.s .d .d)))

def buffers_View_act.j1 (Q : Den kapiEffect → Heap → Prop) (s4 : (Den kapiEffect × (Den kapiEffect × Unit))) (h5 : Heap) : Prop :=
    Q (s4.2.1.1, ((decide (s4.2.1.2.2.1 = 0)), (s4.2.1.2.2.1, ()))) h5
def buffers_View_act.M (c_buffers_View_Load : Option Addr → Int → Heap → (Den kapiTodo → Heap → Prop) → Prop) (c_buffers_View_Store : Option Addr → Int → Int → Heap → (Int → Heap → Prop) → Prop) (c_buffers_View_CAS : Option Addr → Int → Int → Int → Heap → ((Bool × (Int × Unit)) → Heap → Prop) → Prop) (c_buffers_View_Add : Option Addr → Int → Int → Heap → (Den kapiTodo → Heap → Prop) → Prop) (c_buffers_View_Reserve : Option Addr → Int → Heap → (Den kapiTodo → Heap → Prop) → Prop) (c_buffers_View_Fence : Option Addr → Heap → (Unit → Heap → Prop) → Prop) (v1 : Option Addr) (t2 : Den kapiAct) (h3 : Heap) (Q : Den kapiEffect → Heap → Prop) : Prop :=
    (((decide (t2.2.1 = 0)) = true →
    c_buffers_View_Load v1 t2.2.2.1 h3 fun r6 h7 =>
    buffers_View_act.j1 Q ((0, (false, (0, ()))), (r6.1, (false, (r6.2.1, ()))), ()) h7) ∧
    ((decide (t2.2.1 = 0)) = false →
    (((decide (t2.2.1 = 1)) = true →
    c_buffers_View_Store v1 t2.2.2.1 t2.2.2.2.1 h3 fun r8 h9 =>
    buffers_View_act.j1 Q ((0, (false, (0, ()))), (0, (false, (r8, ()))), ()) h9) ∧
    ((decide (t2.2.1 = 1)) = false →
    (((decide (t2.2.1 = 2)) = true →
    c_buffers_View_CAS v1 t2.2.2.1 t2.2.2.2.1 t2.2.2.2.2.1 h3 fun r10 h11 =>
    Q (0, (r10.1, (r10.2.1, ()))) h11) ∧
    ((decide (t2.2.1 = 2)) = false →
    (((decide (t2.2.1 = 3)) = true →
    c_buffers_View_Add v1 t2.2.2.1 t2.2.2.2.1 h3 fun r12 h13 =>
    buffers_View_act.j1 Q ((0, (false, (0, ()))), (r12.1, (false, (r12.2.1, ()))), ()) h13) ∧
    ((decide (t2.2.1 = 3)) = false →
    (((decide (t2.2.1 = 4)) = true →
    c_buffers_View_Reserve v1 t2.2.2.2.1 h3 fun r14 h15 =>
    buffers_View_act.j1 Q ((0, (false, (0, ()))), (r14.1, (false, (r14.2.1, ()))), ()) h15) ∧
    ((decide (t2.2.1 = 4)) = false →
    (((decide (t2.2.1 = 5)) = true →
    c_buffers_View_Fence v1 h3 fun r16 h17 =>
    buffers_View_act.j1 Q ((0, (false, (0, ()))), (0, (false, (0, ()))), ()) h17) ∧
    ((decide (t2.2.1 = 5)) = false →
    buffers_View_act.j1 Q ((0, (false, (0, ()))), (0, (false, (23, ()))), ()) h3))))))))))))
def buffers_View_act.mk : Mk := (.s (.r [0, 1]) (.s (.r [0]) (.j [.box 4 kapiEffect, .box 5 kapiEffect] (.s .d (.b (.s .d (.c .d (.s .d (.c .d (.s .d (.c (.s .d (.s .d .d)) (.s .d (.c .d (.s .d (.c (.s .d (.s .d .d)) (.s .d (.c .d .d)))))))))))))) (.s .d (.s .d .d)))))

def buffers_Memory_Waiting.M (c_buffers_Memory_has : Option Addr → Int → Heap → (Bool → Heap → Prop) → Prop) (m1 : Option Addr) (actor2 : Int) (h3 : Heap) (Q : Sl → Heap → Prop) : Prop :=
    c_buffers_Memory_has m1 actor2 h3 fun r4 h5 =>
    (((!r4) = true →
    Q ⟨none, 0, 0⟩ h5) ∧
    ((!r4) = false →
    deref m1 fun a6 =>
    (0 ≤ actor2 ∧ actor2 < (8 : Int)) ∧
    ld (.sl : Kd) h5 ((a6.add 3).add ((actor2 : Int).toNat * 1)) fun t7 =>
    appendM 2 16 h5 ⟨none, 0, 0⟩ t7 fun t8 h9 =>
    Q t8 h9))
def buffers_Memory_Waiting.mk : Mk := (.s .d (.s (.s .d (.c (.s .d .d) .d)) (.s .d .d)))

def buffers_Memory_Cells.M (c_cells_Arena_Cells : Option Addr → Heap → (Sl → Heap → Prop) → Prop) (m1 : Option Addr) (h2 : Heap) (Q : Sl → Heap → Prop) : Prop :=
    (((Option.isNone m1) = true →
    Q ⟨none, 0, 0⟩ h2) ∧
    ((Option.isNone m1) = false →
    deref m1 fun a3 =>
    ld (.ptr : Kd) h2 (a3.add 0) fun t4 =>
    c_cells_Arena_Cells t4 h2 fun r5 h6 =>
    Q r5 h6))
def buffers_Memory_Cells.mk : Mk := (.s .d (.s (.s .d (.c (.s .d .d) .d)) (.s .d .d)))

def buffers_Memory_Log.M (c_cells_Arena_Log : Option Addr → Heap → (Sl → Heap → Prop) → Prop) (m1 : Option Addr) (h2 : Heap) (Q : Sl → Heap → Prop) : Prop :=
    (((Option.isNone m1) = true →
    Q ⟨none, 0, 0⟩ h2) ∧
    ((Option.isNone m1) = false →
    deref m1 fun a3 =>
    ld (.ptr : Kd) h2 (a3.add 0) fun t4 =>
    c_cells_Arena_Log t4 h2 fun r5 h6 =>
    Q r5 h6))
def buffers_Memory_Log.mk : Mk := (.s .d (.s (.s .d (.c (.s .d .d) .d)) (.s .d .d)))

def cells_New.M (c_cells_good : Int → Heap → (Bool → Heap → Prop) → Prop) (size1 : Int) (h2 : Heap) (Q : Den kbuffersplace → Heap → Prop) : Prop :=
    c_cells_good size1 h2 fun r3 h4 =>
    (((!r3) = true →
    Q (none, 3, ()) h4) ∧
    ((!r3) = false →
    new h4 (kcellsArena.cells ((size1, (0, ())), (Sl.none, (Sl.none, (0, (false, ())))))) fun p5 h6 =>
    Q ((some p5), 0, ()) h6))
def cells_New.mk : Mk := (.s .d (.s (.s .d (.c (.s .d .d) .d)) (.s .d .d)))

def cells_Arena_Watch.M  (a1 : Option Addr) (on2 : Bool) (h3 : Heap) (Q : Unit → Heap → Prop) : Prop :=
    (((Option.isSome a1) = true →
    deref a1 fun a4 =>
    st (.bool : Kd) h3 (a4.add 5) on2 fun h5 =>
    Q () h5) ∧
    ((Option.isSome a1) = false →
    Q () h3))
def cells_Arena_Watch.mk : Mk := (.s .d (.c .d .d))

def cells_Arena_act.j1 (Q : Den kapiEffect → Heap → Prop) (s6 : (Den kapiEffect × (Den kapiEffect × Unit))) (h7 : Heap) : Prop :=
    Q (s6.2.1.1, ((decide (s6.2.1.2.2.1 = 0)), (s6.2.1.2.2.1, ()))) h7
def cells_Arena_act.M (c_cells_Arena_Who : Option Addr → Int → Heap → (Unit → Heap → Prop) → Prop) (c_cells_Arena_Load : Option Addr → Int → Heap → (Den kapiTodo → Heap → Prop) → Prop) (c_cells_Arena_Store : Option Addr → Int → Int → Heap → (Int → Heap → Prop) → Prop) (c_cells_Arena_CAS : Option Addr → Int → Int → Int → Heap → ((Bool × (Int × Unit)) → Heap → Prop) → Prop) (c_cells_Arena_Add : Option Addr → Int → Int → Heap → (Den kapiTodo → Heap → Prop) → Prop) (c_cells_Arena_Reserve : Option Addr → Int → Heap → (Den kapiTodo → Heap → Prop) → Prop) (a1 : Option Addr) (t2 : Den kapiAct) (h3 : Heap) (Q : Den kapiEffect → Heap → Prop) : Prop :=
    c_cells_Arena_Who a1 t2.1 h3 fun r4 h5 =>
    (((decide (t2.2.1 = 0)) = true →
    c_cells_Arena_Load a1 t2.2.2.1 h5 fun r8 h9 =>
    cells_Arena_act.j1 Q ((0, (false, (0, ()))), (r8.1, (false, (r8.2.1, ()))), ()) h9) ∧
    ((decide (t2.2.1 = 0)) = false →
    (((decide (t2.2.1 = 1)) = true →
    c_cells_Arena_Store a1 t2.2.2.1 t2.2.2.2.1 h5 fun r10 h11 =>
    cells_Arena_act.j1 Q ((0, (false, (0, ()))), (0, (false, (r10, ()))), ()) h11) ∧
    ((decide (t2.2.1 = 1)) = false →
    (((decide (t2.2.1 = 2)) = true →
    c_cells_Arena_CAS a1 t2.2.2.1 t2.2.2.2.1 t2.2.2.2.2.1 h5 fun r12 h13 =>
    Q (0, (r12.1, (r12.2.1, ()))) h13) ∧
    ((decide (t2.2.1 = 2)) = false →
    (((decide (t2.2.1 = 3)) = true →
    c_cells_Arena_Add a1 t2.2.2.1 t2.2.2.2.1 h5 fun r14 h15 =>
    cells_Arena_act.j1 Q ((0, (false, (0, ()))), (r14.1, (false, (r14.2.1, ()))), ()) h15) ∧
    ((decide (t2.2.1 = 3)) = false →
    (((decide (t2.2.1 = 4)) = true →
    c_cells_Arena_Reserve a1 t2.2.2.2.1 h5 fun r16 h17 =>
    cells_Arena_act.j1 Q ((0, (false, (0, ()))), (r16.1, (false, (r16.2.1, ()))), ()) h17) ∧
    ((decide (t2.2.1 = 4)) = false →
    cells_Arena_act.j1 Q ((0, (false, (0, ()))), (0, (false, (23, ()))), ()) h5))))))))))
def cells_Arena_act.mk : Mk := (.s (.r [0, 1]) (.s .d (.s (.r [0]) (.j [.box 4 kapiEffect, .box 5 kapiEffect] (.s .d (.b (.s .d (.c .d (.s .d (.c .d (.s .d (.c (.s .d (.s .d .d)) (.s .d (.c .d (.s .d (.c (.s .d (.s .d .d)) .d)))))))))))) (.s .d (.s .d .d))))))

def cells_Arena_Cells.M  (a1 : Option Addr) (h2 : Heap) (Q : Sl → Heap → Prop) : Prop :=
    (((Option.isNone a1) = true →
    Q ⟨none, 0, 0⟩ h2) ∧
    ((Option.isNone a1) = false →
    deref a1 fun a3 =>
    ld (.sl : Kd) h2 (a3.add 2) fun t4 =>
    makeM ((.int .i64) : Kd) 8 h2 (t4.len : Int) (t4.len : Int) fun s5 h6 =>
    deref a1 fun a7 =>
    ld (.sl : Kd) h6 (a7.add 2) fun t8 =>
    copyM 1 h6 s5 t8 fun n9 h10 =>
    Q s5 h10))
def cells_Arena_Cells.mk : Mk := (.s .d (.s (.s .d (.c (.s .d .d) .d)) (.s .d (.s .d (.s .d .d)))))

def cells_Arena_Log.M  (a1 : Option Addr) (h2 : Heap) (Q : Sl → Heap → Prop) : Prop :=
    (((Option.isNone a1) = true →
    Q ⟨none, 0, 0⟩ h2) ∧
    ((Option.isNone a1) = false →
    deref a1 fun a3 =>
    ld (.sl : Kd) h2 (a3.add 3) fun t4 =>
    makeM kapiAccess 48 h2 (t4.len : Int) (t4.len : Int) fun s5 h6 =>
    deref a1 fun a7 =>
    ld (.sl : Kd) h6 (a7.add 3) fun t8 =>
    copyM 6 h6 s5 t8 fun n9 h10 =>
    Q s5 h10))
def cells_Arena_Log.mk : Mk := (.s .d (.s (.s .d (.c (.s .d .d) .d)) (.s .d (.s .d (.s .d .d)))))

def buffers_Memory_drain.l1 (c_buffers_Memory_Flush : Option Addr → Int → Heap → (Bool → Heap → Prop) → Prop) (m1 : Option Addr) (actor2 : Int) (Q : Unit → Heap → Prop) (go6 : Unit → Heap → Prop) (s4 : Unit) (h5 : Heap) : Prop :=
    c_buffers_Memory_Flush m1 actor2 h5 fun r7 h8 =>
    ((r7 = true →
    go6 () h8) ∧
    (r7 = false →
    Q () h8))
def buffers_Memory_drain.M (c_buffers_Memory_Flush : Option Addr → Int → Heap → (Bool → Heap → Prop) → Prop) (m1 : Option Addr) (actor2 : Int) (h3 : Heap) (Q : Unit → Heap → Prop) : Prop :=
    Loop (buffers_Memory_drain.l1 c_buffers_Memory_Flush m1 actor2 Q) () h3
def buffers_Memory_drain.mk : Mk := (.b (.l [] (.s (.s .d (.c .d .d)) (.b .d))))

def cells_Arena_Reserve.j1 (c_cells_ledger_refuse : Option Addr → Int → Heap → (Int → Heap → Prop) → Prop) (c_cells_ledger_take : Option Addr → Int → Heap → (Int → Heap → Prop) → Prop) (c_cells_Arena_note : Option Addr → Int → Int → Int → Int → Bool → Heap → (Unit → Heap → Prop) → Prop) (a1 : Option Addr) (n2 : Int) (Q : Den kapiTodo → Heap → Prop) (s4 : Den kbuffersfencedView) (h5 : Heap) : Prop :=
    c_cells_ledger_refuse s4.1 n2 h5 fun r6 h7 =>
    (((decide (r6 ≠ 0)) = true →
    Q (0, r6, ()) h7) ∧
    ((decide (r6 ≠ 0)) = false →
    c_cells_ledger_take s4.1 n2 h7 fun r8 h9 =>
    deref a1 fun a10 =>
    ld (.sl : Kd) h9 (a10.add 2) fun t11 =>
    appendZM ((.int .i64) : Kd) 8 h9 t11 n2 fun t12 h13 =>
    deref a1 fun a14 =>
    st (.sl : Kd) h13 (a14.add 2) t12 fun h15 =>
    c_cells_Arena_note a1 4 r8 n2 0 true h15 fun r16 h17 =>
    Q (r8, 0, ()) h17))
def cells_Arena_Reserve.M (c_cells_ledger_refuse : Option Addr → Int → Heap → (Int → Heap → Prop) → Prop) (c_cells_ledger_take : Option Addr → Int → Heap → (Int → Heap → Prop) → Prop) (c_cells_Arena_note : Option Addr → Int → Int → Int → Int → Bool → Heap → (Unit → Heap → Prop) → Prop) (a1 : Option Addr) (n2 : Int) (h3 : Heap) (Q : Den kapiTodo → Heap → Prop) : Prop :=
    (((Option.isSome a1) = true →
    deref a1 fun a18 =>
    cells_Arena_Reserve.j1 c_cells_ledger_refuse c_cells_ledger_take c_cells_Arena_note a1 n2 Q ((some (a18.add 0)), ()) h3) ∧
    ((Option.isSome a1) = false →
    cells_Arena_Reserve.j1 c_cells_ledger_refuse c_cells_ledger_take c_cells_Arena_note a1 n2 Q (none, ()) h3))
def cells_Arena_Reserve.mk : Mk := (.s .d (.s .d (.j [.slot 6 .ptr] (.s .d (.c .d .d)) (.s (.s .d (.s .d (.c (.s .d .d) .d))) (.s .d (.s .d (.s .d (.s .d .d))))))))

def buffers_Memory_has.M  (m1 : Option Addr) (actor2 : Int) (h3 : Heap) (Q : Bool → Heap → Prop) : Prop :=
    (((Option.isSome m1) = true →
    (((decide ((0 : Int) ≤ actor2)) = true →
    deref m1 fun a4 =>
    ld ((.int .i64) : Kd) h3 (a4.add 1) fun t5 =>
    Q (decide (actor2 < t5)) h3) ∧
    ((decide ((0 : Int) ≤ actor2)) = false →
    Q false h3))) ∧
    ((Option.isSome m1) = false →
    Q false h3))
def buffers_Memory_has.mk : Mk := (.s .d (.s .d .d))

def cells_Arena_Who.M  (a1 : Option Addr) (actor2 : Int) (h3 : Heap) (Q : Unit → Heap → Prop) : Prop :=
    (((Option.isSome a1) = true →
    deref a1 fun a4 =>
    st ((.int .i64) : Kd) h3 (a4.add 4) actor2 fun h5 =>
    Q () h5) ∧
    ((Option.isSome a1) = false →
    Q () h3))
def cells_Arena_Who.mk : Mk := (.s .d (.c .d .d))

def cells_Arena_Store.M (c_cells_Arena_outside : Option Addr → Int → Heap → (Bool → Heap → Prop) → Prop) (c_cells_Arena_note : Option Addr → Int → Int → Int → Int → Bool → Heap → (Unit → Heap → Prop) → Prop) (a1 : Option Addr) (addr2 : Int) (v3 : Int) (h4 : Heap) (Q : Int → Heap → Prop) : Prop :=
    c_cells_Arena_outside a1 addr2 h4 fun r5 h6 =>
    ((r5 = true →
    Q 20 h6) ∧
    (r5 = false →
    deref a1 fun a7 =>
    ld (.sl : Kd) h6 (a7.add 2) fun t8 =>
    (0 ≤ addr2 ∧ addr2 < (t8.len : Int)) ∧
    deref t8.a fun a9 =>
    st ((.int .i64) : Kd) h6 (a9.add ((addr2 : Int).toNat * 1)) v3 fun h10 =>
    c_cells_Arena_note a1 1 addr2 v3 0 true h10 fun r11 h12 =>
    Q 0 h12))
def cells_Arena_Store.mk : Mk := (.s .d (.s (.s .d (.c (.s .d .d) .d)) (.s .d (.s .d (.s .d .d)))))

def buffers_View_Load.l1 (c_buffers_place_cells : Den kbuffersplace → Heap → (Option Addr → Heap → Prop) → Prop) (c_cells_Arena_Load : Option Addr → Int → Heap → (Den kapiTodo → Heap → Prop) → Prop) (v1 : Option Addr) (addr2 : Int) (Q : Den kapiTodo → Heap → Prop) (t11 : Sl) (go14 : (Int × Unit) → Heap → Prop) (s12 : (Int × Unit)) (h13 : Heap) : Prop :=
    (((decide ((0 : Int) ≤ s12.1)) = true →
    (0 ≤ s12.1 ∧ s12.1 < (t11.len : Int)) ∧
    deref t11.a fun a15 =>
    ld ((.int .i64) : Kd) h13 ((a15.add ((s12.1 : Int).toNat * 2)).add 0) fun t16 =>
    (((decide (t16 = addr2)) = true →
    (0 ≤ s12.1 ∧ s12.1 < (t11.len : Int)) ∧
    deref t11.a fun a17 =>
    ld ((.int .i64) : Kd) h13 ((a17.add ((s12.1 : Int).toNat * 2)).add 1) fun t18 =>
    Q (t18, 0, ()) h13) ∧
    ((decide (t16 = addr2)) = false →
    go14 ((w64 (s12.1 - 1)), ()) h13))) ∧
    ((decide ((0 : Int) ≤ s12.1)) = false →
    deref v1 fun a19 =>
    ld kbuffersplace h13 (a19.add 0) fun t20 =>
    c_buffers_place_cells t20 h13 fun r21 h22 =>
    c_cells_Arena_Load r21 addr2 h22 fun r23 h24 =>
    Q (r23.1, r23.2.1, ()) h24))
def buffers_View_Load.M (c_buffers_View_none : Option Addr → Int → Heap → (Bool → Heap → Prop) → Prop) (c_buffers_place_cells : Den kbuffersplace → Heap → (Option Addr → Heap → Prop) → Prop) (c_cells_Arena_Load : Option Addr → Int → Heap → (Den kapiTodo → Heap → Prop) → Prop) (v1 : Option Addr) (addr2 : Int) (h3 : Heap) (Q : Den kapiTodo → Heap → Prop) : Prop :=
    c_buffers_View_none v1 addr2 h3 fun r4 h5 =>
    ((r4 = true →
    Q (0, 20, ()) h5) ∧
    (r4 = false →
    deref v1 fun a6 =>
    deref v1 fun a7 =>
    ld (.ptr : Kd) h5 ((a6.add 0).add 0) fun t8 =>
    deref t8 fun a9 =>
    ld ((.int .i64) : Kd) h5 ((a7.add 0).add 1) fun t10 =>
    (0 ≤ t10 ∧ t10 < (8 : Int)) ∧
    ld (.sl : Kd) h5 ((a9.add 3).add ((t10 : Int).toNat * 1)) fun t11 =>
    Loop (buffers_View_Load.l1 c_buffers_place_cells c_cells_Arena_Load v1 addr2 Q t11) ((w64 ((t11.len : Int) - 1)), ()) h5))
def buffers_View_Load.mk : Mk := (.s .d (.s (.s .d (.c (.s .d .d) .d)) (.s (.q [] [] [.p 0, .p 1, .p 2, .p 3, .p 5, .p 6, .p 7, .p 8, .w 4 [4, 10, 11, 12, 13, 14], .p 10, .p 11, .w 9 [9, 12, 13, 14], .p 12, .w 13 [13, 14], .p 14]) (.s (.s .d (.b (.l [.slot 7 (.int .i64)] (.s (.s .d (.c .d .d)) (.s (.b (.s .d (.c (.s .d .d) .d))) .d))))) (.s .d .d)))))

def buffers_View_Store.j1 (v1 : Option Addr) (addr2 : Int) (w3 : Int) (Q : Int → Heap → Prop) (s7 : Unit) (h8 : Heap) : Prop :=
    deref v1 fun a9 =>
    deref v1 fun a10 =>
    deref v1 fun a11 =>
    deref v1 fun a12 =>
    ld (.ptr : Kd) h8 ((a9.add 0).add 0) fun t13 =>
    deref t13 fun a14 =>
    ld ((.int .i64) : Kd) h8 ((a10.add 0).add 1) fun t15 =>
    ld (.ptr : Kd) h8 ((a11.add 0).add 0) fun t16 =>
    deref t16 fun a17 =>
    ld ((.int .i64) : Kd) h8 ((a12.add 0).add 1) fun t18 =>
    (0 ≤ t18 ∧ t18 < (8 : Int)) ∧
    ld (.sl : Kd) h8 ((a17.add 3).add ((t18 : Int).toNat * 1)) fun t19 =>
    new h8 (([(addr2, (w3, ()))] : List (Den kapiTodo)).flatMap (Kd.cells kapiTodo)) fun p20 h21 =>
    appendM 2 16 h21 t19 ⟨some p20, 1, 1⟩ fun t22 h23 =>
    sees h23 (some ((a10.add 0).add 1)) ((.int .i64) : Kd) t15 ∧
    sees h23 (some ((a9.add 0).add 0)) (.ptr : Kd) t13 ∧
    (0 ≤ t15 ∧ t15 < (8 : Int)) ∧
    st (.sl : Kd) h23 ((a14.add 3).add ((t15 : Int).toNat * 1)) t22 fun h24 =>
    Q 0 h24
def buffers_View_Store.M (c_buffers_View_none : Option Addr → Int → Heap → (Bool → Heap → Prop) → Prop) (c_buffers_Memory_Flush : Option Addr → Int → Heap → (Bool → Heap → Prop) → Prop) (v1 : Option Addr) (addr2 : Int) (w3 : Int) (h4 : Heap) (Q : Int → Heap → Prop) : Prop :=
    c_buffers_View_none v1 addr2 h4 fun r5 h6 =>
    ((r5 = true →
    Q 20 h6) ∧
    (r5 = false →
    deref v1 fun a25 =>
    deref v1 fun a26 =>
    deref v1 fun a27 =>
    ld (.ptr : Kd) h6 ((a25.add 0).add 0) fun t28 =>
    deref t28 fun a29 =>
    ld ((.int .i64) : Kd) h6 ((a26.add 0).add 1) fun t30 =>
    (0 ≤ t30 ∧ t30 < (8 : Int)) ∧
    ld (.sl : Kd) h6 ((a29.add 3).add ((t30 : Int).toNat * 1)) fun t31 =>
    ld (.ptr : Kd) h6 ((a27.add 0).add 0) fun t32 =>
    deref t32 fun a33 =>
    ld ((.int .i64) : Kd) h6 (a33.add 2) fun t34 =>
    (((decide (t34 ≤ (t31.len : Int))) = true →
    deref v1 fun a35 =>
    deref v1 fun a36 =>
    ld (.ptr : Kd) h6 ((a35.add 0).add 0) fun t37 =>
    ld ((.int .i64) : Kd) h6 ((a36.add 0).add 1) fun t38 =>
    c_buffers_Memory_Flush t37 t38 h6 fun r39 h40 =>
    buffers_View_Store.j1 v1 addr2 w3 Q () h40) ∧
    ((decide (t34 ≤ (t31.len : Int))) = false →
    buffers_View_Store.j1 v1 addr2 w3 Q () h6))))
def buffers_View_Store.mk : Mk := (.s .d (.s (.s .d (.c (.s .d .d) .d)) (.j [] (.s (.q [] [] [.p 0, .p 1, .p 2, .p 3, .p 5, .p 6, .p 7, .p 8, .p 15, .p 16, .p 17, .p 18, .w 4 [4, 10, 11, 12, 13, 14, 23], .p 10, .p 11, .w 9 [9, 12, 13, 14, 23], .p 12, .w 13 [13, 14, 23], .p 14, .w 19 [19, 20, 21, 22, 23], .p 20, .p 21, .w 22 [22, 23], .p 23]) (.c (.q [] [] [.p 0, .p 1, .p 2, .p 3, .p 5, .p 6, .p 7, .p 8, .w 4 [4, 10], .w 9 [9, 10], .o 10]) .d)) (.s (.q [] [] [.p 0, .p 1, .p 2, .p 3, .p 5, .p 6, .p 7, .p 8, .p 10, .p 11, .p 12, .p 13, .p 15, .p 16, .p 17, .p 18, .p 24, .p 25, .p 26, .w 4 [4, 29, 30, 31, 32], .p 29, .p 30, .w 9 [9, 31, 32], .w 14 [14, 20, 21, 22, 23, 28, 31, 32], .p 20, .p 21, .w 19 [19, 22, 23, 28, 31, 32], .p 22, .w 23 [23, 28, 31, 32], .o 27, .o 28, .p 31, .o 32]) (.s .d .d)))))

def buffers_View_CAS.M (c_buffers_View_none : Option Addr → Int → Heap → (Bool → Heap → Prop) → Prop) (c_buffers_Memory_drain : Option Addr → Int → Heap → (Unit → Heap → Prop) → Prop) (c_buffers_place_cells : Den kbuffersplace → Heap → (Option Addr → Heap → Prop) → Prop) (c_cells_Arena_CAS : Option Addr → Int → Int → Int → Heap → ((Bool × (Int × Unit)) → Heap → Prop) → Prop) (v1 : Option Addr) (addr2 : Int) (old3 : Int) (next4 : Int) (h5 : Heap) (Q : (Bool × (Int × Unit)) → Heap → Prop) : Prop :=
    c_buffers_View_none v1 addr2 h5 fun r6 h7 =>
    ((r6 = true →
    Q (false, 20, ()) h7) ∧
    (r6 = false →
    deref v1 fun a8 =>
    deref v1 fun a9 =>
    ld (.ptr : Kd) h7 ((a8.add 0).add 0) fun t10 =>
    ld ((.int .i64) : Kd) h7 ((a9.add 0).add 1) fun t11 =>
    c_buffers_Memory_drain t10 t11 h7 fun r12 h13 =>
    deref v1 fun a14 =>
    ld kbuffersplace h13 (a14.add 0) fun t15 =>
    c_buffers_place_cells t15 h13 fun r16 h17 =>
    c_cells_Arena_CAS r16 addr2 old3 next4 h17 fun r18 h19 =>
    Q (r18.1, r18.2.1, ()) h19))
def buffers_View_CAS.mk : Mk := (.s .d (.s (.s .d (.c (.s .d .d) .d)) (.s (.q [] [] [.p 0, .p 1, .p 2, .p 3, .p 5, .p 6, .p 7, .p 8, .w 4 [4, 10], .w 9 [9, 10], .o 10]) (.s .d .d))))

def buffers_View_Add.M (c_buffers_View_none : Option Addr → Int → Heap → (Bool → Heap → Prop) → Prop) (c_buffers_Memory_drain : Option Addr → Int → Heap → (Unit → Heap → Prop) → Prop) (c_buffers_place_cells : Den kbuffersplace → Heap → (Option Addr → Heap → Prop) → Prop) (c_cells_Arena_Add : Option Addr → Int → Int → Heap → (Den kapiTodo → Heap → Prop) → Prop) (v1 : Option Addr) (addr2 : Int) (d3 : Int) (h4 : Heap) (Q : Den kapiTodo → Heap → Prop) : Prop :=
    c_buffers_View_none v1 addr2 h4 fun r5 h6 =>
    ((r5 = true →
    Q (0, 20, ()) h6) ∧
    (r5 = false →
    deref v1 fun a7 =>
    deref v1 fun a8 =>
    ld (.ptr : Kd) h6 ((a7.add 0).add 0) fun t9 =>
    ld ((.int .i64) : Kd) h6 ((a8.add 0).add 1) fun t10 =>
    c_buffers_Memory_drain t9 t10 h6 fun r11 h12 =>
    deref v1 fun a13 =>
    ld kbuffersplace h12 (a13.add 0) fun t14 =>
    c_buffers_place_cells t14 h12 fun r15 h16 =>
    c_cells_Arena_Add r15 addr2 d3 h16 fun r17 h18 =>
    Q (r17.1, r17.2.1, ()) h18))
def buffers_View_Add.mk : Mk := (.s .d (.s (.s .d (.c (.s .d .d) .d)) (.s (.q [] [] [.p 0, .p 1, .p 2, .p 3, .p 5, .p 6, .p 7, .p 8, .w 4 [4, 10], .w 9 [9, 10], .o 10]) (.s .d .d))))

def buffers_View_Reserve.j1 (c_buffers_Memory_drain : Option Addr → Int → Heap → (Unit → Heap → Prop) → Prop) (c_buffers_place_cells : Den kbuffersplace → Heap → (Option Addr → Heap → Prop) → Prop) (c_cells_Arena_Reserve : Option Addr → Int → Heap → (Den kapiTodo → Heap → Prop) → Prop) (v1 : Option Addr) (n2 : Int) (Q : Den kapiTodo → Heap → Prop) (s4 : Unit) (h5 : Heap) : Prop :=
    deref v1 fun a6 =>
    deref v1 fun a7 =>
    ld (.ptr : Kd) h5 ((a6.add 0).add 0) fun t8 =>
    ld ((.int .i64) : Kd) h5 ((a7.add 0).add 1) fun t9 =>
    c_buffers_Memory_drain t8 t9 h5 fun r10 h11 =>
    deref v1 fun a12 =>
    ld kbuffersplace h11 (a12.add 0) fun t13 =>
    c_buffers_place_cells t13 h11 fun r14 h15 =>
    c_cells_Arena_Reserve r14 n2 h15 fun r16 h17 =>
    Q (r16.1, r16.2.1, ()) h17
def buffers_View_Reserve.j2 (c_buffers_Memory_drain : Option Addr → Int → Heap → (Unit → Heap → Prop) → Prop) (c_buffers_place_cells : Den kbuffersplace → Heap → (Option Addr → Heap → Prop) → Prop) (c_cells_Arena_Reserve : Option Addr → Int → Heap → (Den kapiTodo → Heap → Prop) → Prop) (v1 : Option Addr) (n2 : Int) (Q : Den kapiTodo → Heap → Prop) (s18 : (Bool × Unit)) (h19 : Heap) : Prop :=
    ((s18.1 = true →
    Q (0, 22, ()) h19) ∧
    (s18.1 = false →
    buffers_View_Reserve.j1 c_buffers_Memory_drain c_buffers_place_cells c_cells_Arena_Reserve v1 n2 Q () h19))
def buffers_View_Reserve.M (c_cells_Arena_Size : Option Addr → Heap → (Int → Heap → Prop) → Prop) (c_cells_Arena_Mark : Option Addr → Heap → (Int → Heap → Prop) → Prop) (c_buffers_Memory_drain : Option Addr → Int → Heap → (Unit → Heap → Prop) → Prop) (c_buffers_place_cells : Den kbuffersplace → Heap → (Option Addr → Heap → Prop) → Prop) (c_cells_Arena_Reserve : Option Addr → Int → Heap → (Den kapiTodo → Heap → Prop) → Prop) (v1 : Option Addr) (n2 : Int) (h3 : Heap) (Q : Den kapiTodo → Heap → Prop) : Prop :=
    (((decide (n2 < 1)) = true →
    Q (0, 21, ()) h3) ∧
    ((decide (n2 < 1)) = false →
    (((Option.isNone v1) = true →
    buffers_View_Reserve.j2 c_buffers_Memory_drain c_buffers_place_cells c_cells_Arena_Reserve v1 n2 Q (true, ()) h3) ∧
    ((Option.isNone v1) = false →
    deref v1 fun a20 =>
    ld (.ptr : Kd) h3 ((a20.add 0).add 0) fun t21 =>
    (((Option.isNone t21) = true →
    buffers_View_Reserve.j2 c_buffers_Memory_drain c_buffers_place_cells c_cells_Arena_Reserve v1 n2 Q (true, ()) h3) ∧
    ((Option.isNone t21) = false →
    deref v1 fun a22 =>
    deref v1 fun a23 =>
    ld (.ptr : Kd) h3 ((a22.add 0).add 0) fun t24 =>
    deref t24 fun a25 =>
    ld (.ptr : Kd) h3 (a25.add 0) fun t26 =>
    ld (.ptr : Kd) h3 ((a23.add 0).add 0) fun t27 =>
    deref t27 fun a28 =>
    ld (.ptr : Kd) h3 (a28.add 0) fun t29 =>
    c_cells_Arena_Size t26 h3 fun r30 h31 =>
    sees h31 (some (a28.add 0)) (.ptr : Kd) t29 ∧
    sees h31 (some ((a23.add 0).add 0)) (.ptr : Kd) t27 ∧
    c_cells_Arena_Mark t29 h31 fun r32 h33 =>
    buffers_View_Reserve.j2 c_buffers_Memory_drain c_buffers_place_cells c_cells_Arena_Reserve v1 n2 Q ((decide ((w64 (r30 - r32)) < n2)), ()) h33))))))
def buffers_View_Reserve.mk : Mk := (.s .d (.s (.s .d (.c (.s .d .d) .d)) (.j [] (.j [.slot 40 .bool] (.q [] [] [.p 0, .p 1, .p 2, .p 3, .p 4, .p 5, .p 6, .w 7 [7, 8, 9, 10, 11, 12, 13, 14, 15, 16, 17, 18, 19, 20, 21, 22, 23, 24, 25, 26, 27, 28, 29, 30, 31, 32], .p 8, .p 9, .p 10, .p 11, .p 12, .p 13, .p 14, .p 15, .p 21, .p 22, .p 23, .p 24, .w 16 [16, 17, 18, 19, 20, 29, 30, 31, 32], .p 17, .p 18, .w 19 [19, 20, 29, 30, 31, 32], .w 25 [25, 26, 27, 28, 29, 30, 31, 32], .p 26, .p 27, .w 28 [28, 29, 30, 31, 32], .o 20, .o 29, .p 30, .p 31, .p 32]) (.c (.s .d .d) .d)) (.s (.q [] [] [.p 0, .p 1, .p 2, .p 3, .p 5, .p 6, .p 7, .p 8, .w 4 [4, 10], .w 9 [9, 10], .o 10]) (.s .d .d)))))

def buffers_View_Fence.j1 (c_buffers_Memory_drain : Option Addr → Int → Heap → (Unit → Heap → Prop) → Prop) (v1 : Option Addr) (Q : Unit → Heap → Prop) (s3 : (Bool × Unit)) (h4 : Heap) : Prop :=
    ((s3.1 = true →
    deref v1 fun a5 =>
    deref v1 fun a6 =>
    ld (.ptr : Kd) h4 ((a5.add 0).add 0) fun t7 =>
    ld ((.int .i64) : Kd) h4 ((a6.add 0).add 1) fun t8 =>
    c_buffers_Memory_drain t7 t8 h4 fun r9 h10 =>
    Q () h10) ∧
    (s3.1 = false →
    Q () h4))
def buffers_View_Fence.M (c_buffers_Memory_drain : Option Addr → Int → Heap → (Unit → Heap → Prop) → Prop) (v1 : Option Addr) (h2 : Heap) (Q : Unit → Heap → Prop) : Prop :=
    (((Option.isSome v1) = true →
    deref v1 fun a11 =>
    ld (.ptr : Kd) h2 ((a11.add 0).add 0) fun t12 =>
    buffers_View_Fence.j1 c_buffers_Memory_drain v1 Q ((Option.isSome t12), ()) h2) ∧
    ((Option.isSome v1) = false →
    buffers_View_Fence.j1 c_buffers_Memory_drain v1 Q (false, ()) h2))
def buffers_View_Fence.mk : Mk := (.j [.slot 11 .bool] .d (.c (.q [] [] [.p 0, .p 1, .p 2, .p 3, .p 5, .p 6, .p 7, .p 8, .w 4 [4, 10], .w 9 [9, 10], .o 10]) .d))

def cells_good.M  (size1 : Int) (h2 : Heap) (Q : Bool → Heap → Prop) : Prop :=
    (((decide ((0 : Int) ≤ size1)) = true →
    Q (decide (size1 ≤ 1048576)) h2) ∧
    ((decide ((0 : Int) ≤ size1)) = false →
    Q false h2))
def cells_good.mk : Mk := (.s .d (.s .d .d))

def cells_Arena_Load.M (c_cells_Arena_outside : Option Addr → Int → Heap → (Bool → Heap → Prop) → Prop) (c_cells_Arena_note : Option Addr → Int → Int → Int → Int → Bool → Heap → (Unit → Heap → Prop) → Prop) (a1 : Option Addr) (addr2 : Int) (h3 : Heap) (Q : Den kapiTodo → Heap → Prop) : Prop :=
    c_cells_Arena_outside a1 addr2 h3 fun r4 h5 =>
    ((r4 = true →
    Q (0, 20, ()) h5) ∧
    (r4 = false →
    deref a1 fun a6 =>
    ld (.sl : Kd) h5 (a6.add 2) fun t7 =>
    (0 ≤ addr2 ∧ addr2 < (t7.len : Int)) ∧
    deref t7.a fun a8 =>
    ld ((.int .i64) : Kd) h5 (a8.add ((addr2 : Int).toNat * 1)) fun t9 =>
    c_cells_Arena_note a1 0 addr2 t9 0 true h5 fun r10 h11 =>
    Q (t9, 0, ()) h11))
def cells_Arena_Load.mk : Mk := (.s .d (.s (.s .d (.c (.s .d .d) .d)) (.s .d (.s .d (.s .d .d)))))

def cells_Arena_CAS.j1 (c_cells_Arena_note : Option Addr → Int → Int → Int → Int → Bool → Heap → (Unit → Heap → Prop) → Prop) (a1 : Option Addr) (addr2 : Int) (old3 : Int) (next4 : Int) (Q : (Bool × (Int × Unit)) → Heap → Prop) (t11 : Int) (s12 : Unit) (h13 : Heap) : Prop :=
    c_cells_Arena_note a1 2 addr2 old3 next4 (decide (t11 = old3)) h13 fun r14 h15 =>
    Q ((decide (t11 = old3)), 0, ()) h15
def cells_Arena_CAS.M (c_cells_Arena_outside : Option Addr → Int → Heap → (Bool → Heap → Prop) → Prop) (c_cells_Arena_note : Option Addr → Int → Int → Int → Int → Bool → Heap → (Unit → Heap → Prop) → Prop) (a1 : Option Addr) (addr2 : Int) (old3 : Int) (next4 : Int) (h5 : Heap) (Q : (Bool × (Int × Unit)) → Heap → Prop) : Prop :=
    c_cells_Arena_outside a1 addr2 h5 fun r6 h7 =>
    ((r6 = true →
    Q (false, 20, ()) h7) ∧
    (r6 = false →
    deref a1 fun a8 =>
    ld (.sl : Kd) h7 (a8.add 2) fun t9 =>
    (0 ≤ addr2 ∧ addr2 < (t9.len : Int)) ∧
    deref t9.a fun a10 =>
    ld ((.int .i64) : Kd) h7 (a10.add ((addr2 : Int).toNat * 1)) fun t11 =>
    (((decide (t11 = old3)) = true →
    deref a1 fun a16 =>
    ld (.sl : Kd) h7 (a16.add 2) fun t17 =>
    (0 ≤ addr2 ∧ addr2 < (t17.len : Int)) ∧
    deref t17.a fun a18 =>
    st ((.int .i64) : Kd) h7 (a18.add ((addr2 : Int).toNat * 1)) next4 fun h19 =>
    cells_Arena_CAS.j1 c_cells_Arena_note a1 addr2 old3 next4 Q t11 () h19) ∧
    ((decide (t11 = old3)) = false →
    cells_Arena_CAS.j1 c_cells_Arena_note a1 addr2 old3 next4 Q t11 () h7))))
def cells_Arena_CAS.mk : Mk := (.s .d (.s (.s .d (.c (.s .d .d) .d)) (.s .d (.j [] (.s .d (.c .d .d)) (.s .d (.s .d .d))))))

def cells_Arena_Add.M (c_cells_Arena_outside : Option Addr → Int → Heap → (Bool → Heap → Prop) → Prop) (c_cells_Arena_note : Option Addr → Int → Int → Int → Int → Bool → Heap → (Unit → Heap → Prop) → Prop) (a1 : Option Addr) (addr2 : Int) (d3 : Int) (h4 : Heap) (Q : Den kapiTodo → Heap → Prop) : Prop :=
    c_cells_Arena_outside a1 addr2 h4 fun r5 h6 =>
    ((r5 = true →
    Q (0, 20, ()) h6) ∧
    (r5 = false →
    deref a1 fun a7 =>
    ld (.sl : Kd) h6 (a7.add 2) fun t8 =>
    (0 ≤ addr2 ∧ addr2 < (t8.len : Int)) ∧
    deref t8.a fun a9 =>
    ld ((.int .i64) : Kd) h6 (a9.add ((addr2 : Int).toNat * 1)) fun t10 =>
    (0 ≤ addr2 ∧ addr2 < (t8.len : Int)) ∧
    deref t8.a fun a11 =>
    st ((.int .i64) : Kd) h6 (a11.add ((addr2 : Int).toNat * 1)) (w64 (t10 + d3)) fun h12 =>
    deref a1 fun a13 =>
    ld (.sl : Kd) h12 (a13.add 2) fun t14 =>
    (0 ≤ addr2 ∧ addr2 < (t14.len : Int)) ∧
    deref t14.a fun a15 =>
    ld ((.int .i64) : Kd) h12 (a15.add ((addr2 : Int).toNat * 1)) fun t16 =>
    c_cells_Arena_note a1 3 addr2 d3 t16 true h12 fun r17 h18 =>
    deref a1 fun a19 =>
    ld (.sl : Kd) h18 (a19.add 2) fun t20 =>
    (0 ≤ addr2 ∧ addr2 < (t20.len : Int)) ∧
    deref t20.a fun a21 =>
    ld ((.int .i64) : Kd) h18 (a21.add ((addr2 : Int).toNat * 1)) fun t22 =>
    Q (t22, 0, ()) h18))
def cells_Arena_Add.mk : Mk := (.s .d (.s (.s .d (.c (.s .d .d) .d)) (.s .d (.s .d (.s .d .d)))))

def cells_ledger_refuse.j1 (Q : Int → Heap → Prop) (s4 : Unit) (h5 : Heap) : Prop :=
    Q 0 h5
def cells_ledger_refuse.j2 (Q : Int → Heap → Prop) (s6 : (Bool × Unit)) (h7 : Heap) : Prop :=
    ((s6.1 = true →
    Q 22 h7) ∧
    (s6.1 = false →
    cells_ledger_refuse.j1 Q () h7))
def cells_ledger_refuse.M  (l1 : Option Addr) (n2 : Int) (h3 : Heap) (Q : Int → Heap → Prop) : Prop :=
    (((decide (n2 < 1)) = true →
    Q 21 h3) ∧
    ((decide (n2 < 1)) = false →
    (((Option.isNone l1) = true →
    cells_ledger_refuse.j2 Q (true, ()) h3) ∧
    ((Option.isNone l1) = false →
    deref l1 fun a8 =>
    deref l1 fun a9 =>
    ld ((.int .i64) : Kd) h3 (a8.add 0) fun t10 =>
    ld ((.int .i64) : Kd) h3 (a9.add 1) fun t11 =>
    cells_ledger_refuse.j2 Q ((decide ((w64 (t10 - t11)) < n2)), ()) h3))))
def cells_ledger_refuse.mk : Mk := (.s .d (.s (.s .d (.c (.s .d .d) .d)) (.j [] (.j [.slot 21 .bool] (.q [] [] [.p 0, .p 1, .p 2, .p 3, .p 4, .p 5, .p 6, .p 8, .p 9, .p 10, .w 7 [7, 12, 13, 14], .w 11 [11, 12, 13, 14], .p 12, .p 13, .p 14]) (.c (.s .d .d) .d)) (.s .d .d))))

def cells_ledger_take.M  (l1 : Option Addr) (n2 : Int) (h3 : Heap) (Q : Int → Heap → Prop) : Prop :=
    deref l1 fun a4 =>
    ld ((.int .i64) : Kd) h3 (a4.add 1) fun t5 =>
    deref l1 fun a6 =>
    ld ((.int .i64) : Kd) h3 (a6.add 1) fun t7 =>
    deref l1 fun a8 =>
    st ((.int .i64) : Kd) h3 (a8.add 1) (w64 (t7 + n2)) fun h9 =>
    Q t5 h9
def cells_ledger_take.mk : Mk := (.s .d (.s .d (.s .d (.s .d .d))))

def cells_Arena_note.M  (a1 : Option Addr) (kind2 : Int) (addr3 : Int) (x4 : Int) (y5 : Int) (ok6 : Bool) (h7 : Heap) (Q : Unit → Heap → Prop) : Prop :=
    deref a1 fun a8 =>
    ld (.bool : Kd) h7 (a8.add 5) fun t9 =>
    ((t9 = true →
    deref a1 fun a10 =>
    deref a1 fun a11 =>
    ld (.sl : Kd) h7 (a10.add 3) fun t12 =>
    ld ((.int .i64) : Kd) h7 (a11.add 4) fun t13 =>
    new h7 (([(t13, (kind2, (addr3, (x4, (y5, (ok6, ()))))))] : List (Den kapiAccess)).flatMap (Kd.cells kapiAccess)) fun p14 h15 =>
    appendM 6 48 h15 t12 ⟨some p14, 1, 1⟩ fun t16 h17 =>
    deref a1 fun a18 =>
    st (.sl : Kd) h17 (a18.add 3) t16 fun h19 =>
    Q () h19) ∧
    (t9 = false →
    Q () h7))
def cells_Arena_note.mk : Mk := (.s .d (.c (.q [] [] [.p 0, .p 1, .p 2, .p 3, .p 5, .p 6, .p 7, .p 9, .p 10, .p 11, .p 12, .p 13, .w 4 [4, 16, 17, 18, 19], .w 8 [8, 14, 15, 16, 17, 18, 19], .p 14, .o 15, .o 16, .p 17, .p 18, .o 19]) .d))

def cells_Arena_outside.M (c_cells_ledger_has : Option Addr → Int → Heap → (Bool → Heap → Prop) → Prop) (a1 : Option Addr) (addr2 : Int) (h3 : Heap) (Q : Bool → Heap → Prop) : Prop :=
    (((Option.isNone a1) = true →
    Q true h3) ∧
    ((Option.isNone a1) = false →
    deref a1 fun a4 =>
    c_cells_ledger_has (some (a4.add 0)) addr2 h3 fun r5 h6 =>
    Q (!r5) h6))
def cells_Arena_outside.mk : Mk := (.s .d (.s .d .d))

def buffers_View_none.M (c_cells_Arena_Mark : Option Addr → Heap → (Int → Heap → Prop) → Prop) (v1 : Option Addr) (addr2 : Int) (h3 : Heap) (Q : Bool → Heap → Prop) : Prop :=
    (((Option.isNone v1) = true →
    Q true h3) ∧
    ((Option.isNone v1) = false →
    deref v1 fun a4 =>
    ld (.ptr : Kd) h3 ((a4.add 0).add 0) fun t5 =>
    (((Option.isNone t5) = true →
    Q true h3) ∧
    ((Option.isNone t5) = false →
    (((decide (addr2 < 0)) = true →
    Q true h3) ∧
    ((decide (addr2 < 0)) = false →
    deref v1 fun a6 =>
    ld (.ptr : Kd) h3 ((a6.add 0).add 0) fun t7 =>
    deref t7 fun a8 =>
    ld (.ptr : Kd) h3 (a8.add 0) fun t9 =>
    c_cells_Arena_Mark t9 h3 fun r10 h11 =>
    Q (decide (r10 ≤ addr2)) h11))))))
def buffers_View_none.mk : Mk := (.s .d (.s .d .d))

def buffers_place_cells.M (c_cells_Arena_Who : Option Addr → Int → Heap → (Unit → Heap → Prop) → Prop) (p1 : Den kbuffersplace) (h2 : Heap) (Q : Option Addr → Heap → Prop) : Prop :=
    deref p1.1 fun a3 =>
    ld (.ptr : Kd) h2 (a3.add 0) fun t4 =>
    c_cells_Arena_Who t4 p1.2.1 h2 fun r5 h6 =>
    deref p1.1 fun a7 =>
    ld (.ptr : Kd) h6 (a7.add 0) fun t8 =>
    Q t8 h6
def buffers_place_cells.mk : Mk := (.s (.r [0]) (.s (.q [] [] [.p 0, .p 5, .w 1 [1, 2, 3, 4, 7], .p 2, .p 3, .w 4 [4, 7], .w 6 [6, 7], .o 7]) (.s .d .d)))

def cells_Arena_Size.M (c_cells_ledger_Size : Option Addr → Heap → (Int → Heap → Prop) → Prop) (a1 : Option Addr) (h2 : Heap) (Q : Int → Heap → Prop) : Prop :=
    (((Option.isNone a1) = true →
    Q 0 h2) ∧
    ((Option.isNone a1) = false →
    deref a1 fun a3 =>
    c_cells_ledger_Size (some (a3.add 0)) h2 fun r4 h5 =>
    Q r4 h5))
def cells_Arena_Size.mk : Mk := (.s .d (.s (.s .d (.c (.s .d .d) .d)) (.s .d .d)))

def cells_Arena_Mark.M (c_cells_ledger_Mark : Option Addr → Heap → (Int → Heap → Prop) → Prop) (a1 : Option Addr) (h2 : Heap) (Q : Int → Heap → Prop) : Prop :=
    (((Option.isNone a1) = true →
    Q 0 h2) ∧
    ((Option.isNone a1) = false →
    deref a1 fun a3 =>
    c_cells_ledger_Mark (some (a3.add 0)) h2 fun r4 h5 =>
    Q r4 h5))
def cells_Arena_Mark.mk : Mk := (.s .d (.s (.s .d (.c (.s .d .d) .d)) (.s .d .d)))

def cells_ledger_has.M  (l1 : Option Addr) (addr2 : Int) (h3 : Heap) (Q : Bool → Heap → Prop) : Prop :=
    (((decide ((0 : Int) ≤ addr2)) = true →
    deref l1 fun a4 =>
    ld ((.int .i64) : Kd) h3 (a4.add 1) fun t5 =>
    Q (decide (addr2 < t5)) h3) ∧
    ((decide ((0 : Int) ≤ addr2)) = false →
    Q false h3))
def cells_ledger_has.mk : Mk := (.s .d (.s .d .d))

def cells_ledger_Size.M  (l1 : Option Addr) (h2 : Heap) (Q : Int → Heap → Prop) : Prop :=
    (((Option.isNone l1) = true →
    Q 0 h2) ∧
    ((Option.isNone l1) = false →
    deref l1 fun a3 =>
    ld ((.int .i64) : Kd) h2 (a3.add 0) fun t4 =>
    Q t4 h2))
def cells_ledger_Size.mk : Mk := (.s .d (.s (.s .d (.c (.s .d .d) .d)) (.s .d .d)))

def cells_ledger_Mark.M  (l1 : Option Addr) (h2 : Heap) (Q : Int → Heap → Prop) : Prop :=
    (((Option.isNone l1) = true →
    Q 0 h2) ∧
    ((Option.isNone l1) = false →
    deref l1 fun a3 =>
    ld ((.int .i64) : Kd) h2 (a3.add 1) fun t4 =>
    Q t4 h2))
def cells_ledger_Mark.mk : Mk := (.s .d (.s (.s .d (.c (.s .d .d) .d)) (.s .d .d)))

end Go.Mx
