/-
  What the functions of this seat come to over abstract heaps: printed by a program of this workplace.
-/
import Derived.Test.YtjkecefbbijajaaMxN
set_option linter.unusedVariables false
namespace Go.Mx
abbrev kapiDequeRun : Kd := (.pair .sl (.pair .sl (.pair .sl .nil)))
abbrev kapiTodo : Kd := (.pair (.int .i64) (.pair (.int .i64) .nil))
abbrev kapiCall : Kd := (.pair (.int .i64) (.pair (.int .i64) (.pair (.int .i64) (.pair (.int .i64) (.pair (.int .i64) kapiTodo)))))
abbrev kapiAccess : Kd := (.pair (.int .i64) (.pair (.int .i64) (.pair (.int .i64) (.pair (.int .i64) (.pair (.int .i64) (.pair .bool .nil))))))
abbrev kdequegame : Kd := (.pair .ptr (.pair kapiTodo kapiDequeRun))
abbrev kdequeOp : Kd := (.pair (.int .i64) (.pair (.int .i64) (.pair kapiTodo (.pair (.int .i64) (.pair (.int .i64) (.pair (.int .i64) (.pair (.int .i64) (.pair (.int .i64) (.pair (.int .i64) (.pair (.int .i64) (.pair (.int .i64) (.pair (.int .i64) (.pair .bool kapiTodo)))))))))))))
abbrev kdequeactor : Kd := (.pair kdequeOp (.pair (.int .i64) .nil))
abbrev kref3Mem : Kd := (.pair .sl (.pair (.int .i64) (.pair (.int .i64) (.pair .sl .nil))))
abbrev kref3Stage : Kd := (.pair .ptr (.pair kapiTodo (.pair .sl (.pair (.int .i64) (.pair .sl (.pair kapiDequeRun .nil))))))
abbrev kref3Op : Kd := (.pair (.int .i64) (.pair kapiTodo (.pair (.int .i64) (.pair .sl (.pair .bool .nil)))))
abbrev kref3Actor : Kd := (.pair (.int .i64) (.pair kref3Op .nil))
abbrev kcellsArena : Kd := (.pair kapiTodo (.pair .sl (.pair .sl (.pair (.int .i64) (.pair .bool .nil)))))
abbrev kref3Want : Kd := (.pair (.int .i64) (.pair (.int .i64) (.pair (.int .i64) (.pair (.int .i64) kapiTodo))))
-- @T p_cells_Arena 54

def law3_DequeOnce.j1 (go21 : (Int × Den kapiTodo) → Heap → Prop) (s19 : (Int × Den kapiTodo)) (s22 : Den kapiTodo) (h23 : Heap) : Prop :=
    go21 (s22.1, s22.2.1, (w64 (s19.2.2.1 + 1)), ()) h23
def law3_DequeOnce.j2 (go21 : (Int × Den kapiTodo) → Heap → Prop) (s19 : (Int × Den kapiTodo)) (s26 : (Int × Unit)) (s28 : (Bool × Unit)) (h29 : Heap) : Prop :=
    ((s28.1 = true →
    law3_DequeOnce.j1 go21 s19 (s26.1, 1, ()) h29) ∧
    (s28.1 = false →
    law3_DequeOnce.j1 go21 s19 (s26.1, s19.2.1, ()) h29))
def law3_DequeOnce.j3 (go21 : (Int × Den kapiTodo) → Heap → Prop) (s19 : (Int × Den kapiTodo)) (t25 : Den kapiCall) (s26 : (Int × Unit)) (h27 : Heap) : Prop :=
    (((decide (t25.2.1 = 1)) = true →
    law3_DequeOnce.j2 go21 s19 s26 ((decide (t25.2.2.2.2.2.1 = 0)), ()) h27) ∧
    ((decide (t25.2.1 = 1)) = false →
    law3_DequeOnce.j2 go21 s19 s26 (false, ()) h27))
def law3_DequeOnce.j4 (s15 : Sl) (go21 : (Int × Den kapiTodo) → Heap → Prop) (s19 : (Int × Den kapiTodo)) (t25 : Den kapiCall) (s30 : (Bool × Unit)) (h31 : Heap) : Prop :=
    ((s30.1 = true →
    (0 ≤ t25.2.2.1 ∧ t25.2.2.1 < (s15.len : Int)) ∧
    deref s15.a fun a32 =>
    st ((.int .i64) : Kd) h31 (a32.add ((t25.2.2.1 : Int).toNat * 1)) (w64 (t25.2.2.2.1 + 1)) fun h33 =>
    law3_DequeOnce.j3 go21 s19 t25 ((w64 (s19.1 + 1)), ()) h33) ∧
    (s30.1 = false →
    law3_DequeOnce.j3 go21 s19 t25 (s19.1, ()) h31))
def law3_DequeOnce.j5 (go36 : Den kapiTodo → Heap → Prop) (s34 : Den kapiTodo) (s37 : (Int × Unit)) (h38 : Heap) : Prop :=
    go36 (s37.1, (w64 (s34.2.1 + 1)), ()) h38
def law3_DequeOnce.j6 (s17 : Sl) (go36 : Den kapiTodo → Heap → Prop) (s34 : Den kapiTodo) (t40 : Den kapiCall) (s41 : Unit) (h42 : Heap) : Prop :=
    (0 ≤ t40.2.2.2.2.2.2.1 ∧ t40.2.2.2.2.2.2.1 < (s17.len : Int)) ∧
    deref s17.a fun a43 =>
    ld ((.int .i64) : Kd) h42 (a43.add ((t40.2.2.2.2.2.2.1 : Int).toNat * 1)) fun t44 =>
    (0 ≤ t40.2.2.2.2.2.2.1 ∧ t40.2.2.2.2.2.2.1 < (s17.len : Int)) ∧
    deref s17.a fun a45 =>
    st ((.int .i64) : Kd) h42 (a45.add ((t40.2.2.2.2.2.2.1 : Int).toNat * 1)) (w64 (t44 + 1)) fun h46 =>
    law3_DequeOnce.j5 go36 s34 ((w64 (s34.1 + 1)), ()) h46
def law3_DequeOnce.j7 (Q : Bool → Heap → Prop) (s17 : Sl) (go36 : Den kapiTodo → Heap → Prop) (s34 : Den kapiTodo) (t40 : Den kapiCall) (s47 : (Bool × Unit)) (h48 : Heap) : Prop :=
    ((s47.1 = true →
    Q false h48) ∧
    (s47.1 = false →
    law3_DequeOnce.j6 s17 go36 s34 t40 () h48))
def law3_DequeOnce.j8 (go55 : Den kapiTodo → Heap → Prop) (s53 : Den kapiTodo) (s56 : (Int × Unit)) (h57 : Heap) : Prop :=
    go55 (s56.1, (w64 (s53.2.1 + 1)), ()) h57
def law3_DequeOnce.j9 (s17 : Sl) (go55 : Den kapiTodo → Heap → Prop) (s53 : Den kapiTodo) (t59 : Int) (s60 : Unit) (h61 : Heap) : Prop :=
    (0 ≤ t59 ∧ t59 < (s17.len : Int)) ∧
    deref s17.a fun a62 =>
    ld ((.int .i64) : Kd) h61 (a62.add ((t59 : Int).toNat * 1)) fun t63 =>
    (0 ≤ t59 ∧ t59 < (s17.len : Int)) ∧
    deref s17.a fun a64 =>
    st ((.int .i64) : Kd) h61 (a64.add ((t59 : Int).toNat * 1)) (w64 (t63 + 1)) fun h65 =>
    law3_DequeOnce.j8 go55 s53 ((w64 (s53.1 + 1)), ()) h65
def law3_DequeOnce.j10 (Q : Bool → Heap → Prop) (s17 : Sl) (go55 : Den kapiTodo → Heap → Prop) (s53 : Den kapiTodo) (t59 : Int) (s66 : (Bool × Unit)) (h67 : Heap) : Prop :=
    ((s66.1 = true →
    Q false h67) ∧
    (s66.1 = false →
    law3_DequeOnce.j9 s17 go55 s53 t59 () h67))
def law3_DequeOnce.l11 (Q : Bool → Heap → Prop) (r9 : Sl) (s17 : Sl) (s19 : (Int × Den kapiTodo)) (s53 : Den kapiTodo) (go72 : (Int × Unit) → Heap → Prop) (s70 : (Int × Unit)) (h71 : Heap) : Prop :=
    (((decide (s70.1 < (r9.len : Int))) = true →
    (0 ≤ s70.1 ∧ s70.1 < (s17.len : Int)) ∧
    deref s17.a fun a73 =>
    ld ((.int .i64) : Kd) h71 (a73.add ((s70.1 : Int).toNat * 1)) fun t74 =>
    (((decide ((1 : Int) < t74)) = true →
    Q false h71) ∧
    ((decide ((1 : Int) < t74)) = false →
    go72 ((w64 (s70.1 + 1)), ()) h71))) ∧
    ((decide (s70.1 < (r9.len : Int))) = false →
    (((decide (s53.1 = s19.1)) = true →
    Q true h71) ∧
    ((decide (s53.1 = s19.1)) = false →
    Q (decide (s53.1 = (w64 (s19.1 - s19.2.1)))) h71))))
def law3_DequeOnce.l12 (Q : Bool → Heap → Prop) (r9 : Sl) (r11 : (Den kapiDequeRun × (Int × Unit))) (s15 : Sl) (s17 : Sl) (s19 : (Int × Den kapiTodo)) (go55 : Den kapiTodo → Heap → Prop) (s53 : Den kapiTodo) (h54 : Heap) : Prop :=
    (((decide (s53.2.1 < (r11.1.2.1.len : Int))) = true →
    (0 ≤ s53.2.1 ∧ s53.2.1 < (r11.1.2.1.len : Int)) ∧
    deref r11.1.2.1.a fun a58 =>
    ld ((.int .i64) : Kd) h54 (a58.add ((s53.2.1 : Int).toNat * 1)) fun t59 =>
    (((decide (t59 < 0)) = true →
    law3_DequeOnce.j10 Q s17 go55 s53 t59 (true, ()) h54) ∧
    ((decide (t59 < 0)) = false →
    (((decide ((r9.len : Int) ≤ t59)) = true →
    law3_DequeOnce.j10 Q s17 go55 s53 t59 (true, ()) h54) ∧
    ((decide ((r9.len : Int) ≤ t59)) = false →
    (0 ≤ t59 ∧ t59 < (s15.len : Int)) ∧
    deref s15.a fun a68 =>
    ld ((.int .i64) : Kd) h54 (a68.add ((t59 : Int).toNat * 1)) fun t69 =>
    law3_DequeOnce.j10 Q s17 go55 s53 t59 ((decide (t69 = 0)), ()) h54))))) ∧
    ((decide (s53.2.1 < (r11.1.2.1.len : Int))) = false →
    Loop (law3_DequeOnce.l11 Q r9 s17 s19 s53) (0, ()) h54))
def law3_DequeOnce.l13 (Q : Bool → Heap → Prop) (r9 : Sl) (r11 : (Den kapiDequeRun × (Int × Unit))) (s15 : Sl) (s17 : Sl) (s19 : (Int × Den kapiTodo)) (go36 : Den kapiTodo → Heap → Prop) (s34 : Den kapiTodo) (h35 : Heap) : Prop :=
    (((decide (s34.2.1 < (r11.1.1.len : Int))) = true →
    (0 ≤ s34.2.1 ∧ s34.2.1 < (r11.1.1.len : Int)) ∧
    deref r11.1.1.a fun a39 =>
    ld kapiCall h35 (a39.add ((s34.2.1 : Int).toNat * 7)) fun t40 =>
    (((decide (t40.2.2.2.2.2.1 ≠ 4)) = true →
    (((decide (t40.2.2.2.2.2.2.1 ≠ 0)) = true →
    Q false h35) ∧
    ((decide (t40.2.2.2.2.2.2.1 ≠ 0)) = false →
    law3_DequeOnce.j5 go36 s34 (s34.1, ()) h35))) ∧
    ((decide (t40.2.2.2.2.2.1 ≠ 4)) = false →
    (((decide (t40.2.1 = 0)) = true →
    law3_DequeOnce.j7 Q s17 go36 s34 t40 (true, ()) h35) ∧
    ((decide (t40.2.1 = 0)) = false →
    (((decide (t40.2.2.2.2.2.2.1 < 0)) = true →
    law3_DequeOnce.j7 Q s17 go36 s34 t40 (true, ()) h35) ∧
    ((decide (t40.2.2.2.2.2.2.1 < 0)) = false →
    (((decide ((r9.len : Int) ≤ t40.2.2.2.2.2.2.1)) = true →
    law3_DequeOnce.j7 Q s17 go36 s34 t40 (true, ()) h35) ∧
    ((decide ((r9.len : Int) ≤ t40.2.2.2.2.2.2.1)) = false →
    (0 ≤ t40.2.2.2.2.2.2.1 ∧ t40.2.2.2.2.2.2.1 < (s15.len : Int)) ∧
    deref s15.a fun a49 =>
    ld ((.int .i64) : Kd) h35 (a49.add ((t40.2.2.2.2.2.2.1 : Int).toNat * 1)) fun t50 =>
    (((decide (t50 = 0)) = true →
    law3_DequeOnce.j7 Q s17 go36 s34 t40 (true, ()) h35) ∧
    ((decide (t50 = 0)) = false →
    (0 ≤ t40.2.2.2.2.2.2.1 ∧ t40.2.2.2.2.2.2.1 < (s15.len : Int)) ∧
    deref s15.a fun a51 =>
    ld ((.int .i64) : Kd) h35 (a51.add ((t40.2.2.2.2.2.2.1 : Int).toNat * 1)) fun t52 =>
    law3_DequeOnce.j7 Q s17 go36 s34 t40 ((decide (t40.2.2.2.2.1 < t52)), ()) h35))))))))))) ∧
    ((decide (s34.2.1 < (r11.1.1.len : Int))) = false →
    Loop (law3_DequeOnce.l12 Q r9 r11 s15 s17 s19) (s34.1, 0, ()) h35))
def law3_DequeOnce.l14 (Q : Bool → Heap → Prop) (r9 : Sl) (r11 : (Den kapiDequeRun × (Int × Unit))) (s15 : Sl) (s17 : Sl) (go21 : (Int × Den kapiTodo) → Heap → Prop) (s19 : (Int × Den kapiTodo)) (h20 : Heap) : Prop :=
    (((decide (s19.2.2.1 < (r11.1.1.len : Int))) = true →
    (0 ≤ s19.2.2.1 ∧ s19.2.2.1 < (r11.1.1.len : Int)) ∧
    deref r11.1.1.a fun a24 =>
    ld kapiCall h20 (a24.add ((s19.2.2.1 : Int).toNat * 7)) fun t25 =>
    (((decide (t25.2.1 = 0)) = true →
    law3_DequeOnce.j4 s15 go21 s19 t25 ((decide (t25.2.2.2.2.2.1 = 2)), ()) h20) ∧
    ((decide (t25.2.1 = 0)) = false →
    law3_DequeOnce.j4 s15 go21 s19 t25 (false, ()) h20))) ∧
    ((decide (s19.2.2.1 < (r11.1.1.len : Int))) = false →
    Loop (law3_DequeOnce.l13 Q r9 r11 s15 s17 s19) (0, 0, ()) h20))
def law3_DequeOnce.j15 (todos3 : Sl) (Q : Bool → Heap → Prop) (r9 : Sl) (r11 : (Den kapiDequeRun × (Int × Unit))) (s13 : Unit) (h14 : Heap) : Prop :=
    makeM ((.int .i64) : Kd) 8 h14 (todos3.len : Int) (todos3.len : Int) fun s15 h16 =>
    makeM ((.int .i64) : Kd) 8 h16 (todos3.len : Int) (todos3.len : Int) fun s17 h18 =>
    Loop (law3_DequeOnce.l14 Q r9 r11 s15 s17) (0, 0, 0, ()) h18
def law3_DequeOnce.j16 (todos3 : Sl) (Q : Bool → Heap → Prop) (r9 : Sl) (r11 : (Den kapiDequeRun × (Int × Unit))) (s75 : (Bool × Unit)) (h76 : Heap) : Prop :=
    ((s75.1 = true →
    Q false h76) ∧
    (s75.1 = false →
    law3_DequeOnce.j15 todos3 Q r9 r11 () h76))
def law3_DequeOnce.M (c_law3_fair : Int → Int → Sl → Int → Sl → Heap → (Bool → Heap → Prop) → Prop) (c_law3_numbered : Sl → Heap → (Sl → Heap → Prop) → Prop) (c_deque_Play : Int → Int → Sl → Int → Sl → Heap → ((Den kapiDequeRun × (Int × Unit)) → Heap → Prop) → Prop) (c_law3_alive : Den kapiDequeRun → Sl → Int → Sl → Heap → (Bool → Heap → Prop) → Prop) (first1 : Int) (most2 : Int) (todos3 : Sl) (thieves4 : Int) (picks5 : Sl) (h6 : Heap) (Q : Bool → Heap → Prop) : Prop :=
    c_law3_fair first1 most2 todos3 thieves4 picks5 h6 fun r7 h8 =>
    (((!r7) = true →
    Q true h8) ∧
    ((!r7) = false →
    c_law3_numbered todos3 h8 fun r9 h10 =>
    c_deque_Play first1 most2 r9 thieves4 picks5 h10 fun r11 h12 =>
    (((decide (r11.2.1 ≠ 0)) = true →
    law3_DequeOnce.j16 todos3 Q r9 r11 (true, ()) h12) ∧
    ((decide (r11.2.1 ≠ 0)) = false →
    c_law3_alive (r11.1.1, (r11.1.2.1, (r11.1.2.2.1, ()))) r9 thieves4 picks5 h12 fun r77 h78 =>
    law3_DequeOnce.j16 todos3 Q r9 r11 ((!r77), ()) h78))))
def law3_DequeOnce.mk : Mk := (.s .d (.s (.s .d (.c (.s .d .d) .d)) (.s .d (.s (.r [9]) (.j [] (.j [.slot 53 .bool] .d (.c (.s .d .d) .d)) (.s .d (.s .d (.s .d (.s .d (.s (.s .d (.b (.l [.slot 16 (.int .i64), .slot 17 (.int .i64), .slot 18 (.int .i64)] (.s (.s .d (.c .d .d)) (.j [.slot 16 (.int .i64), .slot 17 (.int .i64)] (.b (.s (.r [5]) (.j [.slot 16 (.int .i64)] (.j [.slot 79 .bool] .d (.c (.s .d .d) .d)) (.j [.slot 96 .bool] .d (.c .d .d))))) .d))))) (.s .d (.s (.s .d (.b (.l [.slot 20 (.int .i64), .slot 21 (.int .i64)] (.s (.s .d (.c .d .d)) (.j [.slot 20 (.int .i64)] (.b (.s (.r [5]) (.s (.s .d (.c (.s (.s .d (.c (.s .d .d) .d)) .d) .d)) (.j [] (.j [.slot 147 .bool] (.q [] [] [.p 0, .w 1 [1, 2, 3, 4, 5, 6, 7, 8, 9, 10, 11, 12, 13, 14, 15, 16, 17, 18, 19, 20, 21, 22, 23, 24, 25, 26, 27, 28, 29, 30, 31, 32], .p 2, .p 3, .p 4, .w 5 [5, 6, 7, 8, 9, 10, 11, 12, 13, 14, 15, 16, 17, 18, 19, 20, 21, 22, 23, 24, 25, 26, 27, 28, 29, 30, 31, 32], .p 6, .p 7, .p 8, .p 9, .p 11, .p 12, .w 10 [10, 13, 14, 15, 16, 17, 18, 19, 20, 21, 22, 23, 24, 25, 26, 27, 28, 29, 30, 31, 32], .p 13, .p 14, .p 15, .p 16, .p 17, .w 18 [18, 19, 20, 21, 22, 23, 24, 25, 26, 27, 28, 29, 30, 31, 32], .p 19, .w 20 [20, 21, 22, 23, 24, 25, 26, 27, 28, 29, 30, 31, 32], .p 21, .p 22, .p 23, .p 24, .p 25, .p 29, .w 26 [26, 27, 28, 31, 32], .p 27, .w 28 [28, 31, 32], .w 30 [30, 31, 32], .p 31, .p 32]) (.c (.s .d .d) .d)) (.s .d .d))))) .d))))) (.s (.s .d (.b (.l [.slot 20 (.int .i64), .slot 23 (.int .i64)] (.s (.s .d (.c .d .d)) (.j [.slot 20 (.int .i64)] (.b (.s .d (.j [] (.j [.slot 183 .bool] .d (.c (.s .d .d) .d)) (.s .d .d)))) .d))))) (.s (.s .d (.b (.l [.slot 25 (.int .i64)] (.s (.s .d (.c .d .d)) (.s (.b (.s .d (.c (.s .d .d) .d))) .d))))) (.s .d .d)))))))))))))))

def law3_DequeOld.j1 (go19 : (Int × Unit) → Heap → Prop) (s17 : (Int × Unit)) (s20 : Unit) (h21 : Heap) : Prop :=
    go19 ((w64 (s17.1 + 1)), ()) h21
def law3_DequeOld.j2 (s15 : Sl) (go19 : (Int × Unit) → Heap → Prop) (s17 : (Int × Unit)) (t23 : Den kapiCall) (s24 : (Bool × Unit)) (h25 : Heap) : Prop :=
    ((s24.1 = true →
    (0 ≤ t23.2.2.2.2.1 ∧ t23.2.2.2.2.1 < (s15.len : Int)) ∧
    deref s15.a fun a26 =>
    st ((.int .i64) : Kd) h25 (a26.add ((t23.2.2.2.2.1 : Int).toNat * 1)) (w64 (t23.2.2.2.2.2.2.1 + 1)) fun h27 =>
    law3_DequeOld.j1 go19 s17 () h27) ∧
    (s24.1 = false →
    law3_DequeOld.j1 go19 s17 () h25))
def law3_DequeOld.j3 (go30 : Den kapiTodo → Heap → Prop) (s28 : Den kapiTodo) (s31 : (Int × Unit)) (h32 : Heap) : Prop :=
    go30 (s31.1, (w64 (s28.2.1 + 1)), ()) h32
def law3_DequeOld.l4 (Q : Bool → Heap → Prop) (r11 : (Den kapiDequeRun × (Int × Unit))) (go41 : Den kapiTodo → Heap → Prop) (s39 : Den kapiTodo) (h40 : Heap) : Prop :=
    (((decide (s39.2.1 < (r11.1.2.1.len : Int))) = true →
    (0 ≤ s39.2.1 ∧ s39.2.1 < (r11.1.2.1.len : Int)) ∧
    deref r11.1.2.1.a fun a42 =>
    ld ((.int .i64) : Kd) h40 (a42.add ((s39.2.1 : Int).toNat * 1)) fun t43 =>
    (((decide ((w64 (t43 + 1)) ≤ s39.1)) = true →
    Q false h40) ∧
    ((decide ((w64 (t43 + 1)) ≤ s39.1)) = false →
    (0 ≤ s39.2.1 ∧ s39.2.1 < (r11.1.2.1.len : Int)) ∧
    deref r11.1.2.1.a fun a44 =>
    ld ((.int .i64) : Kd) h40 (a44.add ((s39.2.1 : Int).toNat * 1)) fun t45 =>
    go41 ((w64 (t45 + 1)), (w64 (s39.2.1 + 1)), ()) h40))) ∧
    ((decide (s39.2.1 < (r11.1.2.1.len : Int))) = false →
    Q true h40))
def law3_DequeOld.l5 (picks5 : Sl) (Q : Bool → Heap → Prop) (r11 : (Den kapiDequeRun × (Int × Unit))) (s15 : Sl) (go30 : Den kapiTodo → Heap → Prop) (s28 : Den kapiTodo) (h29 : Heap) : Prop :=
    (((decide (s28.2.1 < (picks5.len : Int))) = true →
    (0 ≤ s28.2.1 ∧ s28.2.1 < (s15.len : Int)) ∧
    deref s15.a fun a33 =>
    ld ((.int .i64) : Kd) h29 (a33.add ((s28.2.1 : Int).toNat * 1)) fun t34 =>
    (((decide (t34 = 0)) = true →
    law3_DequeOld.j3 go30 s28 (s28.1, ()) h29) ∧
    ((decide (t34 = 0)) = false →
    (0 ≤ s28.2.1 ∧ s28.2.1 < (s15.len : Int)) ∧
    deref s15.a fun a35 =>
    ld ((.int .i64) : Kd) h29 (a35.add ((s28.2.1 : Int).toNat * 1)) fun t36 =>
    (((decide (t36 ≤ s28.1)) = true →
    Q false h29) ∧
    ((decide (t36 ≤ s28.1)) = false →
    (0 ≤ s28.2.1 ∧ s28.2.1 < (s15.len : Int)) ∧
    deref s15.a fun a37 =>
    ld ((.int .i64) : Kd) h29 (a37.add ((s28.2.1 : Int).toNat * 1)) fun t38 =>
    law3_DequeOld.j3 go30 s28 (t38, ()) h29))))) ∧
    ((decide (s28.2.1 < (picks5.len : Int))) = false →
    Loop (law3_DequeOld.l4 Q r11) (s28.1, 0, ()) h29))
def law3_DequeOld.l6 (picks5 : Sl) (Q : Bool → Heap → Prop) (r11 : (Den kapiDequeRun × (Int × Unit))) (s15 : Sl) (go19 : (Int × Unit) → Heap → Prop) (s17 : (Int × Unit)) (h18 : Heap) : Prop :=
    (((decide (s17.1 < (r11.1.1.len : Int))) = true →
    (0 ≤ s17.1 ∧ s17.1 < (r11.1.1.len : Int)) ∧
    deref r11.1.1.a fun a22 =>
    ld kapiCall h18 (a22.add ((s17.1 : Int).toNat * 7)) fun t23 =>
    (((decide ((0 : Int) < t23.1)) = true →
    law3_DequeOld.j2 s15 go19 s17 t23 ((decide (t23.2.2.2.2.2.1 = 4)), ()) h18) ∧
    ((decide ((0 : Int) < t23.1)) = false →
    law3_DequeOld.j2 s15 go19 s17 t23 (false, ()) h18))) ∧
    ((decide (s17.1 < (r11.1.1.len : Int))) = false →
    Loop (law3_DequeOld.l5 picks5 Q r11 s15) (0, 0, ()) h18))
def law3_DequeOld.j7 (picks5 : Sl) (Q : Bool → Heap → Prop) (r11 : (Den kapiDequeRun × (Int × Unit))) (s13 : Unit) (h14 : Heap) : Prop :=
    makeM ((.int .i64) : Kd) 8 h14 (picks5.len : Int) (picks5.len : Int) fun s15 h16 =>
    Loop (law3_DequeOld.l6 picks5 Q r11 s15) (0, ()) h16
def law3_DequeOld.j8 (picks5 : Sl) (Q : Bool → Heap → Prop) (r11 : (Den kapiDequeRun × (Int × Unit))) (s46 : (Bool × Unit)) (h47 : Heap) : Prop :=
    ((s46.1 = true →
    Q false h47) ∧
    (s46.1 = false →
    law3_DequeOld.j7 picks5 Q r11 () h47))
def law3_DequeOld.M (c_law3_fair : Int → Int → Sl → Int → Sl → Heap → (Bool → Heap → Prop) → Prop) (c_law3_numbered : Sl → Heap → (Sl → Heap → Prop) → Prop) (c_deque_Play : Int → Int → Sl → Int → Sl → Heap → ((Den kapiDequeRun × (Int × Unit)) → Heap → Prop) → Prop) (c_law3_alive : Den kapiDequeRun → Sl → Int → Sl → Heap → (Bool → Heap → Prop) → Prop) (first1 : Int) (most2 : Int) (todos3 : Sl) (thieves4 : Int) (picks5 : Sl) (h6 : Heap) (Q : Bool → Heap → Prop) : Prop :=
    c_law3_fair first1 most2 todos3 thieves4 picks5 h6 fun r7 h8 =>
    (((!r7) = true →
    Q true h8) ∧
    ((!r7) = false →
    c_law3_numbered todos3 h8 fun r9 h10 =>
    c_deque_Play first1 most2 r9 thieves4 picks5 h10 fun r11 h12 =>
    (((decide (r11.2.1 ≠ 0)) = true →
    law3_DequeOld.j8 picks5 Q r11 (true, ()) h12) ∧
    ((decide (r11.2.1 ≠ 0)) = false →
    c_law3_alive (r11.1.1, (r11.1.2.1, (r11.1.2.2.1, ()))) r9 thieves4 picks5 h12 fun r48 h49 =>
    law3_DequeOld.j8 picks5 Q r11 ((!r48), ()) h49))))
def law3_DequeOld.mk : Mk := (.s .d (.s (.s .d (.c (.s .d .d) .d)) (.s .d (.s (.r [9]) (.j [] (.j [.slot 47 .bool] .d (.c (.s .d .d) .d)) (.s .d (.s (.s .d (.b (.l [.slot 15 (.int .i64)] (.s (.s .d (.c .d .d)) (.j [] (.b (.s (.r [5]) (.j [.slot 70 .bool] .d (.c .d .d)))) .d))))) (.s .d (.s (.s .d (.b (.l [.slot 17 (.int .i64), .slot 18 (.int .i64)] (.s (.s .d (.c .d .d)) (.j [.slot 17 (.int .i64)] (.b (.s (.s .d (.c .d .d)) (.s (.s .d (.c (.s .d .d) .d)) .d))) .d))))) (.s (.s .d (.b (.l [.slot 17 (.int .i64), .slot 19 (.int .i64)] (.s (.s .d (.c .d .d)) (.s (.b (.s (.s .d (.c (.s .d .d) .d)) .d)) .d))))) (.s .d .d)))))))))))

def law3_DequeBounds.j1 (go17 : Den kapiTodo → Heap → Prop) (s15 : Den kapiTodo) (s18 : (Int × Unit)) (h19 : Heap) : Prop :=
    go17 (s18.1, (w64 (s15.2.1 + 1)), ()) h19
def law3_DequeBounds.j2 (Q : Bool → Heap → Prop) (go17 : Den kapiTodo → Heap → Prop) (s15 : Den kapiTodo) (s22 : (Bool × Unit)) (h23 : Heap) : Prop :=
    ((s22.1 = true →
    Q false h23) ∧
    (s22.1 = false →
    law3_DequeBounds.j1 go17 s15 ((w64 (s15.1 + 1)), ()) h23))
def law3_DequeBounds.j3 (go36 : (Int × Den kapiTodo) → Heap → Prop) (s34 : (Int × Den kapiTodo)) (s37 : Den kapiTodo) (h38 : Heap) : Prop :=
    go36 (s37.1, s37.2.1, (w64 (s34.2.2.1 + 1)), ()) h38
def law3_DequeBounds.j4 (Q : Bool → Heap → Prop) (go36 : (Int × Den kapiTodo) → Heap → Prop) (s34 : (Int × Den kapiTodo)) (s43 : Den kapiTodo) (s45 : (Bool × Unit)) (h46 : Heap) : Prop :=
    ((s45.1 = true →
    Q false h46) ∧
    (s45.1 = false →
    law3_DequeBounds.j3 go36 s34 (s43.1, s43.2.1, ()) h46))
def law3_DequeBounds.j5 (most2 : Int) (Q : Bool → Heap → Prop) (go36 : (Int × Den kapiTodo) → Heap → Prop) (s34 : (Int × Den kapiTodo)) (t40 : Den kapiCall) (r41 : Int) (s43 : Den kapiTodo) (h44 : Heap) : Prop :=
    (((decide (t40.2.1 = 1)) = true →
    (((decide ((8 : Int) < r41)) = true →
    law3_DequeBounds.j4 Q go36 s34 s43 (true, ()) h44) ∧
    ((decide ((8 : Int) < r41)) = false →
    (((decide (t40.2.1 = 2)) = true →
    (((decide ((6 : Int) < r41)) = true →
    law3_DequeBounds.j4 Q go36 s34 s43 (true, ()) h44) ∧
    ((decide ((6 : Int) < r41)) = false →
    (((decide (t40.2.1 = 0)) = true →
    law3_DequeBounds.j4 Q go36 s34 s43 ((decide ((w64 (9 + (w64 (2 * most2)))) < r41)), ()) h44) ∧
    ((decide (t40.2.1 = 0)) = false →
    law3_DequeBounds.j4 Q go36 s34 s43 (false, ()) h44))))) ∧
    ((decide (t40.2.1 = 2)) = false →
    (((decide (t40.2.1 = 0)) = true →
    law3_DequeBounds.j4 Q go36 s34 s43 ((decide ((w64 (9 + (w64 (2 * most2)))) < r41)), ()) h44) ∧
    ((decide (t40.2.1 = 0)) = false →
    law3_DequeBounds.j4 Q go36 s34 s43 (false, ()) h44))))))) ∧
    ((decide (t40.2.1 = 1)) = false →
    (((decide (t40.2.1 = 2)) = true →
    (((decide ((6 : Int) < r41)) = true →
    law3_DequeBounds.j4 Q go36 s34 s43 (true, ()) h44) ∧
    ((decide ((6 : Int) < r41)) = false →
    (((decide (t40.2.1 = 0)) = true →
    law3_DequeBounds.j4 Q go36 s34 s43 ((decide ((w64 (9 + (w64 (2 * most2)))) < r41)), ()) h44) ∧
    ((decide (t40.2.1 = 0)) = false →
    law3_DequeBounds.j4 Q go36 s34 s43 (false, ()) h44))))) ∧
    ((decide (t40.2.1 = 2)) = false →
    (((decide (t40.2.1 = 0)) = true →
    law3_DequeBounds.j4 Q go36 s34 s43 ((decide ((w64 (9 + (w64 (2 * most2)))) < r41)), ()) h44) ∧
    ((decide (t40.2.1 = 0)) = false →
    law3_DequeBounds.j4 Q go36 s34 s43 (false, ()) h44))))))
def law3_DequeBounds.l6 (c_law3_own : Sl → Int → Int → Int → Int → Heap → (Int → Heap → Prop) → Prop) (most2 : Int) (thieves4 : Int) (picks5 : Sl) (Q : Bool → Heap → Prop) (r9 : (Den kapiDequeRun × (Int × Unit))) (go36 : (Int × Den kapiTodo) → Heap → Prop) (s34 : (Int × Den kapiTodo)) (h35 : Heap) : Prop :=
    (((decide (s34.2.2.1 < (r9.1.1.len : Int))) = true →
    (0 ≤ s34.2.2.1 ∧ s34.2.2.1 < (r9.1.1.len : Int)) ∧
    deref r9.1.1.a fun a39 =>
    ld kapiCall h35 (a39.add ((s34.2.2.1 : Int).toNat * 7)) fun t40 =>
    c_law3_own picks5 thieves4 t40.1 t40.2.2.2.1 t40.2.2.2.2.1 h35 fun r41 h42 =>
    (((decide (t40.1 = 0)) = true →
    law3_DequeBounds.j5 most2 Q go36 s34 t40 r41 ((w64 (s34.1 + 1)), (w64 (s34.2.1 + r41)), ()) h42) ∧
    ((decide (t40.1 = 0)) = false →
    law3_DequeBounds.j5 most2 Q go36 s34 t40 r41 (s34.1, s34.2.1, ()) h42))) ∧
    ((decide (s34.2.2.1 < (r9.1.1.len : Int))) = false →
    Q (decide (s34.2.1 ≤ (w64 (15 * s34.1)))) h35))
def law3_DequeBounds.l7 (c_law3_mod : Int → Int → Heap → (Int → Heap → Prop) → Prop) (c_law3_own : Sl → Int → Int → Int → Int → Heap → (Int → Heap → Prop) → Prop) (most2 : Int) (thieves4 : Int) (picks5 : Sl) (Q : Bool → Heap → Prop) (r9 : (Den kapiDequeRun × (Int × Unit))) (r13 : Sl) (go17 : Den kapiTodo → Heap → Prop) (s15 : Den kapiTodo) (h16 : Heap) : Prop :=
    (((decide (s15.2.1 < (picks5.len : Int))) = true →
    (0 ≤ s15.2.1 ∧ s15.2.1 < (r13.len : Int)) ∧
    deref r13.a fun a20 =>
    ld ((.int .i64) : Kd) h16 (a20.add ((s15.2.1 : Int).toNat * 1)) fun t21 =>
    (((decide (t21 < 0)) = true →
    law3_DequeBounds.j1 go17 s15 (s15.1, ()) h16) ∧
    ((decide (t21 < 0)) = false →
    (0 ≤ s15.2.1 ∧ s15.2.1 < (r13.len : Int)) ∧
    deref r13.a fun a24 =>
    ld ((.int .i64) : Kd) h16 (a24.add ((s15.2.1 : Int).toNat * 1)) fun t25 =>
    (((decide ((r9.1.2.2.1.len : Int) ≤ t25)) = true →
    law3_DequeBounds.j2 Q go17 s15 (true, ()) h16) ∧
    ((decide ((r9.1.2.2.1.len : Int) ≤ t25)) = false →
    (0 ≤ s15.2.1 ∧ s15.2.1 < (r13.len : Int)) ∧
    deref r13.a fun a26 =>
    (0 ≤ s15.2.1 ∧ s15.2.1 < (picks5.len : Int)) ∧
    deref picks5.a fun a27 =>
    ld ((.int .i64) : Kd) h16 (a26.add ((s15.2.1 : Int).toNat * 1)) fun t28 =>
    (0 ≤ t28 ∧ t28 < (r9.1.2.2.1.len : Int)) ∧
    deref r9.1.2.2.1.a fun a29 =>
    ld ((.int .i64) : Kd) h16 ((a29.add ((t28 : Int).toNat * 6)).add 0) fun t30 =>
    ld ((.int .i64) : Kd) h16 (a27.add ((s15.2.1 : Int).toNat * 1)) fun t31 =>
    c_law3_mod t31 (w64 (1 + thieves4)) h16 fun r32 h33 =>
    sees h33 (some ((a29.add ((t28 : Int).toNat * 6)).add 0)) ((.int .i64) : Kd) t30 ∧
    sees h33 (some (a26.add ((s15.2.1 : Int).toNat * 1))) ((.int .i64) : Kd) t28 ∧
    law3_DequeBounds.j2 Q go17 s15 ((decide (t30 ≠ r32)), ()) h33))))) ∧
    ((decide (s15.2.1 < (picks5.len : Int))) = false →
    (((decide (s15.1 ≠ (r9.1.2.2.1.len : Int))) = true →
    Q false h16) ∧
    ((decide (s15.1 ≠ (r9.1.2.2.1.len : Int))) = false →
    Loop (law3_DequeBounds.l6 c_law3_own most2 thieves4 picks5 Q r9) (0, 0, 0, ()) h16))))
def law3_DequeBounds.j8 (c_law3_seat : Den kapiDequeRun → Int → Sl → Heap → (Sl → Heap → Prop) → Prop) (c_law3_mod : Int → Int → Heap → (Int → Heap → Prop) → Prop) (c_law3_own : Sl → Int → Int → Int → Int → Heap → (Int → Heap → Prop) → Prop) (most2 : Int) (thieves4 : Int) (picks5 : Sl) (Q : Bool → Heap → Prop) (r9 : (Den kapiDequeRun × (Int × Unit))) (s11 : Unit) (h12 : Heap) : Prop :=
    c_law3_seat (r9.1.1, (r9.1.2.1, (r9.1.2.2.1, ()))) thieves4 picks5 h12 fun r13 h14 =>
    Loop (law3_DequeBounds.l7 c_law3_mod c_law3_own most2 thieves4 picks5 Q r9 r13) (0, 0, ()) h14
def law3_DequeBounds.j9 (c_law3_seat : Den kapiDequeRun → Int → Sl → Heap → (Sl → Heap → Prop) → Prop) (c_law3_mod : Int → Int → Heap → (Int → Heap → Prop) → Prop) (c_law3_own : Sl → Int → Int → Int → Int → Heap → (Int → Heap → Prop) → Prop) (most2 : Int) (thieves4 : Int) (picks5 : Sl) (Q : Bool → Heap → Prop) (r9 : (Den kapiDequeRun × (Int × Unit))) (s47 : (Bool × Unit)) (h48 : Heap) : Prop :=
    ((s47.1 = true →
    Q false h48) ∧
    (s47.1 = false →
    law3_DequeBounds.j8 c_law3_seat c_law3_mod c_law3_own most2 thieves4 picks5 Q r9 () h48))
def law3_DequeBounds.M (c_law3_fair : Int → Int → Sl → Int → Sl → Heap → (Bool → Heap → Prop) → Prop) (c_deque_Play : Int → Int → Sl → Int → Sl → Heap → ((Den kapiDequeRun × (Int × Unit)) → Heap → Prop) → Prop) (c_law3_alive : Den kapiDequeRun → Sl → Int → Sl → Heap → (Bool → Heap → Prop) → Prop) (c_law3_seat : Den kapiDequeRun → Int → Sl → Heap → (Sl → Heap → Prop) → Prop) (c_law3_mod : Int → Int → Heap → (Int → Heap → Prop) → Prop) (c_law3_own : Sl → Int → Int → Int → Int → Heap → (Int → Heap → Prop) → Prop) (first1 : Int) (most2 : Int) (todos3 : Sl) (thieves4 : Int) (picks5 : Sl) (h6 : Heap) (Q : Bool → Heap → Prop) : Prop :=
    c_law3_fair first1 most2 todos3 thieves4 picks5 h6 fun r7 h8 =>
    (((!r7) = true →
    Q true h8) ∧
    ((!r7) = false →
    c_deque_Play first1 most2 todos3 thieves4 picks5 h8 fun r9 h10 =>
    (((decide (r9.2.1 ≠ 0)) = true →
    law3_DequeBounds.j9 c_law3_seat c_law3_mod c_law3_own most2 thieves4 picks5 Q r9 (true, ()) h10) ∧
    ((decide (r9.2.1 ≠ 0)) = false →
    c_law3_alive (r9.1.1, (r9.1.2.1, (r9.1.2.2.1, ()))) todos3 thieves4 picks5 h10 fun r49 h50 =>
    law3_DequeBounds.j9 c_law3_seat c_law3_mod c_law3_own most2 thieves4 picks5 Q r9 ((!r49), ()) h50))))
def law3_DequeBounds.mk : Mk := (.s .d (.s (.s .d (.c (.s .d .d) .d)) (.s (.r [9]) (.j [] (.j [.slot 46 .bool] .d (.c (.s .d .d) .d)) (.s .d (.s .d (.s (.s .d (.b (.l [.slot 14 (.int .i64), .slot 15 (.int .i64)] (.s (.s .d (.c .d .d)) (.j [.slot 14 (.int .i64)] (.b (.s (.s .d (.c .d .d)) (.s .d (.j [.slot 90 .bool] (.q [] [] [.p 0, .p 1, .p 2, .p 4, .w 3 [3, 7, 8, 9, 10, 11, 12, 13, 14, 15, 16, 17, 18, 19, 20, 21, 22, 23, 24, 25, 26], .w 5 [5, 6, 7, 8, 9, 10, 11, 12, 13, 14, 15, 16, 17, 18, 19, 20, 21, 22, 23, 24, 25, 26], .p 6, .p 7, .p 8, .p 9, .p 11, .p 12, .p 13, .p 18, .p 19, .p 20, .p 22, .p 23, .w 10 [10, 15, 16, 17, 25, 26], .w 14 [14, 15, 16, 17, 25, 26], .p 15, .p 16, .w 17 [17, 25, 26], .w 21 [21, 24, 25, 26], .o 24, .p 25, .p 26]) (.c (.s .d .d) .d))))) .d))))) (.s (.s .d (.c (.s .d .d) .d)) (.s .d (.s .d (.s (.s .d (.b (.l [.slot 16 (.int .i64), .slot 17 (.int .i64), .slot 18 (.int .i64)] (.s (.s .d (.c .d .d)) (.j [.slot 16 (.int .i64), .slot 17 (.int .i64)] (.b (.s (.r [5]) (.s .d (.j [.slot 16 (.int .i64), .slot 17 (.int .i64)] (.s .d (.c (.s .d .d) .d)) (.j [.slot 152 .bool] .d (.c (.s .d .d) .d)))))) .d))))) (.s .d .d))))))))))))

def law3_DequeWhy.j1 (go24 : (Int × Unit) → Heap → Prop) (s22 : (Int × Unit)) (s25 : Unit) (h26 : Heap) : Prop :=
    go24 ((w64 (s22.1 + 1)), ()) h26
def law3_DequeWhy.j2 (Q : Bool → Heap → Prop) (go24 : (Int × Unit) → Heap → Prop) (s22 : (Int × Unit)) (s29 : (Bool × Unit)) (h30 : Heap) : Prop :=
    ((s29.1 = true →
    Q false h30) ∧
    (s29.1 = false →
    law3_DequeWhy.j1 go24 s22 () h30))
def law3_DequeWhy.l3 (c_law3_why : Den kapiCall → Int → Sl → Sl → Sl → Sl → Int → Sl → Heap → (Bool → Heap → Prop) → Prop) (most2 : Int) (thieves4 : Int) (picks5 : Sl) (Q : Bool → Heap → Prop) (r9 : (Den kapiDequeRun × (Int × Unit))) (r13 : Sl) (r20 : (Sl × (Sl × Unit))) (go24 : (Int × Unit) → Heap → Prop) (s22 : (Int × Unit)) (h23 : Heap) : Prop :=
    (((decide (s22.1 < (r9.1.1.len : Int))) = true →
    (0 ≤ s22.1 ∧ s22.1 < (r9.1.1.len : Int)) ∧
    deref r9.1.1.a fun a27 =>
    ld kapiCall h23 (a27.add ((s22.1 : Int).toNat * 7)) fun t28 =>
    (((decide ((0 : Int) ≤ t28.2.2.2.2.1)) = true →
    c_law3_why (t28.1, (t28.2.1, (t28.2.2.1, (t28.2.2.2.1, (t28.2.2.2.2.1, (t28.2.2.2.2.2.1, (t28.2.2.2.2.2.2.1, ()))))))) most2 r9.1.2.2.1 r20.1 r20.2.1 r13 thieves4 picks5 h23 fun r31 h32 =>
    law3_DequeWhy.j2 Q go24 s22 ((!r31), ()) h32) ∧
    ((decide ((0 : Int) ≤ t28.2.2.2.2.1)) = false →
    law3_DequeWhy.j2 Q go24 s22 (false, ()) h23))) ∧
    ((decide (s22.1 < (r9.1.1.len : Int))) = false →
    Q true h23))
def law3_DequeWhy.l4 (c_law3_tops : Sl → Heap → ((Sl × (Sl × Unit)) → Heap → Prop) → Prop) (c_law3_why : Den kapiCall → Int → Sl → Sl → Sl → Sl → Int → Sl → Heap → (Bool → Heap → Prop) → Prop) (most2 : Int) (thieves4 : Int) (picks5 : Sl) (Q : Bool → Heap → Prop) (r9 : (Den kapiDequeRun × (Int × Unit))) (r13 : Sl) (go17 : (Int × Unit) → Heap → Prop) (s15 : (Int × Unit)) (h16 : Heap) : Prop :=
    (((decide (s15.1 < (r13.len : Int))) = true →
    (0 ≤ s15.1 ∧ s15.1 < (r13.len : Int)) ∧
    deref r13.a fun a18 =>
    ld ((.int .i64) : Kd) h16 (a18.add ((s15.1 : Int).toNat * 1)) fun t19 =>
    (((decide ((r9.1.2.2.1.len : Int) ≤ t19)) = true →
    Q false h16) ∧
    ((decide ((r9.1.2.2.1.len : Int) ≤ t19)) = false →
    go17 ((w64 (s15.1 + 1)), ()) h16))) ∧
    ((decide (s15.1 < (r13.len : Int))) = false →
    c_law3_tops r9.1.2.2.1 h16 fun r20 h21 =>
    Loop (law3_DequeWhy.l3 c_law3_why most2 thieves4 picks5 Q r9 r13 r20) (0, ()) h21))
def law3_DequeWhy.j5 (c_law3_seat : Den kapiDequeRun → Int → Sl → Heap → (Sl → Heap → Prop) → Prop) (c_law3_tops : Sl → Heap → ((Sl × (Sl × Unit)) → Heap → Prop) → Prop) (c_law3_why : Den kapiCall → Int → Sl → Sl → Sl → Sl → Int → Sl → Heap → (Bool → Heap → Prop) → Prop) (most2 : Int) (thieves4 : Int) (picks5 : Sl) (Q : Bool → Heap → Prop) (r9 : (Den kapiDequeRun × (Int × Unit))) (s11 : Unit) (h12 : Heap) : Prop :=
    c_law3_seat (r9.1.1, (r9.1.2.1, (r9.1.2.2.1, ()))) thieves4 picks5 h12 fun r13 h14 =>
    Loop (law3_DequeWhy.l4 c_law3_tops c_law3_why most2 thieves4 picks5 Q r9 r13) (0, ()) h14
def law3_DequeWhy.j6 (c_law3_seat : Den kapiDequeRun → Int → Sl → Heap → (Sl → Heap → Prop) → Prop) (c_law3_tops : Sl → Heap → ((Sl × (Sl × Unit)) → Heap → Prop) → Prop) (c_law3_why : Den kapiCall → Int → Sl → Sl → Sl → Sl → Int → Sl → Heap → (Bool → Heap → Prop) → Prop) (most2 : Int) (thieves4 : Int) (picks5 : Sl) (Q : Bool → Heap → Prop) (r9 : (Den kapiDequeRun × (Int × Unit))) (s33 : (Bool × Unit)) (h34 : Heap) : Prop :=
    ((s33.1 = true →
    Q false h34) ∧
    (s33.1 = false →
    law3_DequeWhy.j5 c_law3_seat c_law3_tops c_law3_why most2 thieves4 picks5 Q r9 () h34))
def law3_DequeWhy.M (c_law3_fair : Int → Int → Sl → Int → Sl → Heap → (Bool → Heap → Prop) → Prop) (c_deque_Play : Int → Int → Sl → Int → Sl → Heap → ((Den kapiDequeRun × (Int × Unit)) → Heap → Prop) → Prop) (c_law3_alive : Den kapiDequeRun → Sl → Int → Sl → Heap → (Bool → Heap → Prop) → Prop) (c_law3_seat : Den kapiDequeRun → Int → Sl → Heap → (Sl → Heap → Prop) → Prop) (c_law3_tops : Sl → Heap → ((Sl × (Sl × Unit)) → Heap → Prop) → Prop) (c_law3_why : Den kapiCall → Int → Sl → Sl → Sl → Sl → Int → Sl → Heap → (Bool → Heap → Prop) → Prop) (first1 : Int) (most2 : Int) (todos3 : Sl) (thieves4 : Int) (picks5 : Sl) (h6 : Heap) (Q : Bool → Heap → Prop) : Prop :=
    c_law3_fair first1 most2 todos3 thieves4 picks5 h6 fun r7 h8 =>
    (((!r7) = true →
    Q true h8) ∧
    ((!r7) = false →
    c_deque_Play first1 most2 todos3 thieves4 picks5 h8 fun r9 h10 =>
    (((decide (r9.2.1 ≠ 0)) = true →
    law3_DequeWhy.j6 c_law3_seat c_law3_tops c_law3_why most2 thieves4 picks5 Q r9 (true, ()) h10) ∧
    ((decide (r9.2.1 ≠ 0)) = false →
    c_law3_alive (r9.1.1, (r9.1.2.1, (r9.1.2.2.1, ()))) todos3 thieves4 picks5 h10 fun r35 h36 =>
    law3_DequeWhy.j6 c_law3_seat c_law3_tops c_law3_why most2 thieves4 picks5 Q r9 ((!r35), ()) h36))))
def law3_DequeWhy.mk : Mk := (.s .d (.s (.s .d (.c (.s .d .d) .d)) (.s (.r [9]) (.j [] (.j [.slot 44 .bool] .d (.c (.s .d .d) .d)) (.s .d (.s (.s .d (.b (.l [.slot 14 (.int .i64)] (.s (.s .d (.c .d .d)) (.s (.b (.s (.q [] [] [.p 0, .p 1, .p 2, .p 4, .w 3 [3, 7], .w 5 [5, 6, 7], .p 6, .p 7]) (.c (.s .d .d) .d))) .d))))) (.s .d (.s (.s .d (.b (.l [.slot 17 (.int .i64)] (.s (.s .d (.c .d .d)) (.j [] (.b (.s (.r [5]) (.j [.slot 96 .bool] .d (.c (.s .d .d) .d)))) .d))))) (.s .d .d)))))))))

def law3_DequeRace.j1 (go15 : (Int × (Int × (Int × (Int × (((Fin 4 → Int) × Unit) × Unit))))) → Heap → Prop) (s13 : (Int × (Int × (Int × (Int × (((Fin 4 → Int) × Unit) × Unit)))))) (s16 : (Int × (Int × (Int × (((Fin 4 → Int) × Unit) × Unit))))) (h17 : Heap) : Prop :=
    go15 (s16.1, s16.2.1, s16.2.2.1, (w64 (s13.2.2.2.1 + 1)), (s16.2.2.2.1.1, ()), ()) h17
def law3_DequeRace.j2 (Q : Bool → Heap → Prop) (go15 : (Int × (Int × (Int × (Int × (((Fin 4 → Int) × Unit) × Unit))))) → Heap → Prop) (s13 : (Int × (Int × (Int × (Int × (((Fin 4 → Int) × Unit) × Unit)))))) (s26 : (Bool × Unit)) (h27 : Heap) : Prop :=
    ((s26.1 = true →
    Q false h27) ∧
    (s26.1 = false →
    law3_DequeRace.j1 go15 s13 (s13.1, s13.2.1, s13.2.2.1, (s13.2.2.2.2.1.1, ()), ()) h27))
def law3_DequeRace.j3 (Q : Bool → Heap → Prop) (r9 : (Den kapiDequeRun × (Int × Unit))) (go15 : (Int × (Int × (Int × (Int × (((Fin 4 → Int) × Unit) × Unit))))) → Heap → Prop) (s13 : (Int × (Int × (Int × (Int × (((Fin 4 → Int) × Unit) × Unit)))))) (t19 : Den kapiAccess) (s24 : Unit) (h25 : Heap) : Prop :=
    ((t19.2.2.2.2.2.1 = true →
    (((decide (t19.2.2.2.1 ≠ s13.2.1)) = true →
    Q false h25) ∧
    ((decide (t19.2.2.2.1 ≠ s13.2.1)) = false →
    law3_DequeRace.j1 go15 s13 (s13.2.2.2.1, (w64 (s13.2.1 + 1)), (w64 (s13.2.2.1 + 1)), (s13.2.2.2.2.1.1, ()), ()) h25))) ∧
    (t19.2.2.2.2.2.1 = false →
    (0 ≤ t19.1 ∧ t19.1 < (4 : Int)) ∧
    (((decide (s13.1 < (aget (n := 4) (a := ((.int .i64) : Kd)) s13.2.2.2.2.1.1 (t19.1 : Int).toNat))) = true →
    law3_DequeRace.j2 Q go15 s13 (true, ()) h25) ∧
    ((decide (s13.1 < (aget (n := 4) (a := ((.int .i64) : Kd)) s13.2.2.2.2.1.1 (t19.1 : Int).toNat))) = false →
    (0 ≤ s13.1 ∧ s13.1 < (r9.1.2.2.1.len : Int)) ∧
    deref r9.1.2.2.1.a fun a28 =>
    ld ((.int .i64) : Kd) h25 ((a28.add ((s13.1 : Int).toNat * 6)).add 0) fun t29 =>
    (((decide (t29 = t19.1)) = true →
    law3_DequeRace.j2 Q go15 s13 (true, ()) h25) ∧
    ((decide (t29 = t19.1)) = false →
    law3_DequeRace.j2 Q go15 s13 ((decide (s13.2.1 ≤ t19.2.2.2.1)), ()) h25))))))
def law3_DequeRace.j4 (Q : Bool → Heap → Prop) (r9 : (Den kapiDequeRun × (Int × Unit))) (go15 : (Int × (Int × (Int × (Int × (((Fin 4 → Int) × Unit) × Unit))))) → Heap → Prop) (s13 : (Int × (Int × (Int × (Int × (((Fin 4 → Int) × Unit) × Unit)))))) (t19 : Den kapiAccess) (s30 : (Bool × Unit)) (h31 : Heap) : Prop :=
    ((s30.1 = true →
    Q false h31) ∧
    (s30.1 = false →
    law3_DequeRace.j3 Q r9 go15 s13 t19 () h31))
def law3_DequeRace.j5 (Q : Bool → Heap → Prop) (r9 : (Den kapiDequeRun × (Int × Unit))) (go15 : (Int × (Int × (Int × (Int × (((Fin 4 → Int) × Unit) × Unit))))) → Heap → Prop) (s13 : (Int × (Int × (Int × (Int × (((Fin 4 → Int) × Unit) × Unit)))))) (t19 : Den kapiAccess) (s22 : Unit) (h23 : Heap) : Prop :=
    (((decide (t19.2.1 = 0)) = true →
    (((decide (t19.2.2.2.1 ≠ s13.2.1)) = true →
    Q false h23) ∧
    ((decide (t19.2.2.2.1 ≠ s13.2.1)) = false →
    (0 ≤ t19.1 ∧ t19.1 < (4 : Int)) ∧
    law3_DequeRace.j1 go15 s13 (s13.1, s13.2.1, s13.2.2.1, ((aset (n := 4) (a := ((.int .i64) : Kd)) s13.2.2.2.2.1.1 (t19.1 : Int).toNat s13.2.2.2.1), ()), ()) h23))) ∧
    ((decide (t19.2.1 = 0)) = false →
    (((decide (t19.2.1 ≠ 2)) = true →
    law3_DequeRace.j4 Q r9 go15 s13 t19 (true, ()) h23) ∧
    ((decide (t19.2.1 ≠ 2)) = false →
    law3_DequeRace.j4 Q r9 go15 s13 t19 ((decide (t19.2.2.2.2.1 ≠ (w64 (t19.2.2.2.1 + 1)))), ()) h23))))
def law3_DequeRace.j6 (Q : Bool → Heap → Prop) (r9 : (Den kapiDequeRun × (Int × Unit))) (go15 : (Int × (Int × (Int × (Int × (((Fin 4 → Int) × Unit) × Unit))))) → Heap → Prop) (s13 : (Int × (Int × (Int × (Int × (((Fin 4 → Int) × Unit) × Unit)))))) (t19 : Den kapiAccess) (s32 : (Bool × Unit)) (h33 : Heap) : Prop :=
    ((s32.1 = true →
    law3_DequeRace.j1 go15 s13 (s13.1, s13.2.1, s13.2.2.1, (s13.2.2.2.2.1.1, ()), ()) h33) ∧
    (s32.1 = false →
    law3_DequeRace.j5 Q r9 go15 s13 t19 () h33))
def law3_DequeRace.j7 (Q : Bool → Heap → Prop) (r9 : (Den kapiDequeRun × (Int × Unit))) (go15 : (Int × (Int × (Int × (Int × (((Fin 4 → Int) × Unit) × Unit))))) → Heap → Prop) (s13 : (Int × (Int × (Int × (Int × (((Fin 4 → Int) × Unit) × Unit)))))) (t19 : Den kapiAccess) (s20 : Unit) (h21 : Heap) : Prop :=
    (((decide (t19.2.2.1 ≠ 0)) = true →
    law3_DequeRace.j6 Q r9 go15 s13 t19 (true, ()) h21) ∧
    ((decide (t19.2.2.1 ≠ 0)) = false →
    law3_DequeRace.j6 Q r9 go15 s13 t19 ((decide (t19.2.1 = 4)), ()) h21))
def law3_DequeRace.j8 (Q : Bool → Heap → Prop) (r9 : (Den kapiDequeRun × (Int × Unit))) (go15 : (Int × (Int × (Int × (Int × (((Fin 4 → Int) × Unit) × Unit))))) → Heap → Prop) (s13 : (Int × (Int × (Int × (Int × (((Fin 4 → Int) × Unit) × Unit)))))) (t19 : Den kapiAccess) (s34 : (Bool × Unit)) (h35 : Heap) : Prop :=
    ((s34.1 = true →
    Q false h35) ∧
    (s34.1 = false →
    law3_DequeRace.j7 Q r9 go15 s13 t19 () h35))
def law3_DequeRace.j9 (go38 : Den kapiTodo → Heap → Prop) (s36 : Den kapiTodo) (s39 : (Int × Unit)) (h40 : Heap) : Prop :=
    go38 (s39.1, (w64 (s36.2.1 + 1)), ()) h40
def law3_DequeRace.j10 (go38 : Den kapiTodo → Heap → Prop) (s36 : Den kapiTodo) (s43 : (Bool × Unit)) (h44 : Heap) : Prop :=
    ((s43.1 = true →
    law3_DequeRace.j9 go38 s36 ((w64 (s36.1 - 1)), ()) h44) ∧
    (s43.1 = false →
    law3_DequeRace.j9 go38 s36 (s36.1, ()) h44))
def law3_DequeRace.l11 (Q : Bool → Heap → Prop) (r9 : (Den kapiDequeRun × (Int × Unit))) (go38 : Den kapiTodo → Heap → Prop) (s36 : Den kapiTodo) (h37 : Heap) : Prop :=
    (((decide (s36.2.1 < (r9.1.1.len : Int))) = true →
    (0 ≤ s36.2.1 ∧ s36.2.1 < (r9.1.1.len : Int)) ∧
    deref r9.1.1.a fun a41 =>
    ld kapiCall h37 (a41.add ((s36.2.1 : Int).toNat * 7)) fun t42 =>
    (((decide ((0 : Int) < t42.1)) = true →
    law3_DequeRace.j10 go38 s36 ((decide (t42.2.2.2.2.2.1 = 4)), ()) h37) ∧
    ((decide ((0 : Int) < t42.1)) = false →
    law3_DequeRace.j10 go38 s36 (false, ()) h37))) ∧
    ((decide (s36.2.1 < (r9.1.1.len : Int))) = false →
    Q (decide ((0 : Int) ≤ s36.1)) h37))
def law3_DequeRace.l12 (thieves4 : Int) (Q : Bool → Heap → Prop) (r9 : (Den kapiDequeRun × (Int × Unit))) (go15 : (Int × (Int × (Int × (Int × (((Fin 4 → Int) × Unit) × Unit))))) → Heap → Prop) (s13 : (Int × (Int × (Int × (Int × (((Fin 4 → Int) × Unit) × Unit)))))) (h14 : Heap) : Prop :=
    (((decide (s13.2.2.2.1 < (r9.1.2.2.1.len : Int))) = true →
    (0 ≤ s13.2.2.2.1 ∧ s13.2.2.2.1 < (r9.1.2.2.1.len : Int)) ∧
    deref r9.1.2.2.1.a fun a18 =>
    ld kapiAccess h14 (a18.add ((s13.2.2.2.1 : Int).toNat * 6)) fun t19 =>
    (((decide (t19.1 < 0)) = true →
    law3_DequeRace.j8 Q r9 go15 s13 t19 (true, ()) h14) ∧
    ((decide (t19.1 < 0)) = false →
    law3_DequeRace.j8 Q r9 go15 s13 t19 ((decide (thieves4 < t19.1)), ()) h14))) ∧
    ((decide (s13.2.2.2.1 < (r9.1.2.2.1.len : Int))) = false →
    Loop (law3_DequeRace.l11 Q r9) (s13.2.2.1, 0, ()) h14))
def law3_DequeRace.j13 (thieves4 : Int) (Q : Bool → Heap → Prop) (r9 : (Den kapiDequeRun × (Int × Unit))) (s11 : Unit) (h12 : Heap) : Prop :=
    Loop (law3_DequeRace.l12 thieves4 Q r9) ((-1), 0, 0, 0, ((fun _ => 0), ()), ()) h12
def law3_DequeRace.j14 (thieves4 : Int) (Q : Bool → Heap → Prop) (r9 : (Den kapiDequeRun × (Int × Unit))) (s45 : (Bool × Unit)) (h46 : Heap) : Prop :=
    ((s45.1 = true →
    Q false h46) ∧
    (s45.1 = false →
    law3_DequeRace.j13 thieves4 Q r9 () h46))
def law3_DequeRace.M (c_law3_fair : Int → Int → Sl → Int → Sl → Heap → (Bool → Heap → Prop) → Prop) (c_deque_Play : Int → Int → Sl → Int → Sl → Heap → ((Den kapiDequeRun × (Int × Unit)) → Heap → Prop) → Prop) (c_law3_alive : Den kapiDequeRun → Sl → Int → Sl → Heap → (Bool → Heap → Prop) → Prop) (first1 : Int) (most2 : Int) (todos3 : Sl) (thieves4 : Int) (picks5 : Sl) (h6 : Heap) (Q : Bool → Heap → Prop) : Prop :=
    c_law3_fair first1 most2 todos3 thieves4 picks5 h6 fun r7 h8 =>
    (((!r7) = true →
    Q true h8) ∧
    ((!r7) = false →
    c_deque_Play first1 most2 todos3 thieves4 picks5 h8 fun r9 h10 =>
    (((decide (r9.2.1 ≠ 0)) = true →
    law3_DequeRace.j14 thieves4 Q r9 (true, ()) h10) ∧
    ((decide (r9.2.1 ≠ 0)) = false →
    c_law3_alive (r9.1.1, (r9.1.2.1, (r9.1.2.2.1, ()))) todos3 thieves4 picks5 h10 fun r47 h48 =>
    law3_DequeRace.j14 thieves4 Q r9 ((!r47), ()) h48))))
def law3_DequeRace.mk : Mk := (.s .d (.s (.s .d (.c (.s .d .d) .d)) (.s (.r [9]) (.j [] (.j [.slot 46 .bool] .d (.c (.s .d .d) .d)) (.s (.r [0]) (.s .d (.s .d (.s .d (.s (.s .d (.b (.l [.slot 14 (.int .i64), .slot 15 (.int .i64), .slot 16 (.int .i64), .slot 17 (.int .i64), .box 13 (.pair (.arr 4 (.int .i64)) .nil)] (.s (.s .d (.c .d .d)) (.j [.slot 14 (.int .i64), .slot 15 (.int .i64), .slot 16 (.int .i64), .box 13 (.pair (.arr 4 (.int .i64)) .nil)] (.b (.s (.r [5]) (.j [] (.j [.slot 67 .bool] .d (.c (.s .d .d) .d)) (.j [] (.j [.slot 75 .bool] .d (.c .d .d)) (.s (.s .d (.c (.s (.s .d (.c (.s .d .d) .d)) (.s .d .d)) .d)) (.j [] (.j [.slot 97 .bool] .d (.c (.s .d .d) .d)) (.s .d (.c (.s (.s .d (.c (.s .d .d) .d)) (.s .d (.s .d .d))) (.j [.slot 131 .bool] (.q [] [] [.p 0, .p 1, .w 2 [2, 3, 4, 5, 6, 7, 8, 9, 10, 11, 12, 13, 14, 15, 16, 17, 18, 19, 20, 21, 22], .p 3, .w 4 [4, 5, 6, 7, 8, 9, 10, 11, 12, 13, 14, 15, 16, 17, 18, 19, 20, 21, 22], .p 5, .p 6, .p 7, .p 9, .p 13, .w 8 [8, 10, 11, 12, 15, 16, 17, 18, 19, 20, 21, 22], .p 10, .p 11, .w 12 [12, 15, 16, 17, 18, 19, 20, 21, 22], .w 14 [14, 15, 16, 17, 18, 19, 20, 21, 22], .p 15, .p 16, .p 17, .p 18, .p 20, .w 19 [19, 21, 22], .p 21, .p 22]) (.c (.s .d .d) .d)))))))))) .d))))) (.s (.s .d (.b (.l [.slot 16 (.int .i64), .slot 19 (.int .i64)] (.s (.s .d (.c .d .d)) (.j [.slot 16 (.int .i64)] (.b (.s (.r [5]) (.j [.slot 151 .bool] .d (.c .d .d)))) .d))))) (.s .d .d)))))))))))

def deque_Play.l1 (c_ops_Mod : Int → Int → Heap → (Int → Heap → Prop) → Prop) (c_deque_game_step : Option Addr → Int → Int → Heap → (Unit → Heap → Prop) → Prop) (c_deque_game_rest : Option Addr → Heap → (Sl → Heap → Prop) → Prop) (c_cells_Arena_Log : Option Addr → Heap → (Sl → Heap → Prop) → Prop) (thieves4 : Int) (picks5 : Sl) (Q : (Den kapiDequeRun × (Int × Unit)) → Heap → Prop) (r11 : (Option Addr × (Int × Unit))) (p19 : Addr) (go30 : (Int × Unit) → Heap → Prop) (s28 : (Int × Unit)) (h29 : Heap) : Prop :=
    (((decide (s28.1 < (picks5.len : Int))) = true →
    (0 ≤ s28.1 ∧ s28.1 < (picks5.len : Int)) ∧
    deref picks5.a fun a31 =>
    ld ((.int .i64) : Kd) h29 (a31.add ((s28.1 : Int).toNat * 1)) fun t32 =>
    c_ops_Mod t32 (w64 (1 + thieves4)) h29 fun r33 h34 =>
    c_deque_game_step (some p19) s28.1 r33 h34 fun r35 h36 =>
    go30 ((w64 (s28.1 + 1)), ()) h36) ∧
    ((decide (s28.1 < (picks5.len : Int))) = false →
    ld (.sl : Kd) h29 (p19.add 5) fun t37 =>
    c_deque_game_rest (some p19) h29 fun r38 h39 =>
    sees h39 (some (p19.add 5)) (.sl : Kd) t37 ∧
    c_cells_Arena_Log r11.1 h39 fun r40 h41 =>
    sees h41 (some (p19.add 5)) (.sl : Kd) t37 ∧
    Q ((t37, (r38, (r40, ()))), 0, ()) h41))
def deque_Play.l2 (c_ops_Mod : Int → Int → Heap → (Int → Heap → Prop) → Prop) (c_deque_game_step : Option Addr → Int → Int → Heap → (Unit → Heap → Prop) → Prop) (c_deque_game_rest : Option Addr → Heap → (Sl → Heap → Prop) → Prop) (c_cells_Arena_Log : Option Addr → Heap → (Sl → Heap → Prop) → Prop) (thieves4 : Int) (picks5 : Sl) (Q : (Den kapiDequeRun × (Int × Unit)) → Heap → Prop) (r11 : (Option Addr × (Int × Unit))) (p19 : Addr) (t21 : Sl) (go24 : (Int × Unit) → Heap → Prop) (s22 : (Int × Unit)) (h23 : Heap) : Prop :=
    (((decide (s22.1 < (t21.len : Int))) = true →
    ld (.sl : Kd) h23 (p19.add 4) fun t25 =>
    (0 ≤ s22.1 ∧ s22.1 < (t25.len : Int)) ∧
    deref t25.a fun a26 =>
    st ((.int .i64) : Kd) h23 ((a26.add ((s22.1 : Int).toNat * 17)).add 16) (-1) fun h27 =>
    go24 ((w64 (s22.1 + 1)), ()) h27) ∧
    ((decide (s22.1 < (t21.len : Int))) = false →
    Loop (deque_Play.l1 c_ops_Mod c_deque_game_step c_deque_game_rest c_cells_Arena_Log thieves4 picks5 Q r11 p19) (0, ()) h23))
def deque_Play.M (c_deque_judged : Int → Int → Sl → Int → Sl → Heap → (Int → Heap → Prop) → Prop) (c_deque_Cells : Int → Int → Heap → (Int → Heap → Prop) → Prop) (c_cells_New : Int → Heap → ((Option Addr × (Int × Unit)) → Heap → Prop) → Prop) (c_deque_New : Value → Int → Int → Heap → ((Den kapiTodo × (Int × Unit)) → Heap → Prop) → Prop) (c_cells_Arena_Watch : Option Addr → Bool → Heap → (Unit → Heap → Prop) → Prop) (c_ops_Mod : Int → Int → Heap → (Int → Heap → Prop) → Prop) (c_deque_game_step : Option Addr → Int → Int → Heap → (Unit → Heap → Prop) → Prop) (c_deque_game_rest : Option Addr → Heap → (Sl → Heap → Prop) → Prop) (c_cells_Arena_Log : Option Addr → Heap → (Sl → Heap → Prop) → Prop) (low1 : Int) (most2 : Int) (todos3 : Sl) (thieves4 : Int) (picks5 : Sl) (h6 : Heap) (Q : (Den kapiDequeRun × (Int × Unit)) → Heap → Prop) : Prop :=
    c_deque_judged low1 most2 todos3 thieves4 picks5 h6 fun r7 h8 =>
    (((decide (r7 ≠ 0)) = true →
    Q ((Sl.none, (Sl.none, (Sl.none, ()))), r7, ()) h8) ∧
    ((decide (r7 ≠ 0)) = false →
    c_deque_Cells low1 most2 h8 fun r9 h10 =>
    c_cells_New r9 h10 fun r11 h12 =>
    (((decide (r11.2.1 ≠ 0)) = true →
    Q ((Sl.none, (Sl.none, (Sl.none, ()))), r11.2.1, ()) h12) ∧
    ((decide (r11.2.1 ≠ 0)) = false →
    c_deque_New (Value.iface 54 (Kd.val (.ptr : Kd) r11.1)) low1 most2 h12 fun r13 h14 =>
    (((decide (r13.2.1 ≠ 0)) = true →
    Q ((Sl.none, (Sl.none, (Sl.none, ()))), r13.2.1, ()) h14) ∧
    ((decide (r13.2.1 ≠ 0)) = false →
    c_cells_Arena_Watch r11.1 true h14 fun r15 h16 =>
    makeM kdequeactor 136 h16 (w64 (1 + thieves4)) (w64 (1 + thieves4)) fun s17 h18 =>
    new h18 (kdequegame.cells (r11.1, ((r13.1.1, (r13.1.2.1, ())), (todos3, (s17, (Sl.none, ())))))) fun p19 h20 =>
    ld (.sl : Kd) h20 (p19.add 4) fun t21 =>
    Loop (deque_Play.l2 c_ops_Mod c_deque_game_step c_deque_game_rest c_cells_Arena_Log thieves4 picks5 Q r11 p19 t21) (0, ()) h20))))))
def deque_Play.mk : Mk := (.s (.r [0]) (.s (.s .d (.s .d (.c (.s .d .d) .d))) (.s .d (.s (.s .d (.c (.s .d .d) .d)) (.s (.r [8]) (.s (.s .d (.c (.s .d .d) .d)) (.s .d (.s (.q [] [] [.p 0, .p 2, .p 3, .p 4, .w 1 [1, 6, 7, 8], .o 5, .p 6, .o 7, .p 8]) (.s (.s .d (.b (.l [.slot 68 (.int .i64)] (.s .d (.s (.c .d .d) (.s (.b (.s .d .d)) .d)))))) (.s (.s .d (.b (.l [.slot 81 (.int .i64)] (.s .d (.s (.c .d .d) (.s (.b (.s .d .d)) .d)))))) (.s (.q [] [10] [.p 0, .p 1, .p 2, .p 4, .p 6, .w 3 [3, 8, 9, 10], .o 5, .o 7, .p 8, .o 9, .p 10]) .d)))))))))))

def law3_fair.j1 (go11 : (Int × Unit) → Heap → Prop) (s9 : (Int × Unit)) (s12 : Unit) (h13 : Heap) : Prop :=
    go11 ((w64 (s9.1 + 1)), ()) h13
def law3_fair.j2 (Q : Bool → Heap → Prop) (go11 : (Int × Unit) → Heap → Prop) (s9 : (Int × Unit)) (s14 : (Bool × Unit)) (h15 : Heap) : Prop :=
    ((s14.1 = true →
    Q false h15) ∧
    (s14.1 = false →
    law3_fair.j1 go11 s9 () h15))
def law3_fair.l3 (todos3 : Sl) (Q : Bool → Heap → Prop) (go11 : (Int × Unit) → Heap → Prop) (s9 : (Int × Unit)) (h10 : Heap) : Prop :=
    (((decide (s9.1 < (todos3.len : Int))) = true →
    (0 ≤ s9.1 ∧ s9.1 < (todos3.len : Int)) ∧
    deref todos3.a fun a16 =>
    ld ((.int .i64) : Kd) h10 ((a16.add ((s9.1 : Int).toNat * 2)).add 0) fun t17 =>
    (((decide (t17 ≠ 0)) = true →
    (0 ≤ s9.1 ∧ s9.1 < (todos3.len : Int)) ∧
    deref todos3.a fun a18 =>
    ld ((.int .i64) : Kd) h10 ((a18.add ((s9.1 : Int).toNat * 2)).add 0) fun t19 =>
    law3_fair.j2 Q go11 s9 ((decide (t19 ≠ 1)), ()) h10) ∧
    ((decide (t17 ≠ 0)) = false →
    law3_fair.j2 Q go11 s9 (false, ()) h10))) ∧
    ((decide (s9.1 < (todos3.len : Int))) = false →
    Q true h10))
def law3_fair.j4 (todos3 : Sl) (Q : Bool → Heap → Prop) (s7 : Unit) (h8 : Heap) : Prop :=
    Loop (law3_fair.l3 todos3 Q) (0, ()) h8
def law3_fair.j5 (todos3 : Sl) (Q : Bool → Heap → Prop) (s20 : (Bool × Unit)) (h21 : Heap) : Prop :=
    ((s20.1 = true →
    Q false h21) ∧
    (s20.1 = false →
    law3_fair.j4 todos3 Q () h21))
def law3_fair.M (c_law3_capsOK : Int → Int → Heap → (Bool → Heap → Prop) → Prop) (first1 : Int) (most2 : Int) (todos3 : Sl) (thieves4 : Int) (picks5 : Sl) (h6 : Heap) (Q : Bool → Heap → Prop) : Prop :=
    c_law3_capsOK first1 most2 h6 fun r22 h23 =>
    (((!r22) = true →
    law3_fair.j5 todos3 Q (true, ()) h23) ∧
    ((!r22) = false →
    (((decide (thieves4 < 0)) = true →
    law3_fair.j5 todos3 Q (true, ()) h23) ∧
    ((decide (thieves4 < 0)) = false →
    (((decide ((3 : Int) < thieves4)) = true →
    law3_fair.j5 todos3 Q (true, ()) h23) ∧
    ((decide ((3 : Int) < thieves4)) = false →
    (((decide ((4096 : Int) < (todos3.len : Int))) = true →
    law3_fair.j5 todos3 Q (true, ()) h23) ∧
    ((decide ((4096 : Int) < (todos3.len : Int))) = false →
    law3_fair.j5 todos3 Q ((decide ((1048576 : Int) < (picks5.len : Int))), ()) h23))))))))
def law3_fair.mk : Mk := (.s .d (.j [] (.j [.slot 33 .bool] .d (.c (.s .d .d) .d)) (.s (.s .d (.b (.l [.slot 11 (.int .i64)] (.s (.s .d (.c .d .d)) (.j [] (.b (.j [.slot 53 .bool] .d (.c (.s .d .d) .d))) .d))))) (.s .d .d))))

def law3_numbered.l1 (todos1 : Sl) (Q : Sl → Heap → Prop) (go5 : (Sl × (Int × Unit)) → Heap → Prop) (s3 : (Sl × (Int × Unit))) (h4 : Heap) : Prop :=
    (((decide (s3.2.1 < (todos1.len : Int))) = true →
    (0 ≤ s3.2.1 ∧ s3.2.1 < (todos1.len : Int)) ∧
    deref todos1.a fun a6 =>
    ld ((.int .i64) : Kd) h4 ((a6.add ((s3.2.1 : Int).toNat * 2)).add 0) fun t7 =>
    new h4 (([(t7, (s3.2.1, ()))] : List (Den kapiTodo)).flatMap (Kd.cells kapiTodo)) fun p8 h9 =>
    appendM 2 16 h9 s3.1 ⟨some p8, 1, 1⟩ fun t10 h11 =>
    go5 (t10, (w64 (s3.2.1 + 1)), ()) h11) ∧
    ((decide (s3.2.1 < (todos1.len : Int))) = false →
    Q s3.1 h4))
def law3_numbered.M  (todos1 : Sl) (h2 : Heap) (Q : Sl → Heap → Prop) : Prop :=
    Loop (law3_numbered.l1 todos1 Q) (⟨none, 0, 0⟩, 0, ()) h2
def law3_numbered.mk : Mk := (.s .d (.s .d (.s (.s .d (.b (.l [.slot 3 .sl, .slot 4 (.int .i64)] (.s (.s .d (.c .d .d)) (.s (.b .d) .d))))) (.s .d .d))))

def law3_alive.j1 (go11 : (Int × (((Fin 4 → Int) × Unit) × (((Fin 4 → Int) × Unit) × Unit))) → Heap → Prop) (s9 : (Int × (((Fin 4 → Int) × Unit) × (((Fin 4 → Int) × Unit) × Unit)))) (s12 : (((Fin 4 → Int) × Unit) × (((Fin 4 → Int) × Unit) × Unit))) (h13 : Heap) : Prop :=
    go11 ((w64 (s9.1 + 1)), (s12.1.1, ()), (s12.2.1.1, ()), ()) h13
def law3_alive.j2 (Q : Bool → Heap → Prop) (go11 : (Int × (((Fin 4 → Int) × Unit) × (((Fin 4 → Int) × Unit) × Unit))) → Heap → Prop) (s9 : (Int × (((Fin 4 → Int) × Unit) × (((Fin 4 → Int) × Unit) × Unit)))) (t15 : Den kapiCall) (s22 : (((Fin 4 → Int) × Unit) × Unit)) (s28 : (Bool × Unit)) (h29 : Heap) : Prop :=
    ((s28.1 = true →
    Q false h29) ∧
    (s28.1 = false →
    law3_alive.j1 go11 s9 (((aset (n := 4) (a := ((.int .i64) : Kd)) s9.2.1.1 (t15.1 : Int).toNat (w64 ((aget (n := 4) (a := ((.int .i64) : Kd)) s9.2.1.1 (t15.1 : Int).toNat) + 1))), ()), (s22.1.1, ()), ()) h29))
def law3_alive.j3 (Q : Bool → Heap → Prop) (go11 : (Int × (((Fin 4 → Int) × Unit) × (((Fin 4 → Int) × Unit) × Unit))) → Heap → Prop) (s9 : (Int × (((Fin 4 → Int) × Unit) × (((Fin 4 → Int) × Unit) × Unit)))) (t15 : Den kapiCall) (s22 : (((Fin 4 → Int) × Unit) × Unit)) (s26 : Unit) (h27 : Heap) : Prop :=
    (((decide (t15.1 = 0)) = true →
    (((decide ((aget (n := 4) (a := ((.int .i64) : Kd)) s9.2.1.1 (t15.1 : Int).toNat) = 0)) = true →
    (((decide (t15.2.1 = 0)) = true →
    (((decide ((0 : Int) ≤ t15.2.2.2.2.1)) = true →
    law3_alive.j2 Q go11 s9 t15 s22 ((decide (t15.2.2.2.2.2.1 ≠ 2)), ()) h27) ∧
    ((decide ((0 : Int) ≤ t15.2.2.2.2.1)) = false →
    law3_alive.j2 Q go11 s9 t15 s22 (false, ()) h27))) ∧
    ((decide (t15.2.1 = 0)) = false →
    law3_alive.j2 Q go11 s9 t15 s22 (false, ()) h27))) ∧
    ((decide ((aget (n := 4) (a := ((.int .i64) : Kd)) s9.2.1.1 (t15.1 : Int).toNat) = 0)) = false →
    law3_alive.j2 Q go11 s9 t15 s22 (false, ()) h27))) ∧
    ((decide (t15.1 = 0)) = false →
    law3_alive.j2 Q go11 s9 t15 s22 (false, ()) h27))
def law3_alive.j4 (Q : Bool → Heap → Prop) (go11 : (Int × (((Fin 4 → Int) × Unit) × (((Fin 4 → Int) × Unit) × Unit))) → Heap → Prop) (s9 : (Int × (((Fin 4 → Int) × Unit) × (((Fin 4 → Int) × Unit) × Unit)))) (t15 : Den kapiCall) (s22 : (((Fin 4 → Int) × Unit) × Unit)) (s30 : (Bool × Unit)) (h31 : Heap) : Prop :=
    ((s30.1 = true →
    Q false h31) ∧
    (s30.1 = false →
    law3_alive.j3 Q go11 s9 t15 s22 () h31))
def law3_alive.j5 (todos2 : Sl) (Q : Bool → Heap → Prop) (go11 : (Int × (((Fin 4 → Int) × Unit) × (((Fin 4 → Int) × Unit) × Unit))) → Heap → Prop) (s9 : (Int × (((Fin 4 → Int) × Unit) × (((Fin 4 → Int) × Unit) × Unit)))) (t15 : Den kapiCall) (s22 : (((Fin 4 → Int) × Unit) × Unit)) (s24 : Unit) (h25 : Heap) : Prop :=
    (((decide (t15.1 = 0)) = true →
    (((decide ((todos2.len : Int) ≤ (aget (n := 4) (a := ((.int .i64) : Kd)) s9.2.1.1 (t15.1 : Int).toNat))) = true →
    law3_alive.j4 Q go11 s9 t15 s22 (true, ()) h25) ∧
    ((decide ((todos2.len : Int) ≤ (aget (n := 4) (a := ((.int .i64) : Kd)) s9.2.1.1 (t15.1 : Int).toNat))) = false →
    (0 ≤ (aget (n := 4) (a := ((.int .i64) : Kd)) s9.2.1.1 (t15.1 : Int).toNat) ∧ (aget (n := 4) (a := ((.int .i64) : Kd)) s9.2.1.1 (t15.1 : Int).toNat) < (todos2.len : Int)) ∧
    deref todos2.a fun a32 =>
    ld ((.int .i64) : Kd) h25 ((a32.add (((aget (n := 4) (a := ((.int .i64) : Kd)) s9.2.1.1 (t15.1 : Int).toNat) : Int).toNat * 2)).add 0) fun t33 =>
    (((decide (t15.2.1 ≠ t33)) = true →
    law3_alive.j4 Q go11 s9 t15 s22 (true, ()) h25) ∧
    ((decide (t15.2.1 ≠ t33)) = false →
    (((decide (t15.2.1 = 0)) = true →
    (0 ≤ (aget (n := 4) (a := ((.int .i64) : Kd)) s9.2.1.1 (t15.1 : Int).toNat) ∧ (aget (n := 4) (a := ((.int .i64) : Kd)) s9.2.1.1 (t15.1 : Int).toNat) < (todos2.len : Int)) ∧
    deref todos2.a fun a34 =>
    ld ((.int .i64) : Kd) h25 ((a34.add (((aget (n := 4) (a := ((.int .i64) : Kd)) s9.2.1.1 (t15.1 : Int).toNat) : Int).toNat * 2)).add 1) fun t35 =>
    law3_alive.j4 Q go11 s9 t15 s22 ((decide (t15.2.2.1 ≠ t35)), ()) h25) ∧
    ((decide (t15.2.1 = 0)) = false →
    law3_alive.j4 Q go11 s9 t15 s22 (false, ()) h25))))))) ∧
    ((decide (t15.1 = 0)) = false →
    law3_alive.j4 Q go11 s9 t15 s22 (false, ()) h25))
def law3_alive.j6 (todos2 : Sl) (Q : Bool → Heap → Prop) (go11 : (Int × (((Fin 4 → Int) × Unit) × (((Fin 4 → Int) × Unit) × Unit))) → Heap → Prop) (s9 : (Int × (((Fin 4 → Int) × Unit) × (((Fin 4 → Int) × Unit) × Unit)))) (t15 : Den kapiCall) (s22 : (((Fin 4 → Int) × Unit) × Unit)) (s36 : (Bool × Unit)) (h37 : Heap) : Prop :=
    ((s36.1 = true →
    Q false h37) ∧
    (s36.1 = false →
    law3_alive.j5 todos2 Q go11 s9 t15 s22 () h37))
def law3_alive.j7 (todos2 : Sl) (Q : Bool → Heap → Prop) (go11 : (Int × (((Fin 4 → Int) × Unit) × (((Fin 4 → Int) × Unit) × Unit))) → Heap → Prop) (s9 : (Int × (((Fin 4 → Int) × Unit) × (((Fin 4 → Int) × Unit) × Unit)))) (t15 : Den kapiCall) (s22 : (((Fin 4 → Int) × Unit) × Unit)) (h23 : Heap) : Prop :=
    (0 ≤ t15.1 ∧ t15.1 < (4 : Int)) ∧
    (0 ≤ t15.1 ∧ t15.1 < (4 : Int)) ∧
    (0 ≤ t15.1 ∧ t15.1 < (4 : Int)) ∧
    (((decide ((0 : Int) < t15.1)) = true →
    law3_alive.j6 todos2 Q go11 s9 t15 s22 ((decide (t15.2.1 ≠ 2)), ()) h23) ∧
    ((decide ((0 : Int) < t15.1)) = false →
    law3_alive.j6 todos2 Q go11 s9 t15 s22 (false, ()) h23))
def law3_alive.j8 (c_law3_mod : Int → Int → Heap → (Int → Heap → Prop) → Prop) (c_law3_own : Sl → Int → Int → Int → Int → Heap → (Int → Heap → Prop) → Prop) (todos2 : Sl) (thieves3 : Int) (picks4 : Sl) (Q : Bool → Heap → Prop) (go11 : (Int × (((Fin 4 → Int) × Unit) × (((Fin 4 → Int) × Unit) × Unit))) → Heap → Prop) (s9 : (Int × (((Fin 4 → Int) × Unit) × (((Fin 4 → Int) × Unit) × Unit)))) (t15 : Den kapiCall) (s18 : Unit) (h19 : Heap) : Prop :=
    (0 ≤ t15.1 ∧ t15.1 < (4 : Int)) ∧
    c_law3_own picks4 thieves3 t15.1 (w64 ((aget (n := 4) (a := ((.int .i64) : Kd)) s9.2.2.1.1 (t15.1 : Int).toNat) + 1)) t15.2.2.2.1 h19 fun r20 h21 =>
    (((decide (r20 ≠ 1)) = true →
    Q false h21) ∧
    ((decide (r20 ≠ 1)) = false →
    (0 ≤ t15.1 ∧ t15.1 < (4 : Int)) ∧
    (((decide (t15.2.2.2.2.1 < 0)) = true →
    (0 ≤ t15.1 ∧ t15.1 < (4 : Int)) ∧
    law3_alive.j7 todos2 Q go11 s9 t15 (((aset (n := 4) (a := ((.int .i64) : Kd)) (aset (n := 4) (a := ((.int .i64) : Kd)) s9.2.2.1.1 (t15.1 : Int).toNat t15.2.2.2.2.1) (t15.1 : Int).toNat (picks4.len : Int)), ()), ()) h21) ∧
    ((decide (t15.2.2.2.2.1 < 0)) = false →
    (0 ≤ t15.2.2.2.2.1 ∧ t15.2.2.2.2.1 < (picks4.len : Int)) ∧
    deref picks4.a fun a38 =>
    ld ((.int .i64) : Kd) h21 (a38.add ((t15.2.2.2.2.1 : Int).toNat * 1)) fun t39 =>
    c_law3_mod t39 (w64 (1 + thieves3)) h21 fun r40 h41 =>
    (((decide (r40 ≠ t15.1)) = true →
    Q false h41) ∧
    ((decide (r40 ≠ t15.1)) = false →
    law3_alive.j7 todos2 Q go11 s9 t15 (((aset (n := 4) (a := ((.int .i64) : Kd)) s9.2.2.1.1 (t15.1 : Int).toNat t15.2.2.2.2.1), ()), ()) h41))))))
def law3_alive.j9 (c_law3_mod : Int → Int → Heap → (Int → Heap → Prop) → Prop) (c_law3_own : Sl → Int → Int → Int → Int → Heap → (Int → Heap → Prop) → Prop) (todos2 : Sl) (thieves3 : Int) (picks4 : Sl) (Q : Bool → Heap → Prop) (go11 : (Int × (((Fin 4 → Int) × Unit) × (((Fin 4 → Int) × Unit) × Unit))) → Heap → Prop) (s9 : (Int × (((Fin 4 → Int) × Unit) × (((Fin 4 → Int) × Unit) × Unit)))) (t15 : Den kapiCall) (s42 : (Bool × Unit)) (h43 : Heap) : Prop :=
    ((s42.1 = true →
    Q false h43) ∧
    (s42.1 = false →
    law3_alive.j8 c_law3_mod c_law3_own todos2 thieves3 picks4 Q go11 s9 t15 () h43))
def law3_alive.j10 (c_law3_mod : Int → Int → Heap → (Int → Heap → Prop) → Prop) (c_law3_own : Sl → Int → Int → Int → Int → Heap → (Int → Heap → Prop) → Prop) (r1 : Den kapiDequeRun) (todos2 : Sl) (thieves3 : Int) (picks4 : Sl) (Q : Bool → Heap → Prop) (go11 : (Int × (((Fin 4 → Int) × Unit) × (((Fin 4 → Int) × Unit) × Unit))) → Heap → Prop) (s9 : (Int × (((Fin 4 → Int) × Unit) × (((Fin 4 → Int) × Unit) × Unit)))) (t15 : Den kapiCall) (s16 : Unit) (h17 : Heap) : Prop :=
    (((decide ((0 : Int) < s9.1)) = true →
    (0 ≤ (w64 (s9.1 - 1)) ∧ (w64 (s9.1 - 1)) < (r1.1.len : Int)) ∧
    deref r1.1.a fun a44 =>
    ld ((.int .i64) : Kd) h17 ((a44.add (((w64 (s9.1 - 1)) : Int).toNat * 7)).add 3) fun t45 =>
    (((decide (t15.2.2.2.1 ≤ t45)) = true →
    law3_alive.j9 c_law3_mod c_law3_own todos2 thieves3 picks4 Q go11 s9 t15 (true, ()) h17) ∧
    ((decide (t15.2.2.2.1 ≤ t45)) = false →
    (0 ≤ t15.1 ∧ t15.1 < (4 : Int)) ∧
    (((decide (t15.2.2.2.1 ≤ (aget (n := 4) (a := ((.int .i64) : Kd)) s9.2.2.1.1 (t15.1 : Int).toNat))) = true →
    law3_alive.j9 c_law3_mod c_law3_own todos2 thieves3 picks4 Q go11 s9 t15 (true, ()) h17) ∧
    ((decide (t15.2.2.2.1 ≤ (aget (n := 4) (a := ((.int .i64) : Kd)) s9.2.2.1.1 (t15.1 : Int).toNat))) = false →
    (0 ≤ t15.2.2.2.1 ∧ t15.2.2.2.1 < (picks4.len : Int)) ∧
    deref picks4.a fun a46 =>
    ld ((.int .i64) : Kd) h17 (a46.add ((t15.2.2.2.1 : Int).toNat * 1)) fun t47 =>
    c_law3_mod t47 (w64 (1 + thieves3)) h17 fun r48 h49 =>
    law3_alive.j9 c_law3_mod c_law3_own todos2 thieves3 picks4 Q go11 s9 t15 ((decide (r48 ≠ t15.1)), ()) h49))))) ∧
    ((decide ((0 : Int) < s9.1)) = false →
    (0 ≤ t15.1 ∧ t15.1 < (4 : Int)) ∧
    (((decide (t15.2.2.2.1 ≤ (aget (n := 4) (a := ((.int .i64) : Kd)) s9.2.2.1.1 (t15.1 : Int).toNat))) = true →
    law3_alive.j9 c_law3_mod c_law3_own todos2 thieves3 picks4 Q go11 s9 t15 (true, ()) h17) ∧
    ((decide (t15.2.2.2.1 ≤ (aget (n := 4) (a := ((.int .i64) : Kd)) s9.2.2.1.1 (t15.1 : Int).toNat))) = false →
    (0 ≤ t15.2.2.2.1 ∧ t15.2.2.2.1 < (picks4.len : Int)) ∧
    deref picks4.a fun a50 =>
    ld ((.int .i64) : Kd) h17 (a50.add ((t15.2.2.2.1 : Int).toNat * 1)) fun t51 =>
    c_law3_mod t51 (w64 (1 + thieves3)) h17 fun r52 h53 =>
    law3_alive.j9 c_law3_mod c_law3_own todos2 thieves3 picks4 Q go11 s9 t15 ((decide (r52 ≠ t15.1)), ()) h53))))
def law3_alive.j11 (c_law3_mod : Int → Int → Heap → (Int → Heap → Prop) → Prop) (c_law3_own : Sl → Int → Int → Int → Int → Heap → (Int → Heap → Prop) → Prop) (r1 : Den kapiDequeRun) (todos2 : Sl) (thieves3 : Int) (picks4 : Sl) (Q : Bool → Heap → Prop) (go11 : (Int × (((Fin 4 → Int) × Unit) × (((Fin 4 → Int) × Unit) × Unit))) → Heap → Prop) (s9 : (Int × (((Fin 4 → Int) × Unit) × (((Fin 4 → Int) × Unit) × Unit)))) (t15 : Den kapiCall) (s54 : (Bool × Unit)) (h55 : Heap) : Prop :=
    ((s54.1 = true →
    Q false h55) ∧
    (s54.1 = false →
    law3_alive.j10 c_law3_mod c_law3_own r1 todos2 thieves3 picks4 Q go11 s9 t15 () h55))
def law3_alive.l12 (c_law3_own : Sl → Int → Int → Int → Int → Heap → (Int → Heap → Prop) → Prop) (thieves3 : Int) (picks4 : Sl) (Q : Bool → Heap → Prop) (s9 : (Int × (((Fin 4 → Int) × Unit) × (((Fin 4 → Int) × Unit) × Unit)))) (go60 : (Int × Unit) → Heap → Prop) (s58 : (Int × Unit)) (h59 : Heap) : Prop :=
    (((decide (s58.1 ≤ thieves3)) = true →
    (0 ≤ s58.1 ∧ s58.1 < (4 : Int)) ∧
    c_law3_own picks4 thieves3 s58.1 0 (-1) h59 fun r61 h62 =>
    (6 : Int) ≠ 0 ∧
    (((decide ((aget (n := 4) (a := ((.int .i64) : Kd)) s9.2.1.1 (s58.1 : Int).toNat) < (w64 (Int.tdiv (w64 (r61 + 5)) 6)))) = true →
    Q false h62) ∧
    ((decide ((aget (n := 4) (a := ((.int .i64) : Kd)) s9.2.1.1 (s58.1 : Int).toNat) < (w64 (Int.tdiv (w64 (r61 + 5)) 6)))) = false →
    go60 ((w64 (s58.1 + 1)), ()) h62))) ∧
    ((decide (s58.1 ≤ thieves3)) = false →
    Q true h59))
def law3_alive.l13 (c_law3_mod : Int → Int → Heap → (Int → Heap → Prop) → Prop) (c_law3_own : Sl → Int → Int → Int → Int → Heap → (Int → Heap → Prop) → Prop) (r1 : Den kapiDequeRun) (todos2 : Sl) (thieves3 : Int) (picks4 : Sl) (Q : Bool → Heap → Prop) (go11 : (Int × (((Fin 4 → Int) × Unit) × (((Fin 4 → Int) × Unit) × Unit))) → Heap → Prop) (s9 : (Int × (((Fin 4 → Int) × Unit) × (((Fin 4 → Int) × Unit) × Unit)))) (h10 : Heap) : Prop :=
    (((decide (s9.1 < (r1.1.len : Int))) = true →
    (0 ≤ s9.1 ∧ s9.1 < (r1.1.len : Int)) ∧
    deref r1.1.a fun a14 =>
    ld kapiCall h10 (a14.add ((s9.1 : Int).toNat * 7)) fun t15 =>
    (((decide (t15.1 < 0)) = true →
    law3_alive.j11 c_law3_mod c_law3_own r1 todos2 thieves3 picks4 Q go11 s9 t15 (true, ()) h10) ∧
    ((decide (t15.1 < 0)) = false →
    (((decide (thieves3 < t15.1)) = true →
    law3_alive.j11 c_law3_mod c_law3_own r1 todos2 thieves3 picks4 Q go11 s9 t15 (true, ()) h10) ∧
    ((decide (thieves3 < t15.1)) = false →
    (((decide (t15.2.2.2.1 < 0)) = true →
    law3_alive.j11 c_law3_mod c_law3_own r1 todos2 thieves3 picks4 Q go11 s9 t15 (true, ()) h10) ∧
    ((decide (t15.2.2.2.1 < 0)) = false →
    (((decide ((picks4.len : Int) ≤ t15.2.2.2.1)) = true →
    law3_alive.j11 c_law3_mod c_law3_own r1 todos2 thieves3 picks4 Q go11 s9 t15 (true, ()) h10) ∧
    ((decide ((picks4.len : Int) ≤ t15.2.2.2.1)) = false →
    (((decide ((picks4.len : Int) ≤ t15.2.2.2.2.1)) = true →
    law3_alive.j11 c_law3_mod c_law3_own r1 todos2 thieves3 picks4 Q go11 s9 t15 (true, ()) h10) ∧
    ((decide ((picks4.len : Int) ≤ t15.2.2.2.2.1)) = false →
    law3_alive.j11 c_law3_mod c_law3_own r1 todos2 thieves3 picks4 Q go11 s9 t15 ((!((decide (t15.2.2.2.2.1 < 0)) == (decide (t15.2.2.2.2.2.1 = 0)))), ()) h10))))))))))) ∧
    ((decide (s9.1 < (r1.1.len : Int))) = false →
    (0 ≤ (0 : Int) ∧ (0 : Int) < (4 : Int)) ∧
    c_law3_own picks4 thieves3 0 0 (-1) h10 fun r56 h57 =>
    (15 : Int) ≠ 0 ∧
    (((decide ((aget (n := 4) (a := ((.int .i64) : Kd)) s9.2.1.1 ((0 : Int) : Int).toNat) < (if (w64 (Int.tdiv (w64 (r56 + 14)) 15)) < (todos2.len : Int) then (w64 (Int.tdiv (w64 (r56 + 14)) 15)) else (todos2.len : Int)))) = true →
    Q false h57) ∧
    ((decide ((aget (n := 4) (a := ((.int .i64) : Kd)) s9.2.1.1 ((0 : Int) : Int).toNat) < (if (w64 (Int.tdiv (w64 (r56 + 14)) 15)) < (todos2.len : Int) then (w64 (Int.tdiv (w64 (r56 + 14)) 15)) else (todos2.len : Int)))) = false →
    Loop (law3_alive.l12 c_law3_own thieves3 picks4 Q s9) (1, ()) h57))))
def law3_alive.l14 (c_law3_mod : Int → Int → Heap → (Int → Heap → Prop) → Prop) (c_law3_own : Sl → Int → Int → Int → Int → Heap → (Int → Heap → Prop) → Prop) (r1 : Den kapiDequeRun) (todos2 : Sl) (thieves3 : Int) (picks4 : Sl) (Q : Bool → Heap → Prop) (go8 : (Int × (((Fin 4 → Int) × Unit) × Unit)) → Heap → Prop) (s6 : (Int × (((Fin 4 → Int) × Unit) × Unit))) (h7 : Heap) : Prop :=
    (((decide (s6.1 < 4)) = true →
    (0 ≤ s6.1 ∧ s6.1 < (4 : Int)) ∧
    go8 ((w64 (s6.1 + 1)), ((aset (n := 4) (a := ((.int .i64) : Kd)) s6.2.1.1 (s6.1 : Int).toNat (-1)), ()), ()) h7) ∧
    ((decide (s6.1 < 4)) = false →
    Loop (law3_alive.l13 c_law3_mod c_law3_own r1 todos2 thieves3 picks4 Q) (0, ((fun _ => 0), ()), (s6.2.1.1, ()), ()) h7))
def law3_alive.M (c_law3_mod : Int → Int → Heap → (Int → Heap → Prop) → Prop) (c_law3_own : Sl → Int → Int → Int → Int → Heap → (Int → Heap → Prop) → Prop) (r1 : Den kapiDequeRun) (todos2 : Sl) (thieves3 : Int) (picks4 : Sl) (h5 : Heap) (Q : Bool → Heap → Prop) : Prop :=
    Loop (law3_alive.l14 c_law3_mod c_law3_own r1 todos2 thieves3 picks4 Q) (0, ((fun _ => 0), ()), ()) h5
def law3_alive.mk : Mk := (.s (.r [0]) (.s (.r [0, 1]) (.s (.s .d (.b (.l [.slot 11 (.int .i64), .box 10 (.pair (.arr 4 (.int .i64)) .nil)] (.s (.s .d (.c .d .d)) (.s (.b .d) .d))))) (.s (.s .d (.b (.l [.slot 12 (.int .i64), .box 9 (.pair (.arr 4 (.int .i64)) .nil), .box 10 (.pair (.arr 4 (.int .i64)) .nil)] (.s (.s .d (.c .d .d)) (.j [.box 9 (.pair (.arr 4 (.int .i64)) .nil), .box 10 (.pair (.arr 4 (.int .i64)) .nil)] (.b (.s (.r [5]) (.j [] (.j [.slot 70 .bool] .d (.c (.s .d .d) .d)) (.j [] (.j [.slot 106 .bool] (.q [] [] [.p 0, .p 1, .p 2, .p 3, .p 5, .p 7, .p 8, .w 4 [4, 12, 13, 14, 15, 16, 17, 18, 19, 20, 21, 22, 23, 24, 25, 26, 27, 28, 29, 30, 31, 32, 33, 34, 35], .w 6 [6, 9, 10, 11, 12, 13, 14, 15, 16, 17, 18, 19, 20, 21, 22, 23, 24, 25, 26, 27, 28, 29, 30, 31, 32, 33, 34, 35], .p 9, .p 10, .w 11 [11, 12, 13, 14, 15, 16, 17, 18, 19, 20, 21, 22, 23, 24, 25, 26, 27, 28, 29, 30, 31, 32, 33, 34, 35], .p 12, .p 13, .p 14, .p 15, .p 17, .w 16 [16, 21, 22, 23, 24, 25, 26, 27, 28, 29, 30, 31, 32, 33, 34, 35], .w 18 [18, 19, 20, 21, 22, 23, 24, 25, 26, 27, 28, 29, 30, 31, 32, 33, 34, 35], .p 19, .w 20 [20, 21, 22, 23, 24, 25, 26, 27, 28, 29, 30, 31, 32, 33, 34, 35], .p 21, .p 22, .p 23, .p 24, .p 25, .p 29, .p 30, .p 32, .w 26 [26, 27, 28, 31, 34, 35], .p 27, .w 28 [28, 31, 34, 35], .w 33 [33, 34, 35], .o 31, .p 34, .p 35]) (.c (.s .d .d) .d)) (.s (.s (.q [] [] [.p 0, .p 1, .p 2, .p 4, .p 9, .w 3 [3, 11, 12], .w 5 [5, 6, 7, 8, 11, 12], .p 6, .w 7 [7, 8, 11, 12], .p 8, .w 10 [10, 11, 12], .o 11, .p 12]) (.c (.s .d .d) .d)) (.s .d (.j [.box 10 (.pair (.arr 4 (.int .i64)) .nil)] (.s .d (.c .d (.s (.q [] [] [.p 0, .p 1, .p 5, .p 6, .p 8, .w 2 [2, 3, 4, 7, 10], .p 3, .w 4 [4, 7, 10], .w 9 [9, 10], .o 7, .p 10]) (.c (.s .d .d) .d)))) (.s .d (.s .d (.j [] (.j [.slot 161 .bool] .d (.c (.s .d .d) .d)) (.j [] (.j [.slot 195 .bool] (.q [] [] [.p 0, .w 1 [1, 2, 3, 4, 5, 6, 7, 8, 9, 10, 11, 12, 13, 14, 15, 16, 17, 18, 19, 20, 21, 22, 23, 24, 25, 26, 27, 28, 29, 30, 31, 32, 33], .p 2, .p 3, .p 4, .p 5, .p 6, .p 7, .p 8, .p 9, .p 11, .p 12, .p 13, .p 14, .w 10 [10, 16, 17, 18, 19, 20, 21, 22, 23, 24, 25, 26, 27, 28, 29, 30, 31, 32, 33], .w 15 [15, 16, 17, 18, 19, 20, 21, 22, 23, 24, 25, 26, 27, 28, 29, 30, 31, 32, 33], .p 16, .p 17, .p 18, .p 19, .w 20 [20, 21, 22, 23, 24, 25, 26, 27, 28, 29, 30, 31, 32, 33], .p 21, .p 22, .p 23, .p 25, .p 26, .p 27, .p 28, .w 24 [24, 30, 31, 32, 33], .w 29 [29, 30, 31, 32, 33], .p 30, .p 31, .p 32, .p 33]) (.c (.s .d .d) .d)) (.j [.slot 217 .bool] .d (.c (.s .d .d) .d))))))))))))) .d))))) (.s (.s (.q [] [] [.p 0, .p 2, .p 3, .p 4, .p 5, .w 1 [1, 10], .o 6, .p 7, .p 8, .p 9, .p 10]) (.c (.s .d .d) .d)) (.s (.s .d (.b (.l [.slot 15 (.int .i64)] (.s (.s .d (.c .d .d)) (.s (.b (.s (.q [] [] [.p 0, .p 1, .p 3, .p 4, .p 5, .w 2 [2, 9], .o 6, .p 7, .p 8, .p 9]) (.c (.s .d .d) .d))) .d))))) (.s .d .d)))))))

def law3_seat.j1 (go9 : (Int × Unit) → Heap → Prop) (s7 : (Int × Unit)) (s10 : Unit) (h11 : Heap) : Prop :=
    go9 ((w64 (s7.1 + 1)), ()) h11
def law3_seat.j2 (s5 : Sl) (go16 : (Int × Unit) → Heap → Prop) (s14 : (Int × Unit)) (s17 : Unit) (h18 : Heap) : Prop :=
    (0 ≤ s14.1 ∧ s14.1 < (s5.len : Int)) ∧
    deref s5.a fun a19 =>
    st (.bool : Kd) h18 (a19.add ((s14.1 : Int).toNat * 1)) true fun h20 =>
    go16 ((w64 (s14.1 + 1)), ()) h20
def law3_seat.j3 (s5 : Sl) (go9 : (Int × Unit) → Heap → Prop) (s7 : (Int × Unit)) (go16 : (Int × Unit) → Heap → Prop) (s14 : (Int × Unit)) (s21 : (Bool × Unit)) (h22 : Heap) : Prop :=
    ((s21.1 = true →
    law3_seat.j2 s5 go16 s14 () h22) ∧
    (s21.1 = false →
    law3_seat.j1 go9 s7 () h22))
def law3_seat.l4 (picks3 : Sl) (s5 : Sl) (go9 : (Int × Unit) → Heap → Prop) (s7 : (Int × Unit)) (t13 : Den kapiCall) (go16 : (Int × Unit) → Heap → Prop) (s14 : (Int × Unit)) (h15 : Heap) : Prop :=
    (((decide (t13.1 = 0)) = true →
    (((decide (s14.1 < (picks3.len : Int))) = true →
    (((decide (s14.1 ≤ t13.2.2.2.2.1)) = true →
    law3_seat.j3 s5 go9 s7 go16 s14 (true, ()) h15) ∧
    ((decide (s14.1 ≤ t13.2.2.2.2.1)) = false →
    law3_seat.j3 s5 go9 s7 go16 s14 ((decide (t13.2.2.2.2.1 < 0)), ()) h15))) ∧
    ((decide (s14.1 < (picks3.len : Int))) = false →
    law3_seat.j3 s5 go9 s7 go16 s14 (false, ()) h15))) ∧
    ((decide (t13.1 = 0)) = false →
    law3_seat.j3 s5 go9 s7 go16 s14 (false, ()) h15))
def law3_seat.j5 (go25 : (Int × (Sl × (Int × Unit))) → Heap → Prop) (s23 : (Int × (Sl × (Int × Unit)))) (s26 : (Int × (Sl × Unit))) (h27 : Heap) : Prop :=
    go25 (s26.1, s26.2.1, (w64 (s23.2.2.1 + 1)), ()) h27
def law3_seat.j6 (go25 : (Int × (Sl × (Int × Unit))) → Heap → Prop) (s23 : (Int × (Sl × (Int × Unit)))) (s28 : (Sl × Unit)) (h29 : Heap) : Prop :=
    new h29 (([s23.1] : List (Den ((.int .i64) : Kd))).flatMap (Kd.cells ((.int .i64) : Kd))) fun p30 h31 =>
    appendM 1 8 h31 s28.1 ⟨some p30, 1, 1⟩ fun t32 h33 =>
    law3_seat.j5 go25 s23 ((w64 (s23.1 + 1)), t32, ()) h33
def law3_seat.j7 (go25 : (Int × (Sl × (Int × Unit))) → Heap → Prop) (s23 : (Int × (Sl × (Int × Unit)))) (s34 : (Bool × Unit)) (h35 : Heap) : Prop :=
    ((s34.1 = true →
    new h35 (([(-1)] : List (Den ((.int .i64) : Kd))).flatMap (Kd.cells ((.int .i64) : Kd))) fun p36 h37 =>
    appendM 1 8 h37 s23.2.1 ⟨some p36, 1, 1⟩ fun t38 h39 =>
    law3_seat.j5 go25 s23 (s23.1, t38, ()) h39) ∧
    (s34.1 = false →
    law3_seat.j6 go25 s23 (s23.2.1, ()) h35))
def law3_seat.l8 (c_law3_mod : Int → Int → Heap → (Int → Heap → Prop) → Prop) (thieves2 : Int) (picks3 : Sl) (Q : Sl → Heap → Prop) (s5 : Sl) (go25 : (Int × (Sl × (Int × Unit))) → Heap → Prop) (s23 : (Int × (Sl × (Int × Unit)))) (h24 : Heap) : Prop :=
    (((decide (s23.2.2.1 < (picks3.len : Int))) = true →
    (0 ≤ s23.2.2.1 ∧ s23.2.2.1 < (picks3.len : Int)) ∧
    deref picks3.a fun a40 =>
    ld ((.int .i64) : Kd) h24 (a40.add ((s23.2.2.1 : Int).toNat * 1)) fun t41 =>
    c_law3_mod t41 (w64 (1 + thieves2)) h24 fun r42 h43 =>
    (((decide (r42 = 0)) = true →
    (0 ≤ s23.2.2.1 ∧ s23.2.2.1 < (s5.len : Int)) ∧
    deref s5.a fun a44 =>
    ld (.bool : Kd) h43 (a44.add ((s23.2.2.1 : Int).toNat * 1)) fun t45 =>
    law3_seat.j7 go25 s23 ((!t45), ()) h43) ∧
    ((decide (r42 = 0)) = false →
    law3_seat.j7 go25 s23 (false, ()) h43))) ∧
    ((decide (s23.2.2.1 < (picks3.len : Int))) = false →
    Q s23.2.1 h24))
def law3_seat.l9 (c_law3_mod : Int → Int → Heap → (Int → Heap → Prop) → Prop) (r1 : Den kapiDequeRun) (thieves2 : Int) (picks3 : Sl) (Q : Sl → Heap → Prop) (s5 : Sl) (go9 : (Int × Unit) → Heap → Prop) (s7 : (Int × Unit)) (h8 : Heap) : Prop :=
    (((decide (s7.1 < (r1.1.len : Int))) = true →
    (0 ≤ s7.1 ∧ s7.1 < (r1.1.len : Int)) ∧
    deref r1.1.a fun a12 =>
    ld kapiCall h8 (a12.add ((s7.1 : Int).toNat * 7)) fun t13 =>
    Loop (law3_seat.l4 picks3 s5 go9 s7 t13) ((if t13.2.2.2.1 < 0 then 0 else t13.2.2.2.1), ()) h8) ∧
    ((decide (s7.1 < (r1.1.len : Int))) = false →
    Loop (law3_seat.l8 c_law3_mod thieves2 picks3 Q s5) (0, ⟨none, 0, 0⟩, 0, ()) h8))
def law3_seat.M (c_law3_mod : Int → Int → Heap → (Int → Heap → Prop) → Prop) (r1 : Den kapiDequeRun) (thieves2 : Int) (picks3 : Sl) (h4 : Heap) (Q : Sl → Heap → Prop) : Prop :=
    makeM (.bool : Kd) 1 h4 (picks3.len : Int) (picks3.len : Int) fun s5 h6 =>
    Loop (law3_seat.l9 c_law3_mod r1 thieves2 picks3 Q s5) (0, ()) h6
def law3_seat.mk : Mk := (.s (.r [0]) (.s .d (.s (.s .d (.b (.l [.slot 8 (.int .i64)] (.s (.s .d (.c .d .d)) (.j [] (.b (.s (.r [5]) (.s .d (.b (.l [.slot 10 (.int .i64)] (.j [] (.j [.slot 51 .bool] .d (.c .d .d)) (.s (.b .d) .d))))))) .d))))) (.s .d (.s .d (.s (.s .d (.b (.l [.slot 11 (.int .i64), .slot 12 .sl, .slot 13 (.int .i64)] (.s (.s .d (.c .d .d)) (.j [.slot 11 (.int .i64), .slot 12 .sl] (.b (.j [.slot 12 .sl] (.j [.slot 77 .bool] .d (.c (.s .d .d) .d)) (.s .d .d))) .d))))) (.s .d .d)))))))

def law3_mod.j1 (Q : Int → Heap → Prop) (s4 : (Int × Unit)) (h5 : Heap) : Prop :=
    Q s4.1 h5
def law3_mod.M  (x1 : Int) (n2 : Int) (h3 : Heap) (Q : Int → Heap → Prop) : Prop :=
    n2 ≠ 0 ∧
    (((decide ((Int.tmod x1 n2) < 0)) = true →
    law3_mod.j1 Q ((w64 ((Int.tmod x1 n2) + n2)), ()) h3) ∧
    ((decide ((Int.tmod x1 n2) < 0)) = false →
    law3_mod.j1 Q ((Int.tmod x1 n2), ()) h3))
def law3_mod.mk : Mk := (.s .d (.s .d (.j [.slot 5 (.int .i64)] (.s .d (.c .d .d)) (.s .d .d))))

def law3_own.j1 (Q : Int → Heap → Prop) (s7 : (Int × Unit)) (h8 : Heap) : Prop :=
    Q s7.1 h8
def law3_own.j2 (go11 : Den kapiTodo → Heap → Prop) (s9 : Den kapiTodo) (s14 : (Int × Unit)) (h15 : Heap) : Prop :=
    go11 (s14.1, (w64 (s9.2.1 + 1)), ()) h15
def law3_own.j3 (c_law3_mod : Int → Int → Heap → (Int → Heap → Prop) → Prop) (picks1 : Sl) (thieves2 : Int) (who3 : Int) (go11 : Den kapiTodo → Heap → Prop) (s9 : Den kapiTodo) (s12 : Unit) (h13 : Heap) : Prop :=
    (0 ≤ s9.2.1 ∧ s9.2.1 < (picks1.len : Int)) ∧
    deref picks1.a fun a16 =>
    ld ((.int .i64) : Kd) h13 (a16.add ((s9.2.1 : Int).toNat * 1)) fun t17 =>
    c_law3_mod t17 (w64 (1 + thieves2)) h13 fun r18 h19 =>
    (((decide (r18 = who3)) = true →
    law3_own.j2 go11 s9 ((w64 (s9.1 + 1)), ()) h19) ∧
    ((decide (r18 = who3)) = false →
    law3_own.j2 go11 s9 (s9.1, ()) h19))
def law3_own.j4 (c_law3_mod : Int → Int → Heap → (Int → Heap → Prop) → Prop) (picks1 : Sl) (thieves2 : Int) (who3 : Int) (Q : Int → Heap → Prop) (go11 : Den kapiTodo → Heap → Prop) (s9 : Den kapiTodo) (s20 : (Bool × Unit)) (h21 : Heap) : Prop :=
    ((s20.1 = true →
    law3_own.j3 c_law3_mod picks1 thieves2 who3 go11 s9 () h21) ∧
    (s20.1 = false →
    law3_own.j1 Q (s9.1, ()) h21))
def law3_own.l5 (c_law3_mod : Int → Int → Heap → (Int → Heap → Prop) → Prop) (picks1 : Sl) (thieves2 : Int) (who3 : Int) (hi5 : Int) (Q : Int → Heap → Prop) (go11 : Den kapiTodo → Heap → Prop) (s9 : Den kapiTodo) (h10 : Heap) : Prop :=
    (((decide (s9.2.1 < (picks1.len : Int))) = true →
    (((decide (s9.2.1 ≤ hi5)) = true →
    law3_own.j4 c_law3_mod picks1 thieves2 who3 Q go11 s9 (true, ()) h10) ∧
    ((decide (s9.2.1 ≤ hi5)) = false →
    law3_own.j4 c_law3_mod picks1 thieves2 who3 Q go11 s9 ((decide (hi5 < 0)), ()) h10))) ∧
    ((decide (s9.2.1 < (picks1.len : Int))) = false →
    law3_own.j4 c_law3_mod picks1 thieves2 who3 Q go11 s9 (false, ()) h10))
def law3_own.M (c_law3_mod : Int → Int → Heap → (Int → Heap → Prop) → Prop) (picks1 : Sl) (thieves2 : Int) (who3 : Int) (lo4 : Int) (hi5 : Int) (h6 : Heap) (Q : Int → Heap → Prop) : Prop :=
    Loop (law3_own.l5 c_law3_mod picks1 thieves2 who3 hi5 Q) (0, (if lo4 < 0 then 0 else lo4), ()) h6
def law3_own.mk : Mk := (.s .d (.s .d (.j [.slot 11 (.int .i64)] (.s .d (.b (.l [.slot 11 (.int .i64), .slot 12 (.int .i64)] (.j [] (.j [.slot 27 .bool] .d (.c .d .d)) (.j [.slot 11 (.int .i64)] (.b (.s .d (.c .d .d))) .d))))) (.s .d .d))))

def law3_tops.j1 (go5 : (Sl × (Sl × (Int × Den kapiTodo))) → Heap → Prop) (s3 : (Sl × (Sl × (Int × Den kapiTodo)))) (s6 : (Sl × (Sl × Den kapiTodo))) (h7 : Heap) : Prop :=
    go5 (s6.1, s6.2.1, s6.2.2.1, s6.2.2.2.1, (w64 (s3.2.2.2.2.1 + 1)), ()) h7
def law3_tops.j2 (go5 : (Sl × (Sl × (Int × Den kapiTodo))) → Heap → Prop) (s3 : (Sl × (Sl × (Int × Den kapiTodo)))) (t10 : Sl) (t14 : Sl) (t17 : Den kapiAccess) (s18 : (Int × Unit)) (s20 : (Bool × Unit)) (h21 : Heap) : Prop :=
    ((s20.1 = true →
    law3_tops.j1 go5 s3 (t10, t14, s18.1, t17.2.2.2.1, ()) h21) ∧
    (s20.1 = false →
    law3_tops.j1 go5 s3 (t10, t14, s18.1, s3.2.2.2.1, ()) h21))
def law3_tops.j3 (go5 : (Sl × (Sl × (Int × Den kapiTodo))) → Heap → Prop) (s3 : (Sl × (Sl × (Int × Den kapiTodo)))) (t10 : Sl) (t14 : Sl) (t17 : Den kapiAccess) (s18 : (Int × Unit)) (h19 : Heap) : Prop :=
    (((decide (t17.2.1 = 1)) = true →
    law3_tops.j2 go5 s3 t10 t14 t17 s18 ((decide (t17.2.2.1 = 1)), ()) h19) ∧
    ((decide (t17.2.1 = 1)) = false →
    law3_tops.j2 go5 s3 t10 t14 t17 s18 (false, ()) h19))
def law3_tops.j4 (go5 : (Sl × (Sl × (Int × Den kapiTodo))) → Heap → Prop) (s3 : (Sl × (Sl × (Int × Den kapiTodo)))) (t10 : Sl) (t14 : Sl) (t17 : Den kapiAccess) (s22 : (Bool × Unit)) (h23 : Heap) : Prop :=
    ((s22.1 = true →
    law3_tops.j3 go5 s3 t10 t14 t17 (t17.2.2.2.2.1, ()) h23) ∧
    (s22.1 = false →
    law3_tops.j3 go5 s3 t10 t14 t17 (s3.2.2.1, ()) h23))
def law3_tops.l5 (log1 : Sl) (Q : (Sl × (Sl × Unit)) → Heap → Prop) (go5 : (Sl × (Sl × (Int × Den kapiTodo))) → Heap → Prop) (s3 : (Sl × (Sl × (Int × Den kapiTodo)))) (h4 : Heap) : Prop :=
    (((decide (s3.2.2.2.2.1 < (log1.len : Int))) = true →
    new h4 (([s3.2.2.1] : List (Den ((.int .i64) : Kd))).flatMap (Kd.cells ((.int .i64) : Kd))) fun p8 h9 =>
    appendM 1 8 h9 s3.1 ⟨some p8, 1, 1⟩ fun t10 h11 =>
    new h11 (([s3.2.2.2.1] : List (Den ((.int .i64) : Kd))).flatMap (Kd.cells ((.int .i64) : Kd))) fun p12 h13 =>
    appendM 1 8 h13 s3.2.1 ⟨some p12, 1, 1⟩ fun t14 h15 =>
    (0 ≤ s3.2.2.2.2.1 ∧ s3.2.2.2.2.1 < (log1.len : Int)) ∧
    deref log1.a fun a16 =>
    ld kapiAccess h15 (a16.add ((s3.2.2.2.2.1 : Int).toNat * 6)) fun t17 =>
    (((decide (t17.2.1 = 2)) = true →
    (((decide (t17.2.2.1 = 0)) = true →
    law3_tops.j4 go5 s3 t10 t14 t17 (t17.2.2.2.2.2.1, ()) h15) ∧
    ((decide (t17.2.2.1 = 0)) = false →
    law3_tops.j4 go5 s3 t10 t14 t17 (false, ()) h15))) ∧
    ((decide (t17.2.1 = 2)) = false →
    law3_tops.j4 go5 s3 t10 t14 t17 (false, ()) h15))) ∧
    ((decide (s3.2.2.2.2.1 < (log1.len : Int))) = false →
    Q (s3.1, s3.2.1, ()) h4))
def law3_tops.M  (log1 : Sl) (h2 : Heap) (Q : (Sl × (Sl × Unit)) → Heap → Prop) : Prop :=
    Loop (law3_tops.l5 log1 Q) (⟨none, 0, 0⟩, ⟨none, 0, 0⟩, 0, 0, 0, ()) h2
def law3_tops.mk : Mk := (.s .d (.s .d (.s .d (.s .d (.s (.s .d (.b (.l [.slot 4 .sl, .slot 5 .sl, .slot 6 (.int .i64), .slot 7 (.int .i64), .slot 8 (.int .i64)] (.s (.s .d (.c .d .d)) (.j [.slot 4 .sl, .slot 5 .sl, .slot 6 (.int .i64), .slot 7 (.int .i64)] (.b (.s .d (.s .d (.s (.r [4]) (.j [.slot 6 (.int .i64)] (.j [.slot 39 .bool] .d (.c .d .d)) (.j [.slot 49 .bool] .d (.c .d .d))))))) .d))))) (.s .d .d))))))

def law3_why.M (c_law3_nth : Den kapiCall → Int → Sl → Int → Sl → Heap → (Int → Heap → Prop) → Prop) (c1 : Den kapiCall) (most2 : Int) (log3 : Sl) (t4 : Sl) (b5 : Sl) (place6 : Sl) (thieves7 : Int) (picks8 : Sl) (h9 : Heap) (Q : Bool → Heap → Prop) : Prop :=
    (((decide (c1.2.1 = 0)) = true →
    c_law3_nth (c1.1, (c1.2.1, (c1.2.2.1, (c1.2.2.2.1, (c1.2.2.2.2.1, (c1.2.2.2.2.2.1, (c1.2.2.2.2.2.2.1, ()))))))) 1 place6 thieves7 picks8 h9 fun r10 h11 =>
    (((decide ((0 : Int) ≤ r10)) = true →
    (0 ≤ r10 ∧ r10 < (b5.len : Int)) ∧
    deref b5.a fun a12 =>
    (0 ≤ r10 ∧ r10 < (t4.len : Int)) ∧
    deref t4.a fun a13 =>
    ld ((.int .i64) : Kd) h11 (a12.add ((r10 : Int).toNat * 1)) fun t14 =>
    ld ((.int .i64) : Kd) h11 (a13.add ((r10 : Int).toNat * 1)) fun t15 =>
    ((((decide (c1.2.2.2.2.2.1 = 3)) == (decide ((w64 (t14 - t15)) = most2))) = true →
    (((decide (c1.2.2.2.2.2.1 = 3)) = true →
    Q true h11) ∧
    ((decide (c1.2.2.2.2.2.1 = 3)) = false →
    Q (decide (c1.2.2.2.2.2.1 = 2)) h11))) ∧
    (((decide (c1.2.2.2.2.2.1 = 3)) == (decide ((w64 (t14 - t15)) = most2))) = false →
    Q false h11))) ∧
    ((decide ((0 : Int) ≤ r10)) = false →
    Q false h11))) ∧
    ((decide (c1.2.1 = 0)) = false →
    (((decide (c1.2.1 = 1)) = true →
    c_law3_nth (c1.1, (c1.2.1, (c1.2.2.1, (c1.2.2.2.1, (c1.2.2.2.2.1, (c1.2.2.2.2.2.1, (c1.2.2.2.2.2.2.1, ()))))))) 3 place6 thieves7 picks8 h9 fun r16 h17 =>
    (((decide (r16 < 0)) = true →
    Q false h17) ∧
    ((decide (r16 < 0)) = false →
    (0 ≤ r16 ∧ r16 < (t4.len : Int)) ∧
    deref t4.a fun a18 =>
    (0 ≤ r16 ∧ r16 < (b5.len : Int)) ∧
    deref b5.a fun a19 =>
    ld ((.int .i64) : Kd) h17 (a18.add ((r16 : Int).toNat * 1)) fun t20 =>
    ld ((.int .i64) : Kd) h17 (a19.add ((r16 : Int).toNat * 1)) fun t21 =>
    (((decide (t21 < t20)) = true →
    Q (decide (c1.2.2.2.2.2.1 = 5)) h17) ∧
    ((decide (t21 < t20)) = false →
    (0 ≤ r16 ∧ r16 < (t4.len : Int)) ∧
    deref t4.a fun a22 =>
    (0 ≤ r16 ∧ r16 < (b5.len : Int)) ∧
    deref b5.a fun a23 =>
    ld ((.int .i64) : Kd) h17 (a22.add ((r16 : Int).toNat * 1)) fun t24 =>
    ld ((.int .i64) : Kd) h17 (a23.add ((r16 : Int).toNat * 1)) fun t25 =>
    (((decide (t24 < t25)) = true →
    (((decide (c1.2.2.2.2.2.1 = 4)) = true →
    c_law3_nth (c1.1, (c1.2.1, (c1.2.2.1, (c1.2.2.2.1, (c1.2.2.2.2.1, (c1.2.2.2.2.2.1, (c1.2.2.2.2.2.2.1, ()))))))) 6 place6 thieves7 picks8 h17 fun r26 h27 =>
    Q (decide (r26 < 0)) h27) ∧
    ((decide (c1.2.2.2.2.2.1 = 4)) = false →
    Q false h17))) ∧
    ((decide (t24 < t25)) = false →
    c_law3_nth (c1.1, (c1.2.1, (c1.2.2.1, (c1.2.2.2.1, (c1.2.2.2.2.1, (c1.2.2.2.2.2.1, (c1.2.2.2.2.2.2.1, ()))))))) 6 place6 thieves7 picks8 h17 fun r28 h29 =>
    (((decide ((0 : Int) ≤ r28)) = true →
    (0 ≤ r28 ∧ r28 < (log3.len : Int)) ∧
    deref log3.a fun a30 =>
    ld ((.int .i64) : Kd) h29 ((a30.add ((r28 : Int).toNat * 6)).add 1) fun t31 =>
    (((decide (t31 = 2)) = true →
    (0 ≤ r28 ∧ r28 < (log3.len : Int)) ∧
    deref log3.a fun a32 =>
    ld (.bool : Kd) h29 ((a32.add ((r28 : Int).toNat * 6)).add 5) fun t33 =>
    ((((decide (c1.2.2.2.2.2.1 = 4)) == t33) = true →
    (((decide (c1.2.2.2.2.2.1 = 4)) = true →
    Q true h29) ∧
    ((decide (c1.2.2.2.2.2.1 = 4)) = false →
    Q (decide (c1.2.2.2.2.2.1 = 5)) h29))) ∧
    (((decide (c1.2.2.2.2.2.1 = 4)) == t33) = false →
    Q false h29))) ∧
    ((decide (t31 = 2)) = false →
    Q false h29))) ∧
    ((decide ((0 : Int) ≤ r28)) = false →
    Q false h29))))))))) ∧
    ((decide (c1.2.1 = 1)) = false →
    c_law3_nth (c1.1, (c1.2.1, (c1.2.2.1, (c1.2.2.2.1, (c1.2.2.2.2.1, (c1.2.2.2.2.2.1, (c1.2.2.2.2.2.2.1, ()))))))) 1 place6 thieves7 picks8 h9 fun r34 h35 =>
    (((decide (r34 < 0)) = true →
    Q false h35) ∧
    ((decide (r34 < 0)) = false →
    (((decide (c1.2.2.2.2.2.1 = 5)) = true →
    (0 ≤ r34 ∧ r34 < (b5.len : Int)) ∧
    deref b5.a fun a36 =>
    (0 ≤ r34 ∧ r34 < (t4.len : Int)) ∧
    deref t4.a fun a37 =>
    ld ((.int .i64) : Kd) h35 (a36.add ((r34 : Int).toNat * 1)) fun t38 =>
    ld ((.int .i64) : Kd) h35 (a37.add ((r34 : Int).toNat * 1)) fun t39 =>
    Q (decide (t38 ≤ t39)) h35) ∧
    ((decide (c1.2.2.2.2.2.1 = 5)) = false →
    c_law3_nth (c1.1, (c1.2.1, (c1.2.2.1, (c1.2.2.2.1, (c1.2.2.2.2.1, (c1.2.2.2.2.2.1, (c1.2.2.2.2.2.2.1, ()))))))) 5 place6 thieves7 picks8 h35 fun r40 h41 =>
    (((decide ((0 : Int) ≤ r40)) = true →
    (0 ≤ r40 ∧ r40 < (log3.len : Int)) ∧
    deref log3.a fun a42 =>
    ld ((.int .i64) : Kd) h41 ((a42.add ((r40 : Int).toNat * 6)).add 1) fun t43 =>
    (((decide (t43 = 2)) = true →
    (0 ≤ r40 ∧ r40 < (log3.len : Int)) ∧
    deref log3.a fun a44 =>
    ld (.bool : Kd) h41 ((a44.add ((r40 : Int).toNat * 6)).add 5) fun t45 =>
    ((((decide (c1.2.2.2.2.2.1 = 4)) == t45) = true →
    (((decide (c1.2.2.2.2.2.1 = 4)) = true →
    Q true h41) ∧
    ((decide (c1.2.2.2.2.2.1 = 4)) = false →
    Q (decide (c1.2.2.2.2.2.1 = 6)) h41))) ∧
    (((decide (c1.2.2.2.2.2.1 = 4)) == t45) = false →
    Q false h41))) ∧
    ((decide (t43 = 2)) = false →
    Q false h41))) ∧
    ((decide ((0 : Int) ≤ r40)) = false →
    Q false h41))))))))))
def law3_why.mk : Mk := (.s (.r [0]) (.s (.s .d (.b (.s .d (.c (.s .d (.s (.q [] [] [.p 0, .p 1, .p 2, .p 3, .p 6, .p 7, .p 8, .p 10, .p 11, .p 12, .p 15, .w 4 [4, 5, 17, 18, 19, 20, 21, 22, 23, 24, 25, 26, 27, 28, 29], .p 5, .w 9 [9, 14, 16, 17, 18, 19, 20, 21, 22, 23, 24, 25, 26, 27, 28, 29], .w 13 [13, 14, 16, 17, 18, 19, 20, 21, 22, 23, 24, 25, 26, 27, 28, 29], .p 14, .p 16, .p 17, .p 18, .p 19, .p 20, .w 21 [21, 22, 23, 24, 25, 26, 27, 28, 29], .p 22, .p 23, .p 24, .w 25 [25, 26, 27, 28, 29], .p 26, .p 27, .p 28, .p 29]) .d)) (.s .d (.c (.s .d (.s (.s .d (.c (.s .d .d) .d)) (.s (.s (.q [] [] [.p 0, .p 1, .p 2, .p 4, .p 5, .p 6, .w 3 [3, 8], .w 7 [7, 8], .p 8]) (.c (.s .d .d) .d)) (.s (.s (.q [] [] [.p 0, .p 1, .p 2, .p 4, .p 5, .p 6, .w 3 [3, 8], .w 7 [7, 8], .p 8]) (.c (.s .d .d) .d)) (.s .d (.s (.q [] [] [.p 0, .p 1, .p 2, .p 3, .p 4, .p 5, .p 6, .w 7 [7, 8, 9, 10, 11, 12, 13, 14, 15, 16, 17, 18, 19, 20, 21, 22, 23, 24, 25, 26, 27, 28, 29, 30, 31], .p 8, .p 9, .p 10, .p 11, .p 14, .p 15, .p 16, .p 17, .w 12 [12, 13, 19, 20, 21, 22, 23, 24, 25, 26, 27, 28, 29, 30, 31], .p 13, .w 18 [18, 19, 20, 21, 22, 23, 24, 25, 26, 27, 28, 29, 30, 31], .p 19, .p 20, .p 21, .p 22, .w 23 [23, 24, 25, 26, 27, 28, 29, 30, 31], .p 24, .p 25, .p 26, .w 27 [27, 28, 29, 30, 31], .p 28, .p 29, .p 30, .p 31]) .d)))))) .d)))))) (.s .d (.s (.s .d (.c (.s .d .d) .d)) (.s (.s .d (.c (.s (.q [] [] [.p 0, .p 1, .p 2, .p 4, .p 5, .p 6, .w 3 [3, 8, 9], .w 7 [7, 8, 9], .p 8, .p 9]) .d) .d)) (.s .d (.s (.q [] [] [.p 0, .p 1, .p 2, .p 3, .p 4, .p 5, .p 6, .w 7 [7, 8, 9, 10, 11, 12, 13, 14, 15, 16, 17, 18, 19, 20, 21, 22, 23, 24, 25, 26, 27, 28, 29, 30, 31], .p 8, .p 9, .p 10, .p 11, .p 14, .p 15, .p 16, .p 17, .w 12 [12, 13, 19, 20, 21, 22, 23, 24, 25, 26, 27, 28, 29, 30, 31], .p 13, .w 18 [18, 19, 20, 21, 22, 23, 24, 25, 26, 27, 28, 29, 30, 31], .p 19, .p 20, .p 21, .p 22, .w 23 [23, 24, 25, 26, 27, 28, 29, 30, 31], .p 24, .p 25, .p 26, .w 27 [27, 28, 29, 30, 31], .p 28, .p 29, .p 30, .p 31]) .d)))))))

def deque_judged.j1 (go11 : (Int × Unit) → Heap → Prop) (s9 : (Int × Unit)) (s12 : Unit) (h13 : Heap) : Prop :=
    go11 ((w64 (s9.1 + 1)), ()) h13
def deque_judged.j2 (Q : Int → Heap → Prop) (go11 : (Int × Unit) → Heap → Prop) (s9 : (Int × Unit)) (s16 : (Bool × Unit)) (h17 : Heap) : Prop :=
    ((s16.1 = true →
    Q 31 h17) ∧
    (s16.1 = false →
    deque_judged.j1 go11 s9 () h17))
def deque_judged.l3 (todos3 : Sl) (Q : Int → Heap → Prop) (go11 : (Int × Unit) → Heap → Prop) (s9 : (Int × Unit)) (h10 : Heap) : Prop :=
    (((decide (s9.1 < (todos3.len : Int))) = true →
    (0 ≤ s9.1 ∧ s9.1 < (todos3.len : Int)) ∧
    deref todos3.a fun a14 =>
    ld kapiTodo h10 (a14.add ((s9.1 : Int).toNat * 2)) fun t15 =>
    (((decide (t15.1 ≠ 0)) = true →
    deque_judged.j2 Q go11 s9 ((decide (t15.1 ≠ 1)), ()) h10) ∧
    ((decide (t15.1 ≠ 0)) = false →
    deque_judged.j2 Q go11 s9 (false, ()) h10))) ∧
    ((decide (s9.1 < (todos3.len : Int))) = false →
    Q 0 h10))
def deque_judged.j4 (todos3 : Sl) (Q : Int → Heap → Prop) (s7 : Unit) (h8 : Heap) : Prop :=
    Loop (deque_judged.l3 todos3 Q) (0, ()) h8
def deque_judged.j5 (todos3 : Sl) (Q : Int → Heap → Prop) (s22 : (Bool × Unit)) (h23 : Heap) : Prop :=
    ((s22.1 = true →
    Q 3 h23) ∧
    (s22.1 = false →
    deque_judged.j4 todos3 Q () h23))
def deque_judged.j6 (c_deque_capsOK : Int → Int → Heap → (Bool → Heap → Prop) → Prop) (low1 : Int) (most2 : Int) (todos3 : Sl) (thieves4 : Int) (Q : Int → Heap → Prop) (s18 : (Bool × Unit)) (h19 : Heap) : Prop :=
    ((s18.1 = true →
    Q 2 h19) ∧
    (s18.1 = false →
    c_deque_capsOK low1 most2 h19 fun r20 h21 =>
    (((!r20) = true →
    Q 30 h21) ∧
    ((!r20) = false →
    (((decide (thieves4 < 0)) = true →
    deque_judged.j5 todos3 Q (true, ()) h21) ∧
    ((decide (thieves4 < 0)) = false →
    deque_judged.j5 todos3 Q ((decide ((3 : Int) < thieves4)), ()) h21))))))
def deque_judged.M (c_deque_capsOK : Int → Int → Heap → (Bool → Heap → Prop) → Prop) (low1 : Int) (most2 : Int) (todos3 : Sl) (thieves4 : Int) (picks5 : Sl) (h6 : Heap) (Q : Int → Heap → Prop) : Prop :=
    (((decide ((4096 : Int) < (todos3.len : Int))) = true →
    deque_judged.j6 c_deque_capsOK low1 most2 todos3 thieves4 Q (true, ()) h6) ∧
    ((decide ((4096 : Int) < (todos3.len : Int))) = false →
    deque_judged.j6 c_deque_capsOK low1 most2 todos3 thieves4 Q ((decide ((1048576 : Int) < (picks5.len : Int))), ()) h6))
def deque_judged.mk : Mk := (.s .d (.j [] (.b (.j [.slot 13 .bool] .d (.c (.s .d .d) (.s .d (.c (.s .d .d) (.j [.slot 27 .bool] .d (.c (.s .d .d) .d))))))) (.s (.s .d (.b (.l [.slot 36 (.int .i64)] (.s .d (.s (.c .d .d) (.j [] (.b (.s (.r [2]) (.j [.slot 47 .bool] .d (.c (.s .d .d) .d)))) .d)))))) (.s .d .d))))

def cells_New.M (c_cells_good : Int → Heap → (Bool → Heap → Prop) → Prop) (size1 : Int) (h2 : Heap) (Q : (Option Addr × (Int × Unit)) → Heap → Prop) : Prop :=
    c_cells_good size1 h2 fun r3 h4 =>
    (((!r3) = true →
    Q (none, 3, ()) h4) ∧
    ((!r3) = false →
    new h4 (kcellsArena.cells ((size1, (0, ())), (Sl.none, (Sl.none, (0, (false, ())))))) fun p5 h6 =>
    Q ((some p5), 0, ()) h6))
def cells_New.mk : Mk := (.s .d (.s (.s .d (.c (.s .d .d) .d)) (.s .d .d)))

def deque_Cells.l1 (most2 : Int) (Q : Int → Heap → Prop) (go8 : Den kapiTodo → Heap → Prop) (s6 : Den kapiTodo) (h7 : Heap) : Prop :=
    (((decide (s6.2.1 < most2)) = true →
    go8 ((w64 (s6.1 + (w64 (1 + (if most2 < (w64 (2 * s6.2.1)) then most2 else (w64 (2 * s6.2.1))))))), (if most2 < (w64 (2 * s6.2.1)) then most2 else (w64 (2 * s6.2.1))), ()) h7) ∧
    ((decide (s6.2.1 < most2)) = false →
    Q s6.1 h7))
def deque_Cells.M (c_deque_capsOK : Int → Int → Heap → (Bool → Heap → Prop) → Prop) (low1 : Int) (most2 : Int) (h3 : Heap) (Q : Int → Heap → Prop) : Prop :=
    c_deque_capsOK low1 most2 h3 fun r4 h5 =>
    (((!r4) = true →
    Q 0 h5) ∧
    ((!r4) = false →
    Loop (deque_Cells.l1 most2 Q) ((w64 (4 + low1)), low1, ()) h5))
def deque_Cells.mk : Mk := (.s .d (.s (.s .d (.c (.s .d .d) .d)) (.s .d (.s (.s .d (.b (.l [.slot 5 (.int .i64), .slot 6 (.int .i64)] (.s (.s .d (.c .d .d)) (.b (.s .d .d)))))) (.s .d .d)))))

def deque_New.M (c_deque_capsOK : Int → Int → Heap → (Bool → Heap → Prop) → Prop) (c_inv_Reserve : Value → Int → Heap → (Den kapiTodo → Heap → Prop) → Prop) (c_inv_Store : Value → Int → Int → Heap → (Int → Heap → Prop) → Prop) (m1 : Value) (low2 : Int) (most3 : Int) (h4 : Heap) (Q : (Den kapiTodo × (Int × Unit)) → Heap → Prop) : Prop :=
    isI m1 ∧
    (((isNilI m1) = true →
    Q ((0, (0, ())), 1, ()) h4) ∧
    ((isNilI m1) = false →
    c_deque_capsOK low2 most3 h4 fun r5 h6 =>
    (((!r5) = true →
    Q ((0, (0, ())), 30, ()) h6) ∧
    ((!r5) = false →
    c_inv_Reserve m1 (w64 (4 + low2)) h6 fun r7 h8 =>
    (((decide (r7.2.1 ≠ 0)) = true →
    Q ((0, (0, ())), r7.2.1, ()) h8) ∧
    ((decide (r7.2.1 ≠ 0)) = false →
    c_inv_Store m1 (w64 (r7.1 + 2)) (w64 (r7.1 + 3)) h8 fun r9 h10 =>
    (((decide (r9 ≠ 0)) = true →
    Q ((0, (0, ())), r9, ()) h10) ∧
    ((decide (r9 ≠ 0)) = false →
    c_inv_Store m1 (w64 (r7.1 + 3)) low2 h10 fun r11 h12 =>
    (((decide (r11 ≠ 0)) = true →
    Q ((0, (0, ())), r11, ()) h12) ∧
    ((decide (r11 ≠ 0)) = false →
    Q ((r7.1, (most3, ())), 0, ()) h12))))))))))
def deque_New.mk : Mk := (.s (.r [0]) (.s (.s .d (.c (.s .d .d) .d)) (.s (.s .d (.c (.s .d .d) .d)) (.s .d (.s (.s .d (.c (.s .d .d) .d)) (.s (.s .d (.s .d (.c (.s .d .d) .d))) (.s (.s .d (.s .d (.c (.s .d .d) .d))) (.s .d .d))))))))

def cells_Arena_Watch.M  (a1 : Option Addr) (on2 : Bool) (h3 : Heap) (Q : Unit → Heap → Prop) : Prop :=
    (((Option.isSome a1) = true →
    deref a1 fun a4 =>
    st (.bool : Kd) h3 (a4.add 5) on2 fun h5 =>
    Q () h5) ∧
    ((Option.isSome a1) = false →
    Q () h3))
def cells_Arena_Watch.mk : Mk := (.s .d (.c .d .d))

def deque_game_step.j1 (c_cells_Arena_Who : Option Addr → Int → Heap → (Unit → Heap → Prop) → Prop) (c_deque_Step : Value → Den kdequeOp → Heap → (Den kdequeOp → Heap → Prop) → Prop) (c_deque_Answer : Den kdequeOp → Heap → (Den kapiTodo → Heap → Prop) → Prop) (g1 : Option Addr) (n2 : Int) (who3 : Int) (Q : Unit → Heap → Prop) (s5 : Unit) (h6 : Heap) : Prop :=
    deref g1 fun a7 =>
    ld (.sl : Kd) h6 (a7.add 4) fun t8 =>
    (0 ≤ who3 ∧ who3 < (t8.len : Int)) ∧
    deref t8.a fun a9 =>
    deref g1 fun a10 =>
    ld (.ptr : Kd) h6 (a10.add 0) fun t11 =>
    c_cells_Arena_Who t11 who3 h6 fun r12 h13 =>
    deref g1 fun a14 =>
    ld (.ptr : Kd) h13 (a14.add 0) fun t15 =>
    ld kdequeOp h13 ((a9.add ((who3 : Int).toNat * 17)).add 0) fun t16 =>
    c_deque_Step (Value.iface 54 (Kd.val (.ptr : Kd) t15)) t16 h13 fun r17 h18 =>
    st kdequeOp h18 ((a9.add ((who3 : Int).toNat * 17)).add 0) r17 fun h19 =>
    ld kdequeOp h19 ((a9.add ((who3 : Int).toNat * 17)).add 0) fun t20 =>
    c_deque_Answer t20 h19 fun r21 h22 =>
    (((decide (r21.1 = 0)) = true →
    Q () h22) ∧
    ((decide (r21.1 = 0)) = false →
    deref g1 fun a23 =>
    ld (.sl : Kd) h22 (a23.add 5) fun t24 =>
    ld ((.int .i64) : Kd) h22 ((a9.add ((who3 : Int).toNat * 17)).add 16) fun t25 =>
    (0 ≤ t25 ∧ t25 < (t24.len : Int)) ∧
    deref t24.a fun a26 =>
    st ((.int .i64) : Kd) h22 ((a26.add ((t25 : Int).toNat * 7)).add 4) n2 fun h27 =>
    st ((.int .i64) : Kd) h27 ((a26.add ((t25 : Int).toNat * 7)).add 5) r21.1 fun h28 =>
    st ((.int .i64) : Kd) h28 ((a26.add ((t25 : Int).toNat * 7)).add 6) r21.2.1 fun h29 =>
    st ((.int .i64) : Kd) h29 ((a9.add ((who3 : Int).toNat * 17)).add 16) (-1) fun h30 =>
    Q () h30))
def deque_game_step.j2 (c_cells_Arena_Who : Option Addr → Int → Heap → (Unit → Heap → Prop) → Prop) (c_deque_Step : Value → Den kdequeOp → Heap → (Den kdequeOp → Heap → Prop) → Prop) (c_deque_Answer : Den kdequeOp → Heap → (Den kapiTodo → Heap → Prop) → Prop) (g1 : Option Addr) (n2 : Int) (who3 : Int) (Q : Unit → Heap → Prop) (s31 : (Bool × Unit)) (h32 : Heap) : Prop :=
    ((s31.1 = true →
    Q () h32) ∧
    (s31.1 = false →
    deque_game_step.j1 c_cells_Arena_Who c_deque_Step c_deque_Answer g1 n2 who3 Q () h32))
def deque_game_step.M (c_deque_game_begin : Option Addr → Int → Int → Heap → (Bool → Heap → Prop) → Prop) (c_cells_Arena_Who : Option Addr → Int → Heap → (Unit → Heap → Prop) → Prop) (c_deque_Step : Value → Den kdequeOp → Heap → (Den kdequeOp → Heap → Prop) → Prop) (c_deque_Answer : Den kdequeOp → Heap → (Den kapiTodo → Heap → Prop) → Prop) (g1 : Option Addr) (n2 : Int) (who3 : Int) (h4 : Heap) (Q : Unit → Heap → Prop) : Prop :=
    deref g1 fun a33 =>
    ld (.sl : Kd) h4 (a33.add 4) fun t34 =>
    (0 ≤ who3 ∧ who3 < (t34.len : Int)) ∧
    deref t34.a fun a35 =>
    ld ((.int .i64) : Kd) h4 ((a35.add ((who3 : Int).toNat * 17)).add 16) fun t36 =>
    (((decide (t36 < 0)) = true →
    c_deque_game_begin g1 n2 who3 h4 fun r37 h38 =>
    deque_game_step.j2 c_cells_Arena_Who c_deque_Step c_deque_Answer g1 n2 who3 Q ((!r37), ()) h38) ∧
    ((decide (t36 < 0)) = false →
    deque_game_step.j2 c_cells_Arena_Who c_deque_Step c_deque_Answer g1 n2 who3 Q (false, ()) h4))
def deque_game_step.mk : Mk := (.j [] (.j [.slot 25 .bool] .d (.c .d .d)) (.s .d (.s .d (.s (.q [] [] [.p 0, .p 1, .p 2, .p 3, .p 6, .p 7, .p 8, .w 4 [4, 5, 10, 11, 12, 13], .p 5, .w 9 [9, 10, 11, 12, 13], .o 10, .p 11, .p 12, .o 13]) (.s .d (.s (.s .d (.c .d .d)) (.s (.q [] [] [.p 0, .p 1, .p 2, .p 4, .p 5, .p 6, .w 3 [3, 8, 9], .w 7 [7, 8, 9], .p 8, .p 9]) (.s .d .d))))))))

def ops_Mod.j1 (Q : Int → Heap → Prop) (s4 : (Int × Unit)) (h5 : Heap) : Prop :=
    Q s4.1 h5
def ops_Mod.M  (x1 : Int) (n2 : Int) (h3 : Heap) (Q : Int → Heap → Prop) : Prop :=
    (((decide (n2 < 1)) = true →
    Q 0 h3) ∧
    ((decide (n2 < 1)) = false →
    n2 ≠ 0 ∧
    (((decide ((Int.tmod x1 n2) < 0)) = true →
    ops_Mod.j1 Q ((w64 ((Int.tmod x1 n2) + n2)), ()) h3) ∧
    ((decide ((Int.tmod x1 n2) < 0)) = false →
    ops_Mod.j1 Q ((Int.tmod x1 n2), ()) h3))))
def ops_Mod.mk : Mk := (.s .d (.s (.s .d (.c (.s .d .d) .d)) (.s .d (.j [.slot 5 (.int .i64)] (.s .d (.c .d .d)) (.s .d .d)))))

def deque_game_rest.l1 (c_deque_place : Int → Int → Int → Heap → (Int → Heap → Prop) → Prop) (g1 : Option Addr) (Q : Sl → Heap → Prop) (r5 : Sl) (t12 : Int) (go19 : (Sl × (Int × Unit)) → Heap → Prop) (s17 : (Sl × (Int × Unit))) (h18 : Heap) : Prop :=
    deref g1 fun a20 =>
    ld ((.int .i64) : Kd) h18 ((a20.add 1).add 0) fun t21 =>
    (0 ≤ (w64 (t21 + 1)) ∧ (w64 (t21 + 1)) < (r5.len : Int)) ∧
    deref r5.a fun a22 =>
    ld ((.int .i64) : Kd) h18 (a22.add (((w64 (t21 + 1)) : Int).toNat * 1)) fun t23 =>
    (((decide (s17.2.1 < t23)) = true →
    (0 ≤ t12 ∧ t12 < (r5.len : Int)) ∧
    deref r5.a fun a24 =>
    ld ((.int .i64) : Kd) h18 (a24.add ((t12 : Int).toNat * 1)) fun t25 =>
    c_deque_place t12 t25 s17.2.1 h18 fun r26 h27 =>
    (0 ≤ r26 ∧ r26 < (r5.len : Int)) ∧
    deref r5.a fun a28 =>
    ld ((.int .i64) : Kd) h27 (a28.add ((r26 : Int).toNat * 1)) fun t29 =>
    new h27 (([t29] : List (Den ((.int .i64) : Kd))).flatMap (Kd.cells ((.int .i64) : Kd))) fun p30 h31 =>
    appendM 1 8 h31 s17.1 ⟨some p30, 1, 1⟩ fun t32 h33 =>
    go19 (t32, (w64 (s17.2.1 + 1)), ()) h33) ∧
    ((decide (s17.2.1 < t23)) = false →
    Q s17.1 h18))
def deque_game_rest.M (c_cells_Arena_Cells : Option Addr → Heap → (Sl → Heap → Prop) → Prop) (c_deque_place : Int → Int → Int → Heap → (Int → Heap → Prop) → Prop) (g1 : Option Addr) (h2 : Heap) (Q : Sl → Heap → Prop) : Prop :=
    deref g1 fun a3 =>
    ld (.ptr : Kd) h2 (a3.add 0) fun t4 =>
    c_cells_Arena_Cells t4 h2 fun r5 h6 =>
    deref g1 fun a7 =>
    ld ((.int .i64) : Kd) h6 ((a7.add 1).add 0) fun t8 =>
    (((decide ((r5.len : Int) ≤ (w64 (t8 + 2)))) = true →
    Q ⟨none, 0, 0⟩ h6) ∧
    ((decide ((r5.len : Int) ≤ (w64 (t8 + 2)))) = false →
    deref g1 fun a9 =>
    ld ((.int .i64) : Kd) h6 ((a9.add 1).add 0) fun t10 =>
    (0 ≤ (w64 (t10 + 2)) ∧ (w64 (t10 + 2)) < (r5.len : Int)) ∧
    deref r5.a fun a11 =>
    ld ((.int .i64) : Kd) h6 (a11.add (((w64 (t10 + 2)) : Int).toNat * 1)) fun t12 =>
    deref g1 fun a13 =>
    ld ((.int .i64) : Kd) h6 ((a13.add 1).add 0) fun t14 =>
    (0 ≤ (w64 (t14 + 0)) ∧ (w64 (t14 + 0)) < (r5.len : Int)) ∧
    deref r5.a fun a15 =>
    ld ((.int .i64) : Kd) h6 (a15.add (((w64 (t14 + 0)) : Int).toNat * 1)) fun t16 =>
    Loop (deque_game_rest.l1 c_deque_place g1 Q r5 t12) (⟨none, 0, 0⟩, t16, ()) h6))
def deque_game_rest.mk : Mk := (.s .d (.s .d (.s .d (.s (.s .d (.c (.s .d .d) .d)) (.s .d (.s (.s .d (.b (.l [.slot 3 .sl, .slot 6 (.int .i64)] (.s (.s .d (.c .d .d)) (.s (.b .d) .d))))) (.s .d .d)))))))

def cells_Arena_Log.M  (a1 : Option Addr) (h2 : Heap) (Q : Sl → Heap → Prop) : Prop :=
    (((Option.isNone a1) = true →
    Q ⟨none, 0, 0⟩ h2) ∧
    ((Option.isNone a1) = false →
    deref a1 fun a3 =>
    ld (.sl : Kd) h2 (a3.add 3) fun t4 =>
    makeM kapiAccess 48 h2 (t4.len : Int) (t4.len : Int) fun s5 h6 =>
    deref a1 fun a7 =>
    ld (.sl : Kd) h6 (a7.add 3) fun t8 =>
    copyM 6 h6 s5 t8 fun n9 h10 =>
    Q s5 h10))
def cells_Arena_Log.mk : Mk := (.s .d (.s (.s .d (.c (.s .d .d) .d)) (.s .d (.s .d (.s .d .d)))))

def law3_capsOK.M  (first1 : Int) (most2 : Int) (h3 : Heap) (Q : Bool → Heap → Prop) : Prop :=
    (((decide ((1 : Int) ≤ first1)) = true →
    (((decide (first1 ≤ most2)) = true →
    Q (decide (most2 ≤ 4096)) h3) ∧
    ((decide (first1 ≤ most2)) = false →
    Q false h3))) ∧
    ((decide ((1 : Int) ≤ first1)) = false →
    Q false h3))
def law3_capsOK.mk : Mk := (.s .d (.s .d .d))

def law3_nth.j1 (Q : Int → Heap → Prop) (s7 : Unit) (h8 : Heap) : Prop :=
    Q (-1) h8
def law3_nth.j2 (go11 : Den kapiTodo → Heap → Prop) (s9 : Den kapiTodo) (s14 : (Int × Unit)) (h15 : Heap) : Prop :=
    go11 (s14.1, (w64 (s9.2.1 + 1)), ()) h15
def law3_nth.j3 (c_law3_mod : Int → Int → Heap → (Int → Heap → Prop) → Prop) (c1 : Den kapiCall) (place3 : Sl) (thieves4 : Int) (picks5 : Sl) (Q : Int → Heap → Prop) (go11 : Den kapiTodo → Heap → Prop) (s9 : Den kapiTodo) (s12 : Unit) (h13 : Heap) : Prop :=
    (0 ≤ s9.2.1 ∧ s9.2.1 < (picks5.len : Int)) ∧
    deref picks5.a fun a16 =>
    ld ((.int .i64) : Kd) h13 (a16.add ((s9.2.1 : Int).toNat * 1)) fun t17 =>
    c_law3_mod t17 (w64 (1 + thieves4)) h13 fun r18 h19 =>
    (((decide (r18 ≠ c1.1)) = true →
    law3_nth.j2 go11 s9 (s9.1, ()) h19) ∧
    ((decide (r18 ≠ c1.1)) = false →
    (((decide (s9.1 = 0)) = true →
    (0 ≤ s9.2.1 ∧ s9.2.1 < (place3.len : Int)) ∧
    deref place3.a fun a20 =>
    ld ((.int .i64) : Kd) h19 (a20.add ((s9.2.1 : Int).toNat * 1)) fun t21 =>
    Q t21 h19) ∧
    ((decide (s9.1 = 0)) = false →
    law3_nth.j2 go11 s9 ((w64 (s9.1 - 1)), ()) h19))))
def law3_nth.j4 (c_law3_mod : Int → Int → Heap → (Int → Heap → Prop) → Prop) (c1 : Den kapiCall) (place3 : Sl) (thieves4 : Int) (picks5 : Sl) (Q : Int → Heap → Prop) (go11 : Den kapiTodo → Heap → Prop) (s9 : Den kapiTodo) (s22 : (Bool × Unit)) (h23 : Heap) : Prop :=
    ((s22.1 = true →
    law3_nth.j3 c_law3_mod c1 place3 thieves4 picks5 Q go11 s9 () h23) ∧
    (s22.1 = false →
    law3_nth.j1 Q () h23))
def law3_nth.l5 (c_law3_mod : Int → Int → Heap → (Int → Heap → Prop) → Prop) (c1 : Den kapiCall) (place3 : Sl) (thieves4 : Int) (picks5 : Sl) (Q : Int → Heap → Prop) (go11 : Den kapiTodo → Heap → Prop) (s9 : Den kapiTodo) (h10 : Heap) : Prop :=
    (((decide (s9.2.1 < (picks5.len : Int))) = true →
    (((decide (s9.2.1 ≤ c1.2.2.2.2.1)) = true →
    law3_nth.j4 c_law3_mod c1 place3 thieves4 picks5 Q go11 s9 (true, ()) h10) ∧
    ((decide (s9.2.1 ≤ c1.2.2.2.2.1)) = false →
    law3_nth.j4 c_law3_mod c1 place3 thieves4 picks5 Q go11 s9 ((decide (c1.2.2.2.2.1 < 0)), ()) h10))) ∧
    ((decide (s9.2.1 < (picks5.len : Int))) = false →
    law3_nth.j4 c_law3_mod c1 place3 thieves4 picks5 Q go11 s9 (false, ()) h10))
def law3_nth.M (c_law3_mod : Int → Int → Heap → (Int → Heap → Prop) → Prop) (c1 : Den kapiCall) (n2 : Int) (place3 : Sl) (thieves4 : Int) (picks5 : Sl) (h6 : Heap) (Q : Int → Heap → Prop) : Prop :=
    Loop (law3_nth.l5 c_law3_mod c1 place3 thieves4 picks5 Q) (n2, c1.2.2.2.1, ()) h6
def law3_nth.mk : Mk := (.s (.r [0]) (.j [] (.s .d (.b (.l [.slot 1 (.int .i64), .slot 11 (.int .i64)] (.j [] (.j [.slot 28 .bool] .d (.c .d .d)) (.j [.slot 1 (.int .i64)] (.b (.s (.s (.q [] [] [.p 0, .p 1, .p 2, .p 4, .p 5, .p 7, .w 3 [3, 6, 9], .w 8 [8, 9], .o 6, .p 9]) (.c .d .d)) (.s (.s .d (.c (.s .d .d) .d)) .d))) .d))))) (.s .d .d)))

def deque_capsOK.M  (low1 : Int) (most2 : Int) (h3 : Heap) (Q : Bool → Heap → Prop) : Prop :=
    (((decide ((1 : Int) ≤ low1)) = true →
    (((decide (low1 ≤ most2)) = true →
    Q (decide (most2 ≤ 4096)) h3) ∧
    ((decide (low1 ≤ most2)) = false →
    Q false h3))) ∧
    ((decide ((1 : Int) ≤ low1)) = false →
    Q false h3))
def deque_capsOK.mk : Mk := (.s .d (.s .d .d))

def cells_good.M  (size1 : Int) (h2 : Heap) (Q : Bool → Heap → Prop) : Prop :=
    (((decide ((0 : Int) ≤ size1)) = true →
    Q (decide (size1 ≤ 1048576)) h2) ∧
    ((decide ((0 : Int) ≤ size1)) = false →
    Q false h2))
def cells_good.mk : Mk := (.s .d (.s .d .d))

def deque_game_begin.j1 (g1 : Option Addr) (who3 : Int) (Q : Bool → Heap → Prop) (s9 : (Den kapiCall × ((Int × (Int × (Int × (Int × (Int × (Int × (Int × (Int × (Int × (Int × (Int × (Int × (Int × (Bool × Den kapiTodo)))))))))))))) × Unit))) (h10 : Heap) : Prop :=
    deref g1 fun a11 =>
    deref g1 fun a12 =>
    ld (.sl : Kd) h10 (a11.add 4) fun t13 =>
    ld (.sl : Kd) h10 (a12.add 5) fun t14 =>
    (0 ≤ who3 ∧ who3 < (t13.len : Int)) ∧
    deref t13.a fun a15 =>
    st kdequeactor h10 (a15.add ((who3 : Int).toNat * 17)) ((s9.2.1.1, (s9.2.1.2.1, ((s9.2.1.2.2.1, (s9.2.1.2.2.2.1, ())), (s9.2.1.2.2.2.2.1, (s9.2.1.2.2.2.2.2.1, (s9.2.1.2.2.2.2.2.2.1, (s9.2.1.2.2.2.2.2.2.2.1, (s9.2.1.2.2.2.2.2.2.2.2.1, (s9.2.1.2.2.2.2.2.2.2.2.2.1, (s9.2.1.2.2.2.2.2.2.2.2.2.2.1, (s9.2.1.2.2.2.2.2.2.2.2.2.2.2.1, (s9.2.1.2.2.2.2.2.2.2.2.2.2.2.2.1, (s9.2.1.2.2.2.2.2.2.2.2.2.2.2.2.2.1, (s9.2.1.2.2.2.2.2.2.2.2.2.2.2.2.2.2.1, (s9.2.1.2.2.2.2.2.2.2.2.2.2.2.2.2.2.2.1, ()))))))))))))))), ((t14.len : Int), ())) fun h16 =>
    deref g1 fun a17 =>
    ld (.sl : Kd) h16 (a17.add 5) fun t18 =>
    new h16 (([(s9.1.1, (s9.1.2.1, (s9.1.2.2.1, (s9.1.2.2.2.1, (s9.1.2.2.2.2.1, (s9.1.2.2.2.2.2.1, (s9.1.2.2.2.2.2.2.1, ())))))))] : List (Den kapiCall)).flatMap (Kd.cells kapiCall)) fun p19 h20 =>
    appendM 7 56 h20 t18 ⟨some p19, 1, 1⟩ fun t21 h22 =>
    deref g1 fun a23 =>
    st (.sl : Kd) h22 (a23.add 5) t21 fun h24 =>
    Q true h24
def deque_game_begin.M (c_deque_Steal : Den kapiTodo → Heap → (Den kdequeOp → Heap → Prop) → Prop) (c_deque_Push : Den kapiTodo → Int → Heap → (Den kdequeOp → Heap → Prop) → Prop) (c_deque_Pop : Den kapiTodo → Heap → (Den kdequeOp → Heap → Prop) → Prop) (g1 : Option Addr) (n2 : Int) (who3 : Int) (h4 : Heap) (Q : Bool → Heap → Prop) : Prop :=
    deref g1 fun a5 =>
    ld kapiTodo h4 (a5.add 1) fun t6 =>
    c_deque_Steal t6 h4 fun r7 h8 =>
    (((decide (who3 = 0)) = true →
    deref g1 fun a25 =>
    ld (.sl : Kd) h8 (a25.add 3) fun t26 =>
    (((decide ((t26.len : Int) = 0)) = true →
    Q false h8) ∧
    ((decide ((t26.len : Int) = 0)) = false →
    deref g1 fun a27 =>
    ld (.sl : Kd) h8 (a27.add 3) fun t28 =>
    (0 ≤ (0 : Int) ∧ (0 : Int) < (t28.len : Int)) ∧
    deref t28.a fun a29 =>
    ld kapiTodo h8 (a29.add (((0 : Int) : Int).toNat * 2)) fun t30 =>
    deref g1 fun a31 =>
    ld (.sl : Kd) h8 (a31.add 3) fun t32 =>
    (0 ≤ (1 : Int) ∧ (1 : Int) ≤ (t32.len : Int)) ∧
    deref g1 fun a33 =>
    st (.sl : Kd) h8 (a33.add 3) (t32.cut (((1 : Int) : Int).toNat) t32.len 2) fun h34 =>
    (((decide (t30.1 = 0)) = true →
    deref g1 fun a35 =>
    ld kapiTodo h34 (a35.add 1) fun t36 =>
    c_deque_Push t36 t30.2.1 h34 fun r37 h38 =>
    deque_game_begin.j1 g1 who3 Q ((who3, (t30.1, (t30.2.1, (n2, ((-1), (0, (0, ()))))))), (r37.1, (r37.2.1, (r37.2.2.1.1, (r37.2.2.1.2.1, (r37.2.2.2.1, (r37.2.2.2.2.1, (r37.2.2.2.2.2.1, (r37.2.2.2.2.2.2.1, (r37.2.2.2.2.2.2.2.1, (r37.2.2.2.2.2.2.2.2.1, (r37.2.2.2.2.2.2.2.2.2.1, (r37.2.2.2.2.2.2.2.2.2.2.1, (r37.2.2.2.2.2.2.2.2.2.2.2.1, (r37.2.2.2.2.2.2.2.2.2.2.2.2.1, (r37.2.2.2.2.2.2.2.2.2.2.2.2.2.1, (r37.2.2.2.2.2.2.2.2.2.2.2.2.2.2.1, ())))))))))))))))), ()) h38) ∧
    ((decide (t30.1 = 0)) = false →
    deref g1 fun a39 =>
    ld kapiTodo h34 (a39.add 1) fun t40 =>
    c_deque_Pop t40 h34 fun r41 h42 =>
    deque_game_begin.j1 g1 who3 Q ((who3, (t30.1, (0, (n2, ((-1), (0, (0, ()))))))), (r41.1, (r41.2.1, (r41.2.2.1.1, (r41.2.2.1.2.1, (r41.2.2.2.1, (r41.2.2.2.2.1, (r41.2.2.2.2.2.1, (r41.2.2.2.2.2.2.1, (r41.2.2.2.2.2.2.2.1, (r41.2.2.2.2.2.2.2.2.1, (r41.2.2.2.2.2.2.2.2.2.1, (r41.2.2.2.2.2.2.2.2.2.2.1, (r41.2.2.2.2.2.2.2.2.2.2.2.1, (r41.2.2.2.2.2.2.2.2.2.2.2.2.1, (r41.2.2.2.2.2.2.2.2.2.2.2.2.2.1, (r41.2.2.2.2.2.2.2.2.2.2.2.2.2.2.1, ())))))))))))))))), ()) h42))))) ∧
    ((decide (who3 = 0)) = false →
    deque_game_begin.j1 g1 who3 Q ((who3, (2, (0, (n2, ((-1), (0, (0, ()))))))), (r7.1, (r7.2.1, (r7.2.2.1.1, (r7.2.2.1.2.1, (r7.2.2.2.1, (r7.2.2.2.2.1, (r7.2.2.2.2.2.1, (r7.2.2.2.2.2.2.1, (r7.2.2.2.2.2.2.2.1, (r7.2.2.2.2.2.2.2.2.1, (r7.2.2.2.2.2.2.2.2.2.1, (r7.2.2.2.2.2.2.2.2.2.2.1, (r7.2.2.2.2.2.2.2.2.2.2.2.1, (r7.2.2.2.2.2.2.2.2.2.2.2.2.1, (r7.2.2.2.2.2.2.2.2.2.2.2.2.2.1, (r7.2.2.2.2.2.2.2.2.2.2.2.2.2.2.1, ())))))))))))))))), ()) h8))
def deque_game_begin.mk : Mk := (.s .d (.s (.r [3]) (.s (.r [5]) (.j [.box 7 kapiCall, .box 8 (.pair (.int .i64) (.pair (.int .i64) (.pair (.int .i64) (.pair (.int .i64) (.pair (.int .i64) (.pair (.int .i64) (.pair (.int .i64) (.pair (.int .i64) (.pair (.int .i64) (.pair (.int .i64) (.pair (.int .i64) (.pair (.int .i64) (.pair (.int .i64) (.pair .bool kapiTodo))))))))))))))] (.s .d (.c (.s (.s .d (.c (.s .d .d) .d)) (.s (.r [6]) (.s .d (.s .d (.s .d (.c (.s .d (.q [] [8] [.p 0, .p 1, .p 2, .p 4, .w 3 [3, 6, 7], .w 5 [5, 6, 7], .o 6, .o 7])) .d)))))) .d)) (.s (.q [] [] [.p 0, .p 1, .p 2, .p 4, .p 6, .p 7, .p 8, .w 3 [3, 12, 13], .w 5 [5, 11, 12, 13], .w 9 [9, 10, 11, 12, 13], .p 10, .p 11, .p 12, .o 13]) (.s (.q [] [] [.p 0, .p 1, .p 2, .p 3, .w 4 [4, 7, 8, 9, 10], .w 5 [5, 6, 7, 8, 9, 10], .o 6, .o 7, .p 8, .p 9, .o 10]) (.s .d .d)))))))

def cells_Arena_Who.M  (a1 : Option Addr) (actor2 : Int) (h3 : Heap) (Q : Unit → Heap → Prop) : Prop :=
    (((Option.isSome a1) = true →
    deref a1 fun a4 =>
    st ((.int .i64) : Kd) h3 (a4.add 4) actor2 fun h5 =>
    Q () h5) ∧
    ((Option.isSome a1) = false →
    Q () h3))
def cells_Arena_Who.mk : Mk := (.s .d (.c .d .d))

def deque_Step.j1 (c_deque_Op_over : Den kdequeOp → Int → Int → Heap → (Den kdequeOp → Heap → Prop) → Prop) (c_deque_Op_access : Den kdequeOp → Value → Heap → (Den kapiTodo → Heap → Prop) → Prop) (c_deque_Op_pushed : Den kdequeOp → Int → Heap → (Den kdequeOp → Heap → Prop) → Prop) (c_deque_Op_popped : Den kdequeOp → Int → Heap → (Den kdequeOp → Heap → Prop) → Prop) (c_deque_Op_stolen : Den kdequeOp → Int → Heap → (Den kdequeOp → Heap → Prop) → Prop) (c_deque_Op_looked : Den kdequeOp → Int → Heap → (Den kdequeOp → Heap → Prop) → Prop) (m1 : Value) (o2 : Den kdequeOp) (Q : Den kdequeOp → Heap → Prop) (s4 : ((Int × (Int × (Int × (Int × (Int × (Int × (Int × (Int × (Int × (Int × (Int × (Int × (Int × (Bool × Den kapiTodo)))))))))))))) × Unit)) (h5 : Heap) : Prop :=
    isI m1 ∧
    (((isNilI m1) = true →
    c_deque_Op_over (o2.1, (o2.2.1, ((o2.2.2.1.1, (o2.2.2.1.2.1, ())), (o2.2.2.2.1, (o2.2.2.2.2.1, (o2.2.2.2.2.2.1, (o2.2.2.2.2.2.2.1, (o2.2.2.2.2.2.2.2.1, (o2.2.2.2.2.2.2.2.2.1, (o2.2.2.2.2.2.2.2.2.2.1, (o2.2.2.2.2.2.2.2.2.2.2.1, (o2.2.2.2.2.2.2.2.2.2.2.2.1, (o2.2.2.2.2.2.2.2.2.2.2.2.2.1, (o2.2.2.2.2.2.2.2.2.2.2.2.2.2.1, (o2.2.2.2.2.2.2.2.2.2.2.2.2.2.2.1, ()))))))))))))))) 1 0 h5 fun r6 h7 =>
    Q (r6.1, (r6.2.1, ((r6.2.2.1.1, (r6.2.2.1.2.1, ())), (r6.2.2.2.1, (r6.2.2.2.2.1, (r6.2.2.2.2.2.1, (r6.2.2.2.2.2.2.1, (r6.2.2.2.2.2.2.2.1, (r6.2.2.2.2.2.2.2.2.1, (r6.2.2.2.2.2.2.2.2.2.1, (r6.2.2.2.2.2.2.2.2.2.2.1, (r6.2.2.2.2.2.2.2.2.2.2.2.1, (r6.2.2.2.2.2.2.2.2.2.2.2.2.1, (r6.2.2.2.2.2.2.2.2.2.2.2.2.2.1, (r6.2.2.2.2.2.2.2.2.2.2.2.2.2.2.1, ()))))))))))))))) h7) ∧
    ((isNilI m1) = false →
    c_deque_Op_access (o2.1, (o2.2.1, ((o2.2.2.1.1, (o2.2.2.1.2.1, ())), (o2.2.2.2.1, (o2.2.2.2.2.1, (o2.2.2.2.2.2.1, (o2.2.2.2.2.2.2.1, (o2.2.2.2.2.2.2.2.1, (o2.2.2.2.2.2.2.2.2.1, (o2.2.2.2.2.2.2.2.2.2.1, (o2.2.2.2.2.2.2.2.2.2.2.1, (o2.2.2.2.2.2.2.2.2.2.2.2.1, (o2.2.2.2.2.2.2.2.2.2.2.2.2.1, (o2.2.2.2.2.2.2.2.2.2.2.2.2.2.1, (o2.2.2.2.2.2.2.2.2.2.2.2.2.2.2.1, ()))))))))))))))) m1 h5 fun r8 h9 =>
    (((decide (r8.2.1 ≠ 0)) = true →
    c_deque_Op_over (o2.1, (o2.2.1, ((o2.2.2.1.1, (o2.2.2.1.2.1, ())), (o2.2.2.2.1, (o2.2.2.2.2.1, (o2.2.2.2.2.2.1, (o2.2.2.2.2.2.2.1, (o2.2.2.2.2.2.2.2.1, (o2.2.2.2.2.2.2.2.2.1, (o2.2.2.2.2.2.2.2.2.2.1, (o2.2.2.2.2.2.2.2.2.2.2.1, (o2.2.2.2.2.2.2.2.2.2.2.2.1, (o2.2.2.2.2.2.2.2.2.2.2.2.2.1, (o2.2.2.2.2.2.2.2.2.2.2.2.2.2.1, (o2.2.2.2.2.2.2.2.2.2.2.2.2.2.2.1, ()))))))))))))))) 1 0 h9 fun r10 h11 =>
    Q (r10.1, (r10.2.1, ((r10.2.2.1.1, (r10.2.2.1.2.1, ())), (r10.2.2.2.1, (r10.2.2.2.2.1, (r10.2.2.2.2.2.1, (r10.2.2.2.2.2.2.1, (r10.2.2.2.2.2.2.2.1, (r10.2.2.2.2.2.2.2.2.1, (r10.2.2.2.2.2.2.2.2.2.1, (r10.2.2.2.2.2.2.2.2.2.2.1, (r10.2.2.2.2.2.2.2.2.2.2.2.1, (r10.2.2.2.2.2.2.2.2.2.2.2.2.1, (r10.2.2.2.2.2.2.2.2.2.2.2.2.2.1, (r10.2.2.2.2.2.2.2.2.2.2.2.2.2.2.1, ()))))))))))))))) h11) ∧
    ((decide (r8.2.1 ≠ 0)) = false →
    (((decide (o2.1 = 1)) = true →
    c_deque_Op_pushed (o2.1, (o2.2.1, ((o2.2.2.1.1, (o2.2.2.1.2.1, ())), (o2.2.2.2.1, (o2.2.2.2.2.1, (o2.2.2.2.2.2.1, (o2.2.2.2.2.2.2.1, (o2.2.2.2.2.2.2.2.1, (o2.2.2.2.2.2.2.2.2.1, (o2.2.2.2.2.2.2.2.2.2.1, (o2.2.2.2.2.2.2.2.2.2.2.1, (o2.2.2.2.2.2.2.2.2.2.2.2.1, (o2.2.2.2.2.2.2.2.2.2.2.2.2.1, (o2.2.2.2.2.2.2.2.2.2.2.2.2.2.1, (o2.2.2.2.2.2.2.2.2.2.2.2.2.2.2.1, ()))))))))))))))) r8.1 h9 fun r12 h13 =>
    Q (r12.1, (r12.2.1, ((r12.2.2.1.1, (r12.2.2.1.2.1, ())), (r12.2.2.2.1, (r12.2.2.2.2.1, (r12.2.2.2.2.2.1, (r12.2.2.2.2.2.2.1, (r12.2.2.2.2.2.2.2.1, (r12.2.2.2.2.2.2.2.2.1, (r12.2.2.2.2.2.2.2.2.2.1, (r12.2.2.2.2.2.2.2.2.2.2.1, (r12.2.2.2.2.2.2.2.2.2.2.2.1, (r12.2.2.2.2.2.2.2.2.2.2.2.2.1, (r12.2.2.2.2.2.2.2.2.2.2.2.2.2.1, (r12.2.2.2.2.2.2.2.2.2.2.2.2.2.2.1, ()))))))))))))))) h13) ∧
    ((decide (o2.1 = 1)) = false →
    (((decide (o2.1 = 2)) = true →
    c_deque_Op_popped (o2.1, (o2.2.1, ((o2.2.2.1.1, (o2.2.2.1.2.1, ())), (o2.2.2.2.1, (o2.2.2.2.2.1, (o2.2.2.2.2.2.1, (o2.2.2.2.2.2.2.1, (o2.2.2.2.2.2.2.2.1, (o2.2.2.2.2.2.2.2.2.1, (o2.2.2.2.2.2.2.2.2.2.1, (o2.2.2.2.2.2.2.2.2.2.2.1, (o2.2.2.2.2.2.2.2.2.2.2.2.1, (o2.2.2.2.2.2.2.2.2.2.2.2.2.1, (o2.2.2.2.2.2.2.2.2.2.2.2.2.2.1, (o2.2.2.2.2.2.2.2.2.2.2.2.2.2.2.1, ()))))))))))))))) r8.1 h9 fun r14 h15 =>
    Q (r14.1, (r14.2.1, ((r14.2.2.1.1, (r14.2.2.1.2.1, ())), (r14.2.2.2.1, (r14.2.2.2.2.1, (r14.2.2.2.2.2.1, (r14.2.2.2.2.2.2.1, (r14.2.2.2.2.2.2.2.1, (r14.2.2.2.2.2.2.2.2.1, (r14.2.2.2.2.2.2.2.2.2.1, (r14.2.2.2.2.2.2.2.2.2.2.1, (r14.2.2.2.2.2.2.2.2.2.2.2.1, (r14.2.2.2.2.2.2.2.2.2.2.2.2.1, (r14.2.2.2.2.2.2.2.2.2.2.2.2.2.1, (r14.2.2.2.2.2.2.2.2.2.2.2.2.2.2.1, ()))))))))))))))) h15) ∧
    ((decide (o2.1 = 2)) = false →
    (((decide (o2.1 = 3)) = true →
    c_deque_Op_stolen (o2.1, (o2.2.1, ((o2.2.2.1.1, (o2.2.2.1.2.1, ())), (o2.2.2.2.1, (o2.2.2.2.2.1, (o2.2.2.2.2.2.1, (o2.2.2.2.2.2.2.1, (o2.2.2.2.2.2.2.2.1, (o2.2.2.2.2.2.2.2.2.1, (o2.2.2.2.2.2.2.2.2.2.1, (o2.2.2.2.2.2.2.2.2.2.2.1, (o2.2.2.2.2.2.2.2.2.2.2.2.1, (o2.2.2.2.2.2.2.2.2.2.2.2.2.1, (o2.2.2.2.2.2.2.2.2.2.2.2.2.2.1, (o2.2.2.2.2.2.2.2.2.2.2.2.2.2.2.1, ()))))))))))))))) r8.1 h9 fun r16 h17 =>
    Q (r16.1, (r16.2.1, ((r16.2.2.1.1, (r16.2.2.1.2.1, ())), (r16.2.2.2.1, (r16.2.2.2.2.1, (r16.2.2.2.2.2.1, (r16.2.2.2.2.2.2.1, (r16.2.2.2.2.2.2.2.1, (r16.2.2.2.2.2.2.2.2.1, (r16.2.2.2.2.2.2.2.2.2.1, (r16.2.2.2.2.2.2.2.2.2.2.1, (r16.2.2.2.2.2.2.2.2.2.2.2.1, (r16.2.2.2.2.2.2.2.2.2.2.2.2.1, (r16.2.2.2.2.2.2.2.2.2.2.2.2.2.1, (r16.2.2.2.2.2.2.2.2.2.2.2.2.2.2.1, ()))))))))))))))) h17) ∧
    ((decide (o2.1 = 3)) = false →
    c_deque_Op_looked (o2.1, (o2.2.1, ((o2.2.2.1.1, (o2.2.2.1.2.1, ())), (o2.2.2.2.1, (o2.2.2.2.2.1, (o2.2.2.2.2.2.1, (o2.2.2.2.2.2.2.1, (o2.2.2.2.2.2.2.2.1, (o2.2.2.2.2.2.2.2.2.1, (o2.2.2.2.2.2.2.2.2.2.1, (o2.2.2.2.2.2.2.2.2.2.2.1, (o2.2.2.2.2.2.2.2.2.2.2.2.1, (o2.2.2.2.2.2.2.2.2.2.2.2.2.1, (o2.2.2.2.2.2.2.2.2.2.2.2.2.2.1, (o2.2.2.2.2.2.2.2.2.2.2.2.2.2.2.1, ()))))))))))))))) r8.1 h9 fun r18 h19 =>
    Q (r18.1, (r18.2.1, ((r18.2.2.1.1, (r18.2.2.1.2.1, ())), (r18.2.2.2.1, (r18.2.2.2.2.1, (r18.2.2.2.2.2.1, (r18.2.2.2.2.2.2.1, (r18.2.2.2.2.2.2.2.1, (r18.2.2.2.2.2.2.2.2.1, (r18.2.2.2.2.2.2.2.2.2.1, (r18.2.2.2.2.2.2.2.2.2.2.1, (r18.2.2.2.2.2.2.2.2.2.2.2.1, (r18.2.2.2.2.2.2.2.2.2.2.2.2.1, (r18.2.2.2.2.2.2.2.2.2.2.2.2.2.1, (r18.2.2.2.2.2.2.2.2.2.2.2.2.2.2.1, ()))))))))))))))) h19))))))))))
def deque_Step.j2 (c_deque_Op_over : Den kdequeOp → Int → Int → Heap → (Den kdequeOp → Heap → Prop) → Prop) (c_deque_Op_access : Den kdequeOp → Value → Heap → (Den kapiTodo → Heap → Prop) → Prop) (c_deque_Op_pushed : Den kdequeOp → Int → Heap → (Den kdequeOp → Heap → Prop) → Prop) (c_deque_Op_popped : Den kdequeOp → Int → Heap → (Den kdequeOp → Heap → Prop) → Prop) (c_deque_Op_stolen : Den kdequeOp → Int → Heap → (Den kdequeOp → Heap → Prop) → Prop) (c_deque_Op_looked : Den kdequeOp → Int → Heap → (Den kdequeOp → Heap → Prop) → Prop) (m1 : Value) (o2 : Den kdequeOp) (Q : Den kdequeOp → Heap → Prop) (s20 : (Bool × Unit)) (h21 : Heap) : Prop :=
    ((s20.1 = true →
    Q (o2.1, (o2.2.1, ((o2.2.2.1.1, (o2.2.2.1.2.1, ())), (o2.2.2.2.1, (o2.2.2.2.2.1, (o2.2.2.2.2.2.1, (o2.2.2.2.2.2.2.1, (o2.2.2.2.2.2.2.2.1, (o2.2.2.2.2.2.2.2.2.1, (o2.2.2.2.2.2.2.2.2.2.1, (o2.2.2.2.2.2.2.2.2.2.2.1, (o2.2.2.2.2.2.2.2.2.2.2.2.1, (o2.2.2.2.2.2.2.2.2.2.2.2.2.1, (o2.2.2.2.2.2.2.2.2.2.2.2.2.2.1, (o2.2.2.2.2.2.2.2.2.2.2.2.2.2.2.1, ()))))))))))))))) h21) ∧
    (s20.1 = false →
    deque_Step.j1 c_deque_Op_over c_deque_Op_access c_deque_Op_pushed c_deque_Op_popped c_deque_Op_stolen c_deque_Op_looked m1 o2 Q ((0, (0, (0, (0, (0, (0, (0, (0, (0, (0, (0, (0, (0, (false, (0, (0, ())))))))))))))))), ()) h21))
def deque_Step.M (c_deque_Op_over : Den kdequeOp → Int → Int → Heap → (Den kdequeOp → Heap → Prop) → Prop) (c_deque_Op_access : Den kdequeOp → Value → Heap → (Den kapiTodo → Heap → Prop) → Prop) (c_deque_Op_pushed : Den kdequeOp → Int → Heap → (Den kdequeOp → Heap → Prop) → Prop) (c_deque_Op_popped : Den kdequeOp → Int → Heap → (Den kdequeOp → Heap → Prop) → Prop) (c_deque_Op_stolen : Den kdequeOp → Int → Heap → (Den kdequeOp → Heap → Prop) → Prop) (c_deque_Op_looked : Den kdequeOp → Int → Heap → (Den kdequeOp → Heap → Prop) → Prop) (m1 : Value) (o2 : Den kdequeOp) (h3 : Heap) (Q : Den kdequeOp → Heap → Prop) : Prop :=
    (((eqK kdequeOp (o2.1, (o2.2.1, ((o2.2.2.1.1, (o2.2.2.1.2.1, ())), (o2.2.2.2.1, (o2.2.2.2.2.1, (o2.2.2.2.2.2.1, (o2.2.2.2.2.2.2.1, (o2.2.2.2.2.2.2.2.1, (o2.2.2.2.2.2.2.2.2.1, (o2.2.2.2.2.2.2.2.2.2.1, (o2.2.2.2.2.2.2.2.2.2.2.1, (o2.2.2.2.2.2.2.2.2.2.2.2.1, (o2.2.2.2.2.2.2.2.2.2.2.2.2.1, (o2.2.2.2.2.2.2.2.2.2.2.2.2.2.1, (o2.2.2.2.2.2.2.2.2.2.2.2.2.2.2.1, ()))))))))))))))) (0, (0, ((0, (0, ())), (0, (0, (0, (0, (0, (0, (0, (0, (0, (false, (0, (0, ())))))))))))))))) = true →
    deque_Step.j2 c_deque_Op_over c_deque_Op_access c_deque_Op_pushed c_deque_Op_popped c_deque_Op_stolen c_deque_Op_looked m1 o2 Q (true, ()) h3) ∧
    ((eqK kdequeOp (o2.1, (o2.2.1, ((o2.2.2.1.1, (o2.2.2.1.2.1, ())), (o2.2.2.2.1, (o2.2.2.2.2.1, (o2.2.2.2.2.2.1, (o2.2.2.2.2.2.2.1, (o2.2.2.2.2.2.2.2.1, (o2.2.2.2.2.2.2.2.2.1, (o2.2.2.2.2.2.2.2.2.2.1, (o2.2.2.2.2.2.2.2.2.2.2.1, (o2.2.2.2.2.2.2.2.2.2.2.2.1, (o2.2.2.2.2.2.2.2.2.2.2.2.2.1, (o2.2.2.2.2.2.2.2.2.2.2.2.2.2.1, (o2.2.2.2.2.2.2.2.2.2.2.2.2.2.2.1, ()))))))))))))))) (0, (0, ((0, (0, ())), (0, (0, (0, (0, (0, (0, (0, (0, (0, (false, (0, (0, ())))))))))))))))) = false →
    deque_Step.j2 c_deque_Op_over c_deque_Op_access c_deque_Op_pushed c_deque_Op_popped c_deque_Op_stolen c_deque_Op_looked m1 o2 Q ((decide (o2.2.1 = 0)), ()) h3))
def deque_Step.mk : Mk := (.s (.r [0, 1]) (.j [.box 4 (.pair (.int .i64) (.pair (.int .i64) (.pair (.int .i64) (.pair (.int .i64) (.pair (.int .i64) (.pair (.int .i64) (.pair (.int .i64) (.pair (.int .i64) (.pair (.int .i64) (.pair (.int .i64) (.pair (.int .i64) (.pair (.int .i64) (.pair (.int .i64) (.pair .bool kapiTodo))))))))))))))] (.j [.slot 14 .bool] .d (.c (.s .d .d) .d)) (.s (.s .d (.c (.s .d .d) .d)) (.s .d (.s (.s .d (.c (.s .d .d) .d)) (.s (.s .d (.b (.s .d (.c (.s .d .d) (.s .d (.c (.s .d .d) (.s .d (.c (.s .d .d) .d)))))))) (.s .d .d)))))))

def deque_Answer.M  (o1 : Den kdequeOp) (h2 : Heap) (Q : Den kapiTodo → Heap → Prop) : Prop :=
    (((eqK kdequeOp (o1.1, (o1.2.1, ((o1.2.2.1.1, (o1.2.2.1.2.1, ())), (o1.2.2.2.1, (o1.2.2.2.2.1, (o1.2.2.2.2.2.1, (o1.2.2.2.2.2.2.1, (o1.2.2.2.2.2.2.2.1, (o1.2.2.2.2.2.2.2.2.1, (o1.2.2.2.2.2.2.2.2.2.1, (o1.2.2.2.2.2.2.2.2.2.2.1, (o1.2.2.2.2.2.2.2.2.2.2.2.1, (o1.2.2.2.2.2.2.2.2.2.2.2.2.1, (o1.2.2.2.2.2.2.2.2.2.2.2.2.2.1, (o1.2.2.2.2.2.2.2.2.2.2.2.2.2.2.1, ()))))))))))))))) (0, (0, ((0, (0, ())), (0, (0, (0, (0, (0, (0, (0, (0, (0, (false, (0, (0, ())))))))))))))))) = true →
    Q (1, 0, ()) h2) ∧
    ((eqK kdequeOp (o1.1, (o1.2.1, ((o1.2.2.1.1, (o1.2.2.1.2.1, ())), (o1.2.2.2.1, (o1.2.2.2.2.1, (o1.2.2.2.2.2.1, (o1.2.2.2.2.2.2.1, (o1.2.2.2.2.2.2.2.1, (o1.2.2.2.2.2.2.2.2.1, (o1.2.2.2.2.2.2.2.2.2.1, (o1.2.2.2.2.2.2.2.2.2.2.1, (o1.2.2.2.2.2.2.2.2.2.2.2.1, (o1.2.2.2.2.2.2.2.2.2.2.2.2.1, (o1.2.2.2.2.2.2.2.2.2.2.2.2.2.1, (o1.2.2.2.2.2.2.2.2.2.2.2.2.2.2.1, ()))))))))))))))) (0, (0, ((0, (0, ())), (0, (0, (0, (0, (0, (0, (0, (0, (0, (false, (0, (0, ())))))))))))))))) = false →
    (((decide (o1.2.1 ≠ 0)) = true →
    Q (0, 0, ()) h2) ∧
    ((decide (o1.2.1 ≠ 0)) = false →
    Q (o1.2.2.2.2.2.2.2.2.2.2.2.2.2.1, o1.2.2.2.2.2.2.2.2.2.2.2.2.2.2.1, ()) h2))))
def deque_Answer.mk : Mk := (.s (.r [0]) (.s (.b (.s .d (.c (.s .d .d) (.s .d (.c (.s .d .d) .d))))) (.s (.q [] [] [.p 0, .p 2, .w 1 [1, 4, 5], .p 4, .w 3 [3, 5], .p 5]) .d)))

def cells_Arena_Cells.M  (a1 : Option Addr) (h2 : Heap) (Q : Sl → Heap → Prop) : Prop :=
    (((Option.isNone a1) = true →
    Q ⟨none, 0, 0⟩ h2) ∧
    ((Option.isNone a1) = false →
    deref a1 fun a3 =>
    ld (.sl : Kd) h2 (a3.add 2) fun t4 =>
    makeM ((.int .i64) : Kd) 8 h2 (t4.len : Int) (t4.len : Int) fun s5 h6 =>
    deref a1 fun a7 =>
    ld (.sl : Kd) h6 (a7.add 2) fun t8 =>
    copyM 1 h6 s5 t8 fun n9 h10 =>
    Q s5 h10))
def cells_Arena_Cells.mk : Mk := (.s .d (.s (.s .d (.c (.s .d .d) .d)) (.s .d (.s .d (.s .d .d)))))

def deque_place.j1 (a1 : Int) (Q : Int → Heap → Prop) (s5 : (Int × Unit)) (h6 : Heap) : Prop :=
    Q (w64 ((w64 (a1 + 1)) + s5.1)) h6
def deque_place.M  (a1 : Int) (c2 : Int) (i3 : Int) (h4 : Heap) (Q : Int → Heap → Prop) : Prop :=
    c2 ≠ 0 ∧
    (((decide ((Int.tmod i3 c2) < 0)) = true →
    deque_place.j1 a1 Q ((w64 ((Int.tmod i3 c2) + c2)), ()) h4) ∧
    ((decide ((Int.tmod i3 c2) < 0)) = false →
    deque_place.j1 a1 Q ((Int.tmod i3 c2), ()) h4))
def deque_place.mk : Mk := (.s .d (.s .d (.j [.slot 7 (.int .i64)] (.s .d (.c .d .d)) (.s .d .d))))

def deque_Steal.M (c_deque_begin : Int → Int → Den kapiTodo → Int → Heap → (Den kdequeOp → Heap → Prop) → Prop) (d1 : Den kapiTodo) (h2 : Heap) (Q : Den kdequeOp → Heap → Prop) : Prop :=
    c_deque_begin 3 2 (d1.1, (d1.2.1, ())) 0 h2 fun r3 h4 =>
    Q (r3.1, (r3.2.1, ((r3.2.2.1.1, (r3.2.2.1.2.1, ())), (r3.2.2.2.1, (r3.2.2.2.2.1, (r3.2.2.2.2.2.1, (r3.2.2.2.2.2.2.1, (r3.2.2.2.2.2.2.2.1, (r3.2.2.2.2.2.2.2.2.1, (r3.2.2.2.2.2.2.2.2.2.1, (r3.2.2.2.2.2.2.2.2.2.2.1, (r3.2.2.2.2.2.2.2.2.2.2.2.1, (r3.2.2.2.2.2.2.2.2.2.2.2.2.1, (r3.2.2.2.2.2.2.2.2.2.2.2.2.2.1, (r3.2.2.2.2.2.2.2.2.2.2.2.2.2.2.1, ()))))))))))))))) h4
def deque_Steal.mk : Mk := (.s (.r [0, 1]) (.s .d .d))

def deque_Push.M (c_deque_begin : Int → Int → Den kapiTodo → Int → Heap → (Den kdequeOp → Heap → Prop) → Prop) (d1 : Den kapiTodo) (v2 : Int) (h3 : Heap) (Q : Den kdequeOp → Heap → Prop) : Prop :=
    c_deque_begin 1 1 (d1.1, (d1.2.1, ())) v2 h3 fun r4 h5 =>
    Q (r4.1, (r4.2.1, ((r4.2.2.1.1, (r4.2.2.1.2.1, ())), (r4.2.2.2.1, (r4.2.2.2.2.1, (r4.2.2.2.2.2.1, (r4.2.2.2.2.2.2.1, (r4.2.2.2.2.2.2.2.1, (r4.2.2.2.2.2.2.2.2.1, (r4.2.2.2.2.2.2.2.2.2.1, (r4.2.2.2.2.2.2.2.2.2.2.1, (r4.2.2.2.2.2.2.2.2.2.2.2.1, (r4.2.2.2.2.2.2.2.2.2.2.2.2.1, (r4.2.2.2.2.2.2.2.2.2.2.2.2.2.1, (r4.2.2.2.2.2.2.2.2.2.2.2.2.2.2.1, ()))))))))))))))) h5
def deque_Push.mk : Mk := (.s (.r [0, 1]) (.s .d .d))

def deque_Pop.M (c_deque_begin : Int → Int → Den kapiTodo → Int → Heap → (Den kdequeOp → Heap → Prop) → Prop) (d1 : Den kapiTodo) (h2 : Heap) (Q : Den kdequeOp → Heap → Prop) : Prop :=
    c_deque_begin 2 1 (d1.1, (d1.2.1, ())) 0 h2 fun r3 h4 =>
    Q (r3.1, (r3.2.1, ((r3.2.2.1.1, (r3.2.2.1.2.1, ())), (r3.2.2.2.1, (r3.2.2.2.2.1, (r3.2.2.2.2.2.1, (r3.2.2.2.2.2.2.1, (r3.2.2.2.2.2.2.2.1, (r3.2.2.2.2.2.2.2.2.1, (r3.2.2.2.2.2.2.2.2.2.1, (r3.2.2.2.2.2.2.2.2.2.2.1, (r3.2.2.2.2.2.2.2.2.2.2.2.1, (r3.2.2.2.2.2.2.2.2.2.2.2.2.1, (r3.2.2.2.2.2.2.2.2.2.2.2.2.2.1, (r3.2.2.2.2.2.2.2.2.2.2.2.2.2.2.1, ()))))))))))))))) h4
def deque_Pop.mk : Mk := (.s (.r [0, 1]) (.s .d .d))

def deque_Op_over.M  (o1 : Den kdequeOp) (code2 : Int) (v3 : Int) (h4 : Heap) (Q : Den kdequeOp → Heap → Prop) : Prop :=
    Q (o1.1, (0, ((o1.2.2.1.1, (o1.2.2.1.2.1, ())), (o1.2.2.2.1, (o1.2.2.2.2.1, (o1.2.2.2.2.2.1, (o1.2.2.2.2.2.2.1, (o1.2.2.2.2.2.2.2.1, (o1.2.2.2.2.2.2.2.2.1, (o1.2.2.2.2.2.2.2.2.2.1, (o1.2.2.2.2.2.2.2.2.2.2.1, (o1.2.2.2.2.2.2.2.2.2.2.2.1, (o1.2.2.2.2.2.2.2.2.2.2.2.2.1, (code2, (v3, ()))))))))))))))) h4
def deque_Op_over.mk : Mk := (.s (.r [0, 1]) (.s .d (.s .d .d)))

def deque_Op_access.j1 (c_inv_Load : Value → Int → Heap → (Den kapiTodo → Heap → Prop) → Prop) (c_deque_place : Int → Int → Int → Heap → (Int → Heap → Prop) → Prop) (c_nil : Value → Prop) (o1 : Den kdequeOp) (m2 : Value) (Q : Den kapiTodo → Heap → Prop) (s34 : (Int × Unit)) (h35 : Heap) : Prop :=
    c_nil (Value.func (.method "Load") (List.toArray [Kd.val (.iface : Kd) m2]) (List.toArray [])) ∧
    c_deque_place o1.2.2.2.2.2.2.1 o1.2.2.2.2.2.2.2.1 s34.1 h35 fun r36 h37 =>
    c_inv_Load m2 r36 h37 fun r38 h39 =>
    Q (r38.1, r38.2.1, ()) h39
def deque_Op_access.M (c_inv_Load : Value → Int → Heap → (Den kapiTodo → Heap → Prop) → Prop) (c_inv_Reserve : Value → Int → Heap → (Den kapiTodo → Heap → Prop) → Prop) (c_inv_Store : Value → Int → Int → Heap → (Int → Heap → Prop) → Prop) (c_deque_place : Int → Int → Int → Heap → (Int → Heap → Prop) → Prop) (c_deque_Op_next : Den kdequeOp → Heap → (Int → Heap → Prop) → Prop) (c_inv_CAS : Value → Int → Int → Int → Heap → ((Bool × (Int × Unit)) → Heap → Prop) → Prop) (c_nil : Value → Prop) (o1 : Den kdequeOp) (m2 : Value) (h3 : Heap) (Q : Den kapiTodo → Heap → Prop) : Prop :=
    (((decide (o1.2.1 = 1)) = true →
    c_inv_Load m2 (w64 (o1.2.2.1.1 + 1)) h3 fun r4 h5 =>
    Q (r4.1, r4.2.1, ()) h5) ∧
    ((decide (o1.2.1 = 1)) = false →
    (((decide (o1.2.1 = 2)) = true →
    c_inv_Load m2 (w64 (o1.2.2.1.1 + 0)) h3 fun r6 h7 =>
    Q (r6.1, r6.2.1, ()) h7) ∧
    ((decide (o1.2.1 = 2)) = false →
    (((decide (o1.2.1 = 3)) = true →
    c_inv_Load m2 (w64 (o1.2.2.1.1 + 2)) h3 fun r8 h9 =>
    Q (r8.1, r8.2.1, ()) h9) ∧
    ((decide (o1.2.1 = 3)) = false →
    (((decide (o1.2.1 = 4)) = true →
    c_inv_Load m2 o1.2.2.2.2.2.2.1 h3 fun r10 h11 =>
    Q (r10.1, r10.2.1, ()) h11) ∧
    ((decide (o1.2.1 = 4)) = false →
    (((decide (o1.2.1 = 5)) = true →
    c_inv_Reserve m2 (w64 (1 + o1.2.2.2.2.2.2.2.2.2.1)) h3 fun r12 h13 =>
    Q (r12.1, r12.2.1, ()) h13) ∧
    ((decide (o1.2.1 = 5)) = false →
    (((decide (o1.2.1 = 6)) = true →
    c_inv_Store m2 o1.2.2.2.2.2.2.2.2.1 o1.2.2.2.2.2.2.2.2.2.1 h3 fun r14 h15 =>
    Q (0, r14, ()) h15) ∧
    ((decide (o1.2.1 = 6)) = false →
    (((decide (o1.2.1 = 7)) = true →
    c_nil (Value.func (.method "Load") (List.toArray [Kd.val (.iface : Kd) m2]) (List.toArray [])) ∧
    c_deque_place o1.2.2.2.2.2.2.1 o1.2.2.2.2.2.2.2.1 o1.2.2.2.2.2.2.2.2.2.2.1 h3 fun r16 h17 =>
    c_inv_Load m2 r16 h17 fun r18 h19 =>
    Q (r18.1, r18.2.1, ()) h19) ∧
    ((decide (o1.2.1 = 7)) = false →
    (((decide (o1.2.1 = 8)) = true →
    c_nil (Value.func (.method "Store") (List.toArray [Kd.val (.iface : Kd) m2]) (List.toArray [])) ∧
    c_deque_place o1.2.2.2.2.2.2.2.2.1 o1.2.2.2.2.2.2.2.2.2.1 o1.2.2.2.2.2.2.2.2.2.2.1 h3 fun r20 h21 =>
    c_inv_Store m2 r20 o1.2.2.2.2.2.2.2.2.2.2.2.1 h21 fun r22 h23 =>
    Q (0, r22, ()) h23) ∧
    ((decide (o1.2.1 = 8)) = false →
    (((decide (o1.2.1 = 9)) = true →
    c_inv_Store m2 (w64 (o1.2.2.1.1 + 2)) o1.2.2.2.2.2.2.2.2.1 h3 fun r24 h25 =>
    Q (0, r24, ()) h25) ∧
    ((decide (o1.2.1 = 9)) = false →
    (((decide (o1.2.1 = 10)) = true →
    c_nil (Value.func (.method "Store") (List.toArray [Kd.val (.iface : Kd) m2]) (List.toArray [])) ∧
    c_deque_place o1.2.2.2.2.2.2.1 o1.2.2.2.2.2.2.2.1 o1.2.2.2.2.2.1 h3 fun r26 h27 =>
    c_inv_Store m2 r26 o1.2.2.2.1 h27 fun r28 h29 =>
    Q (0, r28, ()) h29) ∧
    ((decide (o1.2.1 = 10)) = false →
    (((decide (o1.2.1 = 11)) = true →
    c_nil (Value.func (.method "Store") (List.toArray [Kd.val (.iface : Kd) m2]) (List.toArray [])) ∧
    c_deque_Op_next (o1.1, (o1.2.1, ((o1.2.2.1.1, (o1.2.2.1.2.1, ())), (o1.2.2.2.1, (o1.2.2.2.2.1, (o1.2.2.2.2.2.1, (o1.2.2.2.2.2.2.1, (o1.2.2.2.2.2.2.2.1, (o1.2.2.2.2.2.2.2.2.1, (o1.2.2.2.2.2.2.2.2.2.1, (o1.2.2.2.2.2.2.2.2.2.2.1, (o1.2.2.2.2.2.2.2.2.2.2.2.1, (o1.2.2.2.2.2.2.2.2.2.2.2.2.1, (o1.2.2.2.2.2.2.2.2.2.2.2.2.2.1, (o1.2.2.2.2.2.2.2.2.2.2.2.2.2.2.1, ()))))))))))))))) h3 fun r30 h31 =>
    c_inv_Store m2 (w64 (o1.2.2.1.1 + 1)) r30 h31 fun r32 h33 =>
    Q (0, r32, ()) h33) ∧
    ((decide (o1.2.1 = 11)) = false →
    (((decide (o1.2.1 = 12)) = true →
    (((decide (o1.1 = 2)) = true →
    deque_Op_access.j1 c_inv_Load c_deque_place c_nil o1 m2 Q (o1.2.2.2.2.2.1, ()) h3) ∧
    ((decide (o1.1 = 2)) = false →
    deque_Op_access.j1 c_inv_Load c_deque_place c_nil o1 m2 Q (o1.2.2.2.2.1, ()) h3))) ∧
    ((decide (o1.2.1 = 12)) = false →
    c_inv_CAS m2 (w64 (o1.2.2.1.1 + 0)) o1.2.2.2.2.1 (w64 (o1.2.2.2.2.1 + 1)) h3 fun r40 h41 =>
    ((r40.1 = true →
    Q (1, r40.2.1, ()) h41) ∧
    (r40.1 = false →
    Q (0, r40.2.1, ()) h41))))))))))))))))))))))))))
def deque_Op_access.mk : Mk := (.s (.r [0]) (.s .d (.s (.s .d (.b (.s .d (.c (.s .d .d) (.s .d (.c (.s .d .d) (.s .d (.c (.s .d .d) (.s .d (.c (.s .d .d) (.s .d (.c (.s .d (.s .d .d)) (.s .d (.c (.s .d .d) (.s .d (.c (.s (.q [] [] [.p 0, .p 1, .p 3, .p 5, .p 8, .p 9, .p 10, .w 2 [2, 7, 11, 12, 13, 14, 15], .w 4 [4, 7, 11, 12, 13, 14, 15], .w 6 [6, 7, 11, 12, 13, 14, 15], .o 7, .o 11, .p 12, .p 13, .p 14, .p 15]) .d) (.s .d (.c (.s (.q [] [] [.p 0, .p 1, .p 3, .p 5, .p 8, .p 10, .p 11, .p 12, .w 2 [2, 7, 13, 14, 15], .w 4 [4, 7, 13, 14, 15], .w 6 [6, 7, 13, 14, 15], .w 9 [9, 13, 14, 15], .o 7, .o 13, .p 14, .p 15]) .d) (.s .d (.c (.s .d .d) (.s .d (.c (.s (.q [] [] [.p 0, .p 1, .p 3, .p 5, .p 8, .p 10, .p 11, .p 12, .w 2 [2, 7, 13, 14, 15], .w 4 [4, 7, 13, 14, 15], .w 6 [6, 7, 13, 14, 15], .w 9 [9, 13, 14, 15], .o 7, .o 13, .p 14, .p 15]) .d) (.s .d (.c (.s (.q [] [] [.p 0, .p 1, .p 2, .p 5, .p 6, .p 7, .w 3 [3, 4, 8, 9, 10], .o 4, .o 8, .p 9, .p 10]) .d) (.s .d (.c (.s .d (.j [.slot 9 (.int .i64)] (.s .d (.c .d .d)) (.s (.q [] [] [.p 0, .p 1, .p 3, .p 5, .p 7, .p 8, .p 9, .w 2 [2, 6, 10, 11, 12, 13, 14], .w 4 [4, 6, 10, 11, 12, 13, 14], .o 6, .o 10, .p 11, .p 12, .p 13, .p 14]) .d))) .d)))))))))))))))))))))))))) (.s .d (.s (.s .d (.c (.s .d .d) .d)) (.s .d .d))))))

def deque_Op_pushed.j1 (Q : Den kdequeOp → Heap → Prop) (s4 : ((Int × (Int × (Int × (Int × (Int × (Int × (Int × (Int × (Int × (Int × (Int × (Int × (Int × (Bool × Den kapiTodo)))))))))))))) × ((Int × (Int × (Int × (Int × (Int × (Int × (Int × (Int × (Int × (Int × (Int × (Int × (Int × (Bool × Den kapiTodo)))))))))))))) × Unit))) (h5 : Heap) : Prop :=
    Q (s4.1.1, (s4.1.2.1, ((s4.1.2.2.1, (s4.1.2.2.2.1, ())), (s4.1.2.2.2.2.1, (s4.1.2.2.2.2.2.1, (s4.1.2.2.2.2.2.2.1, (s4.1.2.2.2.2.2.2.2.1, (s4.1.2.2.2.2.2.2.2.2.1, (s4.1.2.2.2.2.2.2.2.2.2.1, (s4.1.2.2.2.2.2.2.2.2.2.2.1, (s4.1.2.2.2.2.2.2.2.2.2.2.2.1, (s4.1.2.2.2.2.2.2.2.2.2.2.2.2.1, (s4.1.2.2.2.2.2.2.2.2.2.2.2.2.2.1, (s4.1.2.2.2.2.2.2.2.2.2.2.2.2.2.2.1, (s4.1.2.2.2.2.2.2.2.2.2.2.2.2.2.2.2.1, ()))))))))))))))) h5
def deque_Op_pushed.M (c_deque_Op_over : Den kdequeOp → Int → Int → Heap → (Den kdequeOp → Heap → Prop) → Prop) (o1 : Den kdequeOp) (got2 : Int) (h3 : Heap) (Q : Den kdequeOp → Heap → Prop) : Prop :=
    (((decide (o1.2.1 = 1)) = true →
    deque_Op_pushed.j1 Q ((o1.1, (2, (o1.2.2.1.1, (o1.2.2.1.2.1, (o1.2.2.2.1, (o1.2.2.2.2.1, (got2, (o1.2.2.2.2.2.2.1, (o1.2.2.2.2.2.2.2.1, (o1.2.2.2.2.2.2.2.2.1, (o1.2.2.2.2.2.2.2.2.2.1, (o1.2.2.2.2.2.2.2.2.2.2.1, (o1.2.2.2.2.2.2.2.2.2.2.2.1, (o1.2.2.2.2.2.2.2.2.2.2.2.2.1, (o1.2.2.2.2.2.2.2.2.2.2.2.2.2.1, (o1.2.2.2.2.2.2.2.2.2.2.2.2.2.2.1, ())))))))))))))))), (0, (0, (0, (0, (0, (0, (0, (0, (0, (0, (0, (0, (0, (false, (0, (0, ())))))))))))))))), ()) h3) ∧
    ((decide (o1.2.1 = 1)) = false →
    (((decide (o1.2.1 = 2)) = true →
    deque_Op_pushed.j1 Q ((o1.1, (3, (o1.2.2.1.1, (o1.2.2.1.2.1, (o1.2.2.2.1, (got2, (o1.2.2.2.2.2.1, (o1.2.2.2.2.2.2.1, (o1.2.2.2.2.2.2.2.1, (o1.2.2.2.2.2.2.2.2.1, (o1.2.2.2.2.2.2.2.2.2.1, (o1.2.2.2.2.2.2.2.2.2.2.1, (o1.2.2.2.2.2.2.2.2.2.2.2.1, (o1.2.2.2.2.2.2.2.2.2.2.2.2.1, (o1.2.2.2.2.2.2.2.2.2.2.2.2.2.1, (o1.2.2.2.2.2.2.2.2.2.2.2.2.2.2.1, ())))))))))))))))), (0, (0, (0, (0, (0, (0, (0, (0, (0, (0, (0, (0, (0, (false, (0, (0, ())))))))))))))))), ()) h3) ∧
    ((decide (o1.2.1 = 2)) = false →
    (((decide (o1.2.1 = 3)) = true →
    deque_Op_pushed.j1 Q ((o1.1, (4, (o1.2.2.1.1, (o1.2.2.1.2.1, (o1.2.2.2.1, (o1.2.2.2.2.1, (o1.2.2.2.2.2.1, (got2, (o1.2.2.2.2.2.2.2.1, (o1.2.2.2.2.2.2.2.2.1, (o1.2.2.2.2.2.2.2.2.2.1, (o1.2.2.2.2.2.2.2.2.2.2.1, (o1.2.2.2.2.2.2.2.2.2.2.2.1, (o1.2.2.2.2.2.2.2.2.2.2.2.2.1, (o1.2.2.2.2.2.2.2.2.2.2.2.2.2.1, (o1.2.2.2.2.2.2.2.2.2.2.2.2.2.2.1, ())))))))))))))))), (0, (0, (0, (0, (0, (0, (0, (0, (0, (0, (0, (0, (0, (false, (0, (0, ())))))))))))))))), ()) h3) ∧
    ((decide (o1.2.1 = 3)) = false →
    (((decide (o1.2.1 = 4)) = true →
    (((decide (got2 < 1)) = true →
    c_deque_Op_over (o1.1, (10, ((o1.2.2.1.1, (o1.2.2.1.2.1, ())), (o1.2.2.2.1, (o1.2.2.2.2.1, (o1.2.2.2.2.2.1, (o1.2.2.2.2.2.2.1, (got2, (o1.2.2.2.2.2.2.2.2.1, (o1.2.2.2.2.2.2.2.2.2.1, (o1.2.2.2.2.2.2.2.2.2.2.1, (o1.2.2.2.2.2.2.2.2.2.2.2.1, (o1.2.2.2.2.2.2.2.2.2.2.2.2.1, (o1.2.2.2.2.2.2.2.2.2.2.2.2.2.1, (o1.2.2.2.2.2.2.2.2.2.2.2.2.2.2.1, ()))))))))))))))) 1 0 h3 fun r6 h7 =>
    Q (r6.1, (r6.2.1, ((r6.2.2.1.1, (r6.2.2.1.2.1, ())), (r6.2.2.2.1, (r6.2.2.2.2.1, (r6.2.2.2.2.2.1, (r6.2.2.2.2.2.2.1, (r6.2.2.2.2.2.2.2.1, (r6.2.2.2.2.2.2.2.2.1, (r6.2.2.2.2.2.2.2.2.2.1, (r6.2.2.2.2.2.2.2.2.2.2.1, (r6.2.2.2.2.2.2.2.2.2.2.2.1, (r6.2.2.2.2.2.2.2.2.2.2.2.2.1, (r6.2.2.2.2.2.2.2.2.2.2.2.2.2.1, (r6.2.2.2.2.2.2.2.2.2.2.2.2.2.2.1, ()))))))))))))))) h7) ∧
    ((decide (got2 < 1)) = false →
    (((decide ((w64 (o1.2.2.2.2.2.1 - o1.2.2.2.2.1)) < got2)) = true →
    deque_Op_pushed.j1 Q ((o1.1, (10, (o1.2.2.1.1, (o1.2.2.1.2.1, (o1.2.2.2.1, (o1.2.2.2.2.1, (o1.2.2.2.2.2.1, (o1.2.2.2.2.2.2.1, (got2, (o1.2.2.2.2.2.2.2.2.1, (o1.2.2.2.2.2.2.2.2.2.1, (o1.2.2.2.2.2.2.2.2.2.2.1, (o1.2.2.2.2.2.2.2.2.2.2.2.1, (o1.2.2.2.2.2.2.2.2.2.2.2.2.1, (o1.2.2.2.2.2.2.2.2.2.2.2.2.2.1, (o1.2.2.2.2.2.2.2.2.2.2.2.2.2.2.1, ())))))))))))))))), (0, (0, (0, (0, (0, (0, (0, (0, (0, (0, (0, (0, (0, (false, (0, (0, ())))))))))))))))), ()) h3) ∧
    ((decide ((w64 (o1.2.2.2.2.2.1 - o1.2.2.2.2.1)) < got2)) = false →
    (((decide (o1.2.2.1.2.1 ≤ got2)) = true →
    c_deque_Op_over (o1.1, (10, ((o1.2.2.1.1, (o1.2.2.1.2.1, ())), (o1.2.2.2.1, (o1.2.2.2.2.1, (o1.2.2.2.2.2.1, (o1.2.2.2.2.2.2.1, (got2, (o1.2.2.2.2.2.2.2.2.1, (o1.2.2.2.2.2.2.2.2.2.1, (o1.2.2.2.2.2.2.2.2.2.2.1, (o1.2.2.2.2.2.2.2.2.2.2.2.1, (o1.2.2.2.2.2.2.2.2.2.2.2.2.1, (o1.2.2.2.2.2.2.2.2.2.2.2.2.2.1, (o1.2.2.2.2.2.2.2.2.2.2.2.2.2.2.1, ()))))))))))))))) 3 0 h3 fun r8 h9 =>
    Q (r8.1, (r8.2.1, ((r8.2.2.1.1, (r8.2.2.1.2.1, ())), (r8.2.2.2.1, (r8.2.2.2.2.1, (r8.2.2.2.2.2.1, (r8.2.2.2.2.2.2.1, (r8.2.2.2.2.2.2.2.1, (r8.2.2.2.2.2.2.2.2.1, (r8.2.2.2.2.2.2.2.2.2.1, (r8.2.2.2.2.2.2.2.2.2.2.1, (r8.2.2.2.2.2.2.2.2.2.2.2.1, (r8.2.2.2.2.2.2.2.2.2.2.2.2.1, (r8.2.2.2.2.2.2.2.2.2.2.2.2.2.1, (r8.2.2.2.2.2.2.2.2.2.2.2.2.2.2.1, ()))))))))))))))) h9) ∧
    ((decide (o1.2.2.1.2.1 ≤ got2)) = false →
    deque_Op_pushed.j1 Q ((o1.1, (5, (o1.2.2.1.1, (o1.2.2.1.2.1, (o1.2.2.2.1, (o1.2.2.2.2.1, (o1.2.2.2.2.2.1, (o1.2.2.2.2.2.2.1, (got2, (o1.2.2.2.2.2.2.2.2.1, ((if o1.2.2.1.2.1 < (w64 (2 * got2)) then o1.2.2.1.2.1 else (w64 (2 * got2))), (o1.2.2.2.2.2.2.2.2.2.2.1, (o1.2.2.2.2.2.2.2.2.2.2.2.1, (o1.2.2.2.2.2.2.2.2.2.2.2.2.1, (o1.2.2.2.2.2.2.2.2.2.2.2.2.2.1, (o1.2.2.2.2.2.2.2.2.2.2.2.2.2.2.1, ())))))))))))))))), (0, (0, (0, (0, (0, (0, (0, (0, (0, (0, (0, (0, (0, (false, (0, (0, ())))))))))))))))), ()) h3))))))) ∧
    ((decide (o1.2.1 = 4)) = false →
    (((decide (o1.2.1 = 5)) = true →
    deque_Op_pushed.j1 Q ((o1.1, (6, (o1.2.2.1.1, (o1.2.2.1.2.1, (o1.2.2.2.1, (o1.2.2.2.2.1, (o1.2.2.2.2.2.1, (o1.2.2.2.2.2.2.1, (o1.2.2.2.2.2.2.2.1, (got2, (o1.2.2.2.2.2.2.2.2.2.1, (o1.2.2.2.2.2.2.2.2.2.2.1, (o1.2.2.2.2.2.2.2.2.2.2.2.1, (o1.2.2.2.2.2.2.2.2.2.2.2.2.1, (o1.2.2.2.2.2.2.2.2.2.2.2.2.2.1, (o1.2.2.2.2.2.2.2.2.2.2.2.2.2.2.1, ())))))))))))))))), (0, (0, (0, (0, (0, (0, (0, (0, (0, (0, (0, (0, (0, (false, (0, (0, ())))))))))))))))), ()) h3) ∧
    ((decide (o1.2.1 = 5)) = false →
    (((decide (o1.2.1 = 6)) = true →
    deque_Op_pushed.j1 Q ((o1.1, (7, (o1.2.2.1.1, (o1.2.2.1.2.1, (o1.2.2.2.1, (o1.2.2.2.2.1, (o1.2.2.2.2.2.1, (o1.2.2.2.2.2.2.1, (o1.2.2.2.2.2.2.2.1, (o1.2.2.2.2.2.2.2.2.1, (o1.2.2.2.2.2.2.2.2.2.1, (o1.2.2.2.2.1, (o1.2.2.2.2.2.2.2.2.2.2.2.1, (o1.2.2.2.2.2.2.2.2.2.2.2.2.1, (o1.2.2.2.2.2.2.2.2.2.2.2.2.2.1, (o1.2.2.2.2.2.2.2.2.2.2.2.2.2.2.1, ())))))))))))))))), (0, (0, (0, (0, (0, (0, (0, (0, (0, (0, (0, (0, (0, (false, (0, (0, ())))))))))))))))), ()) h3) ∧
    ((decide (o1.2.1 = 6)) = false →
    (((decide (o1.2.1 = 7)) = true →
    deque_Op_pushed.j1 Q ((o1.1, (8, (o1.2.2.1.1, (o1.2.2.1.2.1, (o1.2.2.2.1, (o1.2.2.2.2.1, (o1.2.2.2.2.2.1, (o1.2.2.2.2.2.2.1, (o1.2.2.2.2.2.2.2.1, (o1.2.2.2.2.2.2.2.2.1, (o1.2.2.2.2.2.2.2.2.2.1, (o1.2.2.2.2.2.2.2.2.2.2.1, (got2, (o1.2.2.2.2.2.2.2.2.2.2.2.2.1, (o1.2.2.2.2.2.2.2.2.2.2.2.2.2.1, (o1.2.2.2.2.2.2.2.2.2.2.2.2.2.2.1, ())))))))))))))))), (0, (0, (0, (0, (0, (0, (0, (0, (0, (0, (0, (0, (0, (false, (0, (0, ())))))))))))))))), ()) h3) ∧
    ((decide (o1.2.1 = 7)) = false →
    (((decide (o1.2.1 = 8)) = true →
    (((decide ((w64 (o1.2.2.2.2.2.2.2.2.2.2.1 + 1)) = o1.2.2.2.2.2.1)) = true →
    deque_Op_pushed.j1 Q ((o1.1, (9, (o1.2.2.1.1, (o1.2.2.1.2.1, (o1.2.2.2.1, (o1.2.2.2.2.1, (o1.2.2.2.2.2.1, (o1.2.2.2.2.2.2.1, (o1.2.2.2.2.2.2.2.1, (o1.2.2.2.2.2.2.2.2.1, (o1.2.2.2.2.2.2.2.2.2.1, ((w64 (o1.2.2.2.2.2.2.2.2.2.2.1 + 1)), (o1.2.2.2.2.2.2.2.2.2.2.2.1, (o1.2.2.2.2.2.2.2.2.2.2.2.2.1, (o1.2.2.2.2.2.2.2.2.2.2.2.2.2.1, (o1.2.2.2.2.2.2.2.2.2.2.2.2.2.2.1, ())))))))))))))))), (0, (0, (0, (0, (0, (0, (0, (0, (0, (0, (0, (0, (0, (false, (0, (0, ())))))))))))))))), ()) h3) ∧
    ((decide ((w64 (o1.2.2.2.2.2.2.2.2.2.2.1 + 1)) = o1.2.2.2.2.2.1)) = false →
    deque_Op_pushed.j1 Q ((o1.1, (7, (o1.2.2.1.1, (o1.2.2.1.2.1, (o1.2.2.2.1, (o1.2.2.2.2.1, (o1.2.2.2.2.2.1, (o1.2.2.2.2.2.2.1, (o1.2.2.2.2.2.2.2.1, (o1.2.2.2.2.2.2.2.2.1, (o1.2.2.2.2.2.2.2.2.2.1, ((w64 (o1.2.2.2.2.2.2.2.2.2.2.1 + 1)), (o1.2.2.2.2.2.2.2.2.2.2.2.1, (o1.2.2.2.2.2.2.2.2.2.2.2.2.1, (o1.2.2.2.2.2.2.2.2.2.2.2.2.2.1, (o1.2.2.2.2.2.2.2.2.2.2.2.2.2.2.1, ())))))))))))))))), (0, (0, (0, (0, (0, (0, (0, (0, (0, (0, (0, (0, (0, (false, (0, (0, ())))))))))))))))), ()) h3))) ∧
    ((decide (o1.2.1 = 8)) = false →
    (((decide (o1.2.1 = 9)) = true →
    deque_Op_pushed.j1 Q ((o1.1, (10, (o1.2.2.1.1, (o1.2.2.1.2.1, (o1.2.2.2.1, (o1.2.2.2.2.1, (o1.2.2.2.2.2.1, (o1.2.2.2.2.2.2.2.2.1, (o1.2.2.2.2.2.2.2.2.2.1, (o1.2.2.2.2.2.2.2.2.1, (o1.2.2.2.2.2.2.2.2.2.1, (o1.2.2.2.2.2.2.2.2.2.2.1, (o1.2.2.2.2.2.2.2.2.2.2.2.1, (o1.2.2.2.2.2.2.2.2.2.2.2.2.1, (o1.2.2.2.2.2.2.2.2.2.2.2.2.2.1, (o1.2.2.2.2.2.2.2.2.2.2.2.2.2.2.1, ())))))))))))))))), (0, (0, (0, (0, (0, (0, (0, (0, (0, (0, (0, (0, (0, (false, (0, (0, ())))))))))))))))), ()) h3) ∧
    ((decide (o1.2.1 = 9)) = false →
    (((decide (o1.2.1 = 10)) = true →
    deque_Op_pushed.j1 Q ((o1.1, (11, (o1.2.2.1.1, (o1.2.2.1.2.1, (o1.2.2.2.1, (o1.2.2.2.2.1, (o1.2.2.2.2.2.1, (o1.2.2.2.2.2.2.1, (o1.2.2.2.2.2.2.2.1, (o1.2.2.2.2.2.2.2.2.1, (o1.2.2.2.2.2.2.2.2.2.1, (o1.2.2.2.2.2.2.2.2.2.2.1, (o1.2.2.2.2.2.2.2.2.2.2.2.1, (o1.2.2.2.2.2.2.2.2.2.2.2.2.1, (o1.2.2.2.2.2.2.2.2.2.2.2.2.2.1, (o1.2.2.2.2.2.2.2.2.2.2.2.2.2.2.1, ())))))))))))))))), (0, (0, (0, (0, (0, (0, (0, (0, (0, (0, (0, (0, (0, (false, (0, (0, ())))))))))))))))), ()) h3) ∧
    ((decide (o1.2.1 = 10)) = false →
    (((decide (o1.2.1 = 11)) = true →
    c_deque_Op_over (o1.1, (o1.2.1, ((o1.2.2.1.1, (o1.2.2.1.2.1, ())), (o1.2.2.2.1, (o1.2.2.2.2.1, (o1.2.2.2.2.2.1, (o1.2.2.2.2.2.2.1, (o1.2.2.2.2.2.2.2.1, (o1.2.2.2.2.2.2.2.2.1, (o1.2.2.2.2.2.2.2.2.2.1, (o1.2.2.2.2.2.2.2.2.2.2.1, (o1.2.2.2.2.2.2.2.2.2.2.2.1, (o1.2.2.2.2.2.2.2.2.2.2.2.2.1, (o1.2.2.2.2.2.2.2.2.2.2.2.2.2.1, (o1.2.2.2.2.2.2.2.2.2.2.2.2.2.2.1, ()))))))))))))))) 2 0 h3 fun r10 h11 =>
    Q (r10.1, (r10.2.1, ((r10.2.2.1.1, (r10.2.2.1.2.1, ())), (r10.2.2.2.1, (r10.2.2.2.2.1, (r10.2.2.2.2.2.1, (r10.2.2.2.2.2.2.1, (r10.2.2.2.2.2.2.2.1, (r10.2.2.2.2.2.2.2.2.1, (r10.2.2.2.2.2.2.2.2.2.1, (r10.2.2.2.2.2.2.2.2.2.2.1, (r10.2.2.2.2.2.2.2.2.2.2.2.1, (r10.2.2.2.2.2.2.2.2.2.2.2.2.1, (r10.2.2.2.2.2.2.2.2.2.2.2.2.2.1, (r10.2.2.2.2.2.2.2.2.2.2.2.2.2.2.1, ()))))))))))))))) h11) ∧
    ((decide (o1.2.1 = 11)) = false →
    deque_Op_pushed.j1 Q ((o1.1, (o1.2.1, (o1.2.2.1.1, (o1.2.2.1.2.1, (o1.2.2.2.1, (o1.2.2.2.2.1, (o1.2.2.2.2.2.1, (o1.2.2.2.2.2.2.1, (o1.2.2.2.2.2.2.2.1, (o1.2.2.2.2.2.2.2.2.1, (o1.2.2.2.2.2.2.2.2.2.1, (o1.2.2.2.2.2.2.2.2.2.2.1, (o1.2.2.2.2.2.2.2.2.2.2.2.1, (o1.2.2.2.2.2.2.2.2.2.2.2.2.1, (o1.2.2.2.2.2.2.2.2.2.2.2.2.2.1, (o1.2.2.2.2.2.2.2.2.2.2.2.2.2.2.1, ())))))))))))))))), (0, (0, (0, (0, (0, (0, (0, (0, (0, (0, (0, (0, (0, (false, (0, (0, ())))))))))))))))), ()) h3))))))))))))))))))))))
def deque_Op_pushed.mk : Mk := (.s (.r [0, 1]) (.j [.box 2 (.pair (.int .i64) (.pair (.int .i64) (.pair (.int .i64) (.pair (.int .i64) (.pair (.int .i64) (.pair (.int .i64) (.pair (.int .i64) (.pair (.int .i64) (.pair (.int .i64) (.pair (.int .i64) (.pair (.int .i64) (.pair (.int .i64) (.pair (.int .i64) (.pair .bool kapiTodo)))))))))))))), .box 4 (.pair (.int .i64) (.pair (.int .i64) (.pair (.int .i64) (.pair (.int .i64) (.pair (.int .i64) (.pair (.int .i64) (.pair (.int .i64) (.pair (.int .i64) (.pair (.int .i64) (.pair (.int .i64) (.pair (.int .i64) (.pair (.int .i64) (.pair (.int .i64) (.pair .bool kapiTodo))))))))))))))] (.s .d (.b (.s .d (.c .d (.s .d (.c .d (.s .d (.c .d (.s .d (.c (.s .d (.b (.s .d (.c (.s .d .d) (.s .d (.c .d (.s .d (.c (.s .d .d) .d)))))))) (.s .d (.c .d (.s .d (.c .d (.s .d (.c .d (.s .d (.c (.s .d (.s .d (.s .d (.c .d .d)))) (.s .d (.c .d (.s .d (.c .d (.s .d (.c (.s .d .d) .d)))))))))))))))))))))))) (.s .d .d)))

def deque_Op_popped.j1 (Q : Den kdequeOp → Heap → Prop) (s4 : ((Int × (Int × (Int × (Int × (Int × (Int × (Int × (Int × (Int × (Int × (Int × (Int × (Int × (Bool × Den kapiTodo)))))))))))))) × ((Int × (Int × (Int × (Int × (Int × (Int × (Int × (Int × (Int × (Int × (Int × (Int × (Int × (Bool × Den kapiTodo)))))))))))))) × Unit))) (h5 : Heap) : Prop :=
    Q (s4.1.1, (s4.1.2.1, ((s4.1.2.2.1, (s4.1.2.2.2.1, ())), (s4.1.2.2.2.2.1, (s4.1.2.2.2.2.2.1, (s4.1.2.2.2.2.2.2.1, (s4.1.2.2.2.2.2.2.2.1, (s4.1.2.2.2.2.2.2.2.2.1, (s4.1.2.2.2.2.2.2.2.2.2.1, (s4.1.2.2.2.2.2.2.2.2.2.2.1, (s4.1.2.2.2.2.2.2.2.2.2.2.2.1, (s4.1.2.2.2.2.2.2.2.2.2.2.2.2.1, (s4.1.2.2.2.2.2.2.2.2.2.2.2.2.2.1, (s4.1.2.2.2.2.2.2.2.2.2.2.2.2.2.2.1, (s4.1.2.2.2.2.2.2.2.2.2.2.2.2.2.2.2.1, ()))))))))))))))) h5
def deque_Op_popped.M (c_deque_Op_over : Den kdequeOp → Int → Int → Heap → (Den kdequeOp → Heap → Prop) → Prop) (o1 : Den kdequeOp) (got2 : Int) (h3 : Heap) (Q : Den kdequeOp → Heap → Prop) : Prop :=
    (((decide (o1.2.1 = 1)) = true →
    deque_Op_popped.j1 Q ((o1.1, (3, (o1.2.2.1.1, (o1.2.2.1.2.1, (o1.2.2.2.1, (o1.2.2.2.2.1, ((w64 (got2 - 1)), (o1.2.2.2.2.2.2.1, (o1.2.2.2.2.2.2.2.1, (o1.2.2.2.2.2.2.2.2.1, (o1.2.2.2.2.2.2.2.2.2.1, (o1.2.2.2.2.2.2.2.2.2.2.1, (o1.2.2.2.2.2.2.2.2.2.2.2.1, (o1.2.2.2.2.2.2.2.2.2.2.2.2.1, (o1.2.2.2.2.2.2.2.2.2.2.2.2.2.1, (o1.2.2.2.2.2.2.2.2.2.2.2.2.2.2.1, ())))))))))))))))), (0, (0, (0, (0, (0, (0, (0, (0, (0, (0, (0, (0, (0, (false, (0, (0, ())))))))))))))))), ()) h3) ∧
    ((decide (o1.2.1 = 1)) = false →
    (((decide (o1.2.1 = 3)) = true →
    deque_Op_popped.j1 Q ((o1.1, (11, (o1.2.2.1.1, (o1.2.2.1.2.1, (o1.2.2.2.1, (o1.2.2.2.2.1, (o1.2.2.2.2.2.1, (got2, (o1.2.2.2.2.2.2.2.1, (o1.2.2.2.2.2.2.2.2.1, (o1.2.2.2.2.2.2.2.2.2.1, (o1.2.2.2.2.2.2.2.2.2.2.1, (o1.2.2.2.2.2.2.2.2.2.2.2.1, (o1.2.2.2.2.2.2.2.2.2.2.2.2.1, (o1.2.2.2.2.2.2.2.2.2.2.2.2.2.1, (o1.2.2.2.2.2.2.2.2.2.2.2.2.2.2.1, ())))))))))))))))), (0, (0, (0, (0, (0, (0, (0, (0, (0, (0, (0, (0, (0, (false, (0, (0, ())))))))))))))))), ()) h3) ∧
    ((decide (o1.2.1 = 3)) = false →
    (((decide (o1.2.1 = 11)) = true →
    (((decide (o1.2.2.2.2.2.2.2.2.2.2.1 = 0)) = true →
    deque_Op_popped.j1 Q ((o1.1, (2, (o1.2.2.1.1, (o1.2.2.1.2.1, (o1.2.2.2.1, (o1.2.2.2.2.1, (o1.2.2.2.2.2.1, (o1.2.2.2.2.2.2.1, (o1.2.2.2.2.2.2.2.1, (o1.2.2.2.2.2.2.2.2.1, (o1.2.2.2.2.2.2.2.2.2.1, (o1.2.2.2.2.2.2.2.2.2.2.1, (o1.2.2.2.2.2.2.2.2.2.2.2.1, (o1.2.2.2.2.2.2.2.2.2.2.2.2.1, (o1.2.2.2.2.2.2.2.2.2.2.2.2.2.1, (o1.2.2.2.2.2.2.2.2.2.2.2.2.2.2.1, ())))))))))))))))), (0, (0, (0, (0, (0, (0, (0, (0, (0, (0, (0, (0, (0, (false, (0, (0, ())))))))))))))))), ()) h3) ∧
    ((decide (o1.2.2.2.2.2.2.2.2.2.2.1 = 0)) = false →
    ((o1.2.2.2.2.2.2.2.2.2.2.2.2.1 = true →
    c_deque_Op_over (o1.1, (o1.2.1, ((o1.2.2.1.1, (o1.2.2.1.2.1, ())), (o1.2.2.2.1, (o1.2.2.2.2.1, (o1.2.2.2.2.2.1, (o1.2.2.2.2.2.2.1, (o1.2.2.2.2.2.2.2.1, (o1.2.2.2.2.2.2.2.2.1, (o1.2.2.2.2.2.2.2.2.2.1, (o1.2.2.2.2.2.2.2.2.2.2.1, (o1.2.2.2.2.2.2.2.2.2.2.2.1, (o1.2.2.2.2.2.2.2.2.2.2.2.2.1, (o1.2.2.2.2.2.2.2.2.2.2.2.2.2.1, (o1.2.2.2.2.2.2.2.2.2.2.2.2.2.2.1, ()))))))))))))))) 4 o1.2.2.2.2.2.2.2.2.2.2.2.1 h3 fun r6 h7 =>
    Q (r6.1, (r6.2.1, ((r6.2.2.1.1, (r6.2.2.1.2.1, ())), (r6.2.2.2.1, (r6.2.2.2.2.1, (r6.2.2.2.2.2.1, (r6.2.2.2.2.2.2.1, (r6.2.2.2.2.2.2.2.1, (r6.2.2.2.2.2.2.2.2.1, (r6.2.2.2.2.2.2.2.2.2.1, (r6.2.2.2.2.2.2.2.2.2.2.1, (r6.2.2.2.2.2.2.2.2.2.2.2.1, (r6.2.2.2.2.2.2.2.2.2.2.2.2.1, (r6.2.2.2.2.2.2.2.2.2.2.2.2.2.1, (r6.2.2.2.2.2.2.2.2.2.2.2.2.2.2.1, ()))))))))))))))) h7) ∧
    (o1.2.2.2.2.2.2.2.2.2.2.2.2.1 = false →
    c_deque_Op_over (o1.1, (o1.2.1, ((o1.2.2.1.1, (o1.2.2.1.2.1, ())), (o1.2.2.2.1, (o1.2.2.2.2.1, (o1.2.2.2.2.2.1, (o1.2.2.2.2.2.2.1, (o1.2.2.2.2.2.2.2.1, (o1.2.2.2.2.2.2.2.2.1, (o1.2.2.2.2.2.2.2.2.2.1, (o1.2.2.2.2.2.2.2.2.2.2.1, (o1.2.2.2.2.2.2.2.2.2.2.2.1, (o1.2.2.2.2.2.2.2.2.2.2.2.2.1, (o1.2.2.2.2.2.2.2.2.2.2.2.2.2.1, (o1.2.2.2.2.2.2.2.2.2.2.2.2.2.2.1, ()))))))))))))))) 5 0 h3 fun r8 h9 =>
    Q (r8.1, (r8.2.1, ((r8.2.2.1.1, (r8.2.2.1.2.1, ())), (r8.2.2.2.1, (r8.2.2.2.2.1, (r8.2.2.2.2.2.1, (r8.2.2.2.2.2.2.1, (r8.2.2.2.2.2.2.2.1, (r8.2.2.2.2.2.2.2.2.1, (r8.2.2.2.2.2.2.2.2.2.1, (r8.2.2.2.2.2.2.2.2.2.2.1, (r8.2.2.2.2.2.2.2.2.2.2.2.1, (r8.2.2.2.2.2.2.2.2.2.2.2.2.1, (r8.2.2.2.2.2.2.2.2.2.2.2.2.2.1, (r8.2.2.2.2.2.2.2.2.2.2.2.2.2.2.1, ()))))))))))))))) h9))))) ∧
    ((decide (o1.2.1 = 11)) = false →
    (((decide (o1.2.1 = 2)) = true →
    (((decide (o1.2.2.2.2.2.1 < got2)) = true →
    deque_Op_popped.j1 Q ((o1.1, (11, (o1.2.2.1.1, (o1.2.2.1.2.1, (o1.2.2.2.1, (got2, (o1.2.2.2.2.2.1, (o1.2.2.2.2.2.2.1, (o1.2.2.2.2.2.2.2.1, (o1.2.2.2.2.2.2.2.2.1, (o1.2.2.2.2.2.2.2.2.2.1, (1, (o1.2.2.2.2.2.2.2.2.2.2.2.1, (o1.2.2.2.2.2.2.2.2.2.2.2.2.1, (o1.2.2.2.2.2.2.2.2.2.2.2.2.2.1, (o1.2.2.2.2.2.2.2.2.2.2.2.2.2.2.1, ())))))))))))))))), (0, (0, (0, (0, (0, (0, (0, (0, (0, (0, (0, (0, (0, (false, (0, (0, ())))))))))))))))), ()) h3) ∧
    ((decide (o1.2.2.2.2.2.1 < got2)) = false →
    deque_Op_popped.j1 Q ((o1.1, (4, (o1.2.2.1.1, (o1.2.2.1.2.1, (o1.2.2.2.1, (got2, (o1.2.2.2.2.2.1, (o1.2.2.2.2.2.2.1, (o1.2.2.2.2.2.2.2.1, (o1.2.2.2.2.2.2.2.2.1, (o1.2.2.2.2.2.2.2.2.2.1, (1, (o1.2.2.2.2.2.2.2.2.2.2.2.1, (o1.2.2.2.2.2.2.2.2.2.2.2.2.1, (o1.2.2.2.2.2.2.2.2.2.2.2.2.2.1, (o1.2.2.2.2.2.2.2.2.2.2.2.2.2.2.1, ())))))))))))))))), (0, (0, (0, (0, (0, (0, (0, (0, (0, (0, (0, (0, (0, (false, (0, (0, ())))))))))))))))), ()) h3))) ∧
    ((decide (o1.2.1 = 2)) = false →
    (((decide (o1.2.1 = 4)) = true →
    (((decide (got2 < 1)) = true →
    c_deque_Op_over (o1.1, (12, ((o1.2.2.1.1, (o1.2.2.1.2.1, ())), (o1.2.2.2.1, (o1.2.2.2.2.1, (o1.2.2.2.2.2.1, (o1.2.2.2.2.2.2.1, (got2, (o1.2.2.2.2.2.2.2.2.1, (o1.2.2.2.2.2.2.2.2.2.1, (o1.2.2.2.2.2.2.2.2.2.2.1, (o1.2.2.2.2.2.2.2.2.2.2.2.1, (o1.2.2.2.2.2.2.2.2.2.2.2.2.1, (o1.2.2.2.2.2.2.2.2.2.2.2.2.2.1, (o1.2.2.2.2.2.2.2.2.2.2.2.2.2.2.1, ()))))))))))))))) 1 0 h3 fun r10 h11 =>
    Q (r10.1, (r10.2.1, ((r10.2.2.1.1, (r10.2.2.1.2.1, ())), (r10.2.2.2.1, (r10.2.2.2.2.1, (r10.2.2.2.2.2.1, (r10.2.2.2.2.2.2.1, (r10.2.2.2.2.2.2.2.1, (r10.2.2.2.2.2.2.2.2.1, (r10.2.2.2.2.2.2.2.2.2.1, (r10.2.2.2.2.2.2.2.2.2.2.1, (r10.2.2.2.2.2.2.2.2.2.2.2.1, (r10.2.2.2.2.2.2.2.2.2.2.2.2.1, (r10.2.2.2.2.2.2.2.2.2.2.2.2.2.1, (r10.2.2.2.2.2.2.2.2.2.2.2.2.2.2.1, ()))))))))))))))) h11) ∧
    ((decide (got2 < 1)) = false →
    deque_Op_popped.j1 Q ((o1.1, (12, (o1.2.2.1.1, (o1.2.2.1.2.1, (o1.2.2.2.1, (o1.2.2.2.2.1, (o1.2.2.2.2.2.1, (o1.2.2.2.2.2.2.1, (got2, (o1.2.2.2.2.2.2.2.2.1, (o1.2.2.2.2.2.2.2.2.2.1, (o1.2.2.2.2.2.2.2.2.2.2.1, (o1.2.2.2.2.2.2.2.2.2.2.2.1, (o1.2.2.2.2.2.2.2.2.2.2.2.2.1, (o1.2.2.2.2.2.2.2.2.2.2.2.2.2.1, (o1.2.2.2.2.2.2.2.2.2.2.2.2.2.2.1, ())))))))))))))))), (0, (0, (0, (0, (0, (0, (0, (0, (0, (0, (0, (0, (0, (false, (0, (0, ())))))))))))))))), ()) h3))) ∧
    ((decide (o1.2.1 = 4)) = false →
    (((decide (o1.2.1 = 12)) = true →
    (((decide (o1.2.2.2.2.1 < o1.2.2.2.2.2.1)) = true →
    c_deque_Op_over (o1.1, (13, ((o1.2.2.1.1, (o1.2.2.1.2.1, ())), (o1.2.2.2.1, (o1.2.2.2.2.1, (o1.2.2.2.2.2.1, (o1.2.2.2.2.2.2.1, (o1.2.2.2.2.2.2.2.1, (o1.2.2.2.2.2.2.2.2.1, (o1.2.2.2.2.2.2.2.2.2.1, (o1.2.2.2.2.2.2.2.2.2.2.1, (got2, (o1.2.2.2.2.2.2.2.2.2.2.2.2.1, (o1.2.2.2.2.2.2.2.2.2.2.2.2.2.1, (o1.2.2.2.2.2.2.2.2.2.2.2.2.2.2.1, ()))))))))))))))) 4 got2 h3 fun r12 h13 =>
    Q (r12.1, (r12.2.1, ((r12.2.2.1.1, (r12.2.2.1.2.1, ())), (r12.2.2.2.1, (r12.2.2.2.2.1, (r12.2.2.2.2.2.1, (r12.2.2.2.2.2.2.1, (r12.2.2.2.2.2.2.2.1, (r12.2.2.2.2.2.2.2.2.1, (r12.2.2.2.2.2.2.2.2.2.1, (r12.2.2.2.2.2.2.2.2.2.2.1, (r12.2.2.2.2.2.2.2.2.2.2.2.1, (r12.2.2.2.2.2.2.2.2.2.2.2.2.1, (r12.2.2.2.2.2.2.2.2.2.2.2.2.2.1, (r12.2.2.2.2.2.2.2.2.2.2.2.2.2.2.1, ()))))))))))))))) h13) ∧
    ((decide (o1.2.2.2.2.1 < o1.2.2.2.2.2.1)) = false →
    deque_Op_popped.j1 Q ((o1.1, (13, (o1.2.2.1.1, (o1.2.2.1.2.1, (o1.2.2.2.1, (o1.2.2.2.2.1, (o1.2.2.2.2.2.1, (o1.2.2.2.2.2.2.1, (o1.2.2.2.2.2.2.2.1, (o1.2.2.2.2.2.2.2.2.1, (o1.2.2.2.2.2.2.2.2.2.1, (o1.2.2.2.2.2.2.2.2.2.2.1, (got2, (o1.2.2.2.2.2.2.2.2.2.2.2.2.1, (o1.2.2.2.2.2.2.2.2.2.2.2.2.2.1, (o1.2.2.2.2.2.2.2.2.2.2.2.2.2.2.1, ())))))))))))))))), (0, (0, (0, (0, (0, (0, (0, (0, (0, (0, (0, (0, (0, (false, (0, (0, ())))))))))))))))), ()) h3))) ∧
    ((decide (o1.2.1 = 12)) = false →
    (((decide (o1.2.1 = 13)) = true →
    deque_Op_popped.j1 Q ((o1.1, (11, (o1.2.2.1.1, (o1.2.2.1.2.1, (o1.2.2.2.1, (o1.2.2.2.2.1, (o1.2.2.2.2.2.1, (o1.2.2.2.2.2.2.1, (o1.2.2.2.2.2.2.2.1, (o1.2.2.2.2.2.2.2.2.1, (o1.2.2.2.2.2.2.2.2.2.1, (o1.2.2.2.2.2.2.2.2.2.2.1, (o1.2.2.2.2.2.2.2.2.2.2.2.1, ((decide (got2 = 1)), (o1.2.2.2.2.2.2.2.2.2.2.2.2.2.1, (o1.2.2.2.2.2.2.2.2.2.2.2.2.2.2.1, ())))))))))))))))), (0, (0, (0, (0, (0, (0, (0, (0, (0, (0, (0, (0, (0, (false, (0, (0, ())))))))))))))))), ()) h3) ∧
    ((decide (o1.2.1 = 13)) = false →
    deque_Op_popped.j1 Q ((o1.1, (o1.2.1, (o1.2.2.1.1, (o1.2.2.1.2.1, (o1.2.2.2.1, (o1.2.2.2.2.1, (o1.2.2.2.2.2.1, (o1.2.2.2.2.2.2.1, (o1.2.2.2.2.2.2.2.1, (o1.2.2.2.2.2.2.2.2.1, (o1.2.2.2.2.2.2.2.2.2.1, (o1.2.2.2.2.2.2.2.2.2.2.1, (o1.2.2.2.2.2.2.2.2.2.2.2.1, (o1.2.2.2.2.2.2.2.2.2.2.2.2.1, (o1.2.2.2.2.2.2.2.2.2.2.2.2.2.1, (o1.2.2.2.2.2.2.2.2.2.2.2.2.2.2.1, ())))))))))))))))), (0, (0, (0, (0, (0, (0, (0, (0, (0, (0, (0, (0, (0, (false, (0, (0, ())))))))))))))))), ()) h3))))))))))))))
def deque_Op_popped.mk : Mk := (.s (.r [0, 1]) (.j [.box 2 (.pair (.int .i64) (.pair (.int .i64) (.pair (.int .i64) (.pair (.int .i64) (.pair (.int .i64) (.pair (.int .i64) (.pair (.int .i64) (.pair (.int .i64) (.pair (.int .i64) (.pair (.int .i64) (.pair (.int .i64) (.pair (.int .i64) (.pair (.int .i64) (.pair .bool kapiTodo)))))))))))))), .box 4 (.pair (.int .i64) (.pair (.int .i64) (.pair (.int .i64) (.pair (.int .i64) (.pair (.int .i64) (.pair (.int .i64) (.pair (.int .i64) (.pair (.int .i64) (.pair (.int .i64) (.pair (.int .i64) (.pair (.int .i64) (.pair (.int .i64) (.pair (.int .i64) (.pair .bool kapiTodo))))))))))))))] (.s .d (.b (.s .d (.c .d (.s .d (.c .d (.s .d (.c (.b (.s .d (.c .d (.s .d (.c (.s .d .d) (.s .d .d)))))) (.s .d (.c (.s .d (.s .d (.c .d .d))) (.s .d (.c (.s .d (.s .d (.c (.s .d .d) .d))) (.s .d (.c (.s .d (.s .d (.c (.s .d .d) .d))) (.s .d (.c .d .d)))))))))))))))) (.s .d .d)))

def deque_Op_stolen.j1 (Q : Den kdequeOp → Heap → Prop) (s4 : ((Int × (Int × (Int × (Int × (Int × (Int × (Int × (Int × (Int × (Int × (Int × (Int × (Int × (Bool × Den kapiTodo)))))))))))))) × ((Int × (Int × (Int × (Int × (Int × (Int × (Int × (Int × (Int × (Int × (Int × (Int × (Int × (Bool × Den kapiTodo)))))))))))))) × Unit))) (h5 : Heap) : Prop :=
    Q (s4.1.1, (s4.1.2.1, ((s4.1.2.2.1, (s4.1.2.2.2.1, ())), (s4.1.2.2.2.2.1, (s4.1.2.2.2.2.2.1, (s4.1.2.2.2.2.2.2.1, (s4.1.2.2.2.2.2.2.2.1, (s4.1.2.2.2.2.2.2.2.2.1, (s4.1.2.2.2.2.2.2.2.2.2.1, (s4.1.2.2.2.2.2.2.2.2.2.2.1, (s4.1.2.2.2.2.2.2.2.2.2.2.2.1, (s4.1.2.2.2.2.2.2.2.2.2.2.2.2.1, (s4.1.2.2.2.2.2.2.2.2.2.2.2.2.2.1, (s4.1.2.2.2.2.2.2.2.2.2.2.2.2.2.2.1, (s4.1.2.2.2.2.2.2.2.2.2.2.2.2.2.2.2.1, ()))))))))))))))) h5
def deque_Op_stolen.M (c_deque_Op_over : Den kdequeOp → Int → Int → Heap → (Den kdequeOp → Heap → Prop) → Prop) (o1 : Den kdequeOp) (got2 : Int) (h3 : Heap) (Q : Den kdequeOp → Heap → Prop) : Prop :=
    (((decide (o1.2.1 = 2)) = true →
    deque_Op_stolen.j1 Q ((o1.1, (1, (o1.2.2.1.1, (o1.2.2.1.2.1, (o1.2.2.2.1, (got2, (o1.2.2.2.2.2.1, (o1.2.2.2.2.2.2.1, (o1.2.2.2.2.2.2.2.1, (o1.2.2.2.2.2.2.2.2.1, (o1.2.2.2.2.2.2.2.2.2.1, (o1.2.2.2.2.2.2.2.2.2.2.1, (o1.2.2.2.2.2.2.2.2.2.2.2.1, (o1.2.2.2.2.2.2.2.2.2.2.2.2.1, (o1.2.2.2.2.2.2.2.2.2.2.2.2.2.1, (o1.2.2.2.2.2.2.2.2.2.2.2.2.2.2.1, ())))))))))))))))), (0, (0, (0, (0, (0, (0, (0, (0, (0, (0, (0, (0, (0, (false, (0, (0, ())))))))))))))))), ()) h3) ∧
    ((decide (o1.2.1 = 2)) = false →
    (((decide (o1.2.1 = 1)) = true →
    (((decide (got2 ≤ o1.2.2.2.2.1)) = true →
    c_deque_Op_over (o1.1, (3, ((o1.2.2.1.1, (o1.2.2.1.2.1, ())), (o1.2.2.2.1, (o1.2.2.2.2.1, (got2, (o1.2.2.2.2.2.2.1, (o1.2.2.2.2.2.2.2.1, (o1.2.2.2.2.2.2.2.2.1, (o1.2.2.2.2.2.2.2.2.2.1, (o1.2.2.2.2.2.2.2.2.2.2.1, (o1.2.2.2.2.2.2.2.2.2.2.2.1, (o1.2.2.2.2.2.2.2.2.2.2.2.2.1, (o1.2.2.2.2.2.2.2.2.2.2.2.2.2.1, (o1.2.2.2.2.2.2.2.2.2.2.2.2.2.2.1, ()))))))))))))))) 5 0 h3 fun r6 h7 =>
    Q (r6.1, (r6.2.1, ((r6.2.2.1.1, (r6.2.2.1.2.1, ())), (r6.2.2.2.1, (r6.2.2.2.2.1, (r6.2.2.2.2.2.1, (r6.2.2.2.2.2.2.1, (r6.2.2.2.2.2.2.2.1, (r6.2.2.2.2.2.2.2.2.1, (r6.2.2.2.2.2.2.2.2.2.1, (r6.2.2.2.2.2.2.2.2.2.2.1, (r6.2.2.2.2.2.2.2.2.2.2.2.1, (r6.2.2.2.2.2.2.2.2.2.2.2.2.1, (r6.2.2.2.2.2.2.2.2.2.2.2.2.2.1, (r6.2.2.2.2.2.2.2.2.2.2.2.2.2.2.1, ()))))))))))))))) h7) ∧
    ((decide (got2 ≤ o1.2.2.2.2.1)) = false →
    deque_Op_stolen.j1 Q ((o1.1, (3, (o1.2.2.1.1, (o1.2.2.1.2.1, (o1.2.2.2.1, (o1.2.2.2.2.1, (got2, (o1.2.2.2.2.2.2.1, (o1.2.2.2.2.2.2.2.1, (o1.2.2.2.2.2.2.2.2.1, (o1.2.2.2.2.2.2.2.2.2.1, (o1.2.2.2.2.2.2.2.2.2.2.1, (o1.2.2.2.2.2.2.2.2.2.2.2.1, (o1.2.2.2.2.2.2.2.2.2.2.2.2.1, (o1.2.2.2.2.2.2.2.2.2.2.2.2.2.1, (o1.2.2.2.2.2.2.2.2.2.2.2.2.2.2.1, ())))))))))))))))), (0, (0, (0, (0, (0, (0, (0, (0, (0, (0, (0, (0, (0, (false, (0, (0, ())))))))))))))))), ()) h3))) ∧
    ((decide (o1.2.1 = 1)) = false →
    (((decide (o1.2.1 = 3)) = true →
    deque_Op_stolen.j1 Q ((o1.1, (4, (o1.2.2.1.1, (o1.2.2.1.2.1, (o1.2.2.2.1, (o1.2.2.2.2.1, (o1.2.2.2.2.2.1, (got2, (o1.2.2.2.2.2.2.2.1, (o1.2.2.2.2.2.2.2.2.1, (o1.2.2.2.2.2.2.2.2.2.1, (o1.2.2.2.2.2.2.2.2.2.2.1, (o1.2.2.2.2.2.2.2.2.2.2.2.1, (o1.2.2.2.2.2.2.2.2.2.2.2.2.1, (o1.2.2.2.2.2.2.2.2.2.2.2.2.2.1, (o1.2.2.2.2.2.2.2.2.2.2.2.2.2.2.1, ())))))))))))))))), (0, (0, (0, (0, (0, (0, (0, (0, (0, (0, (0, (0, (0, (false, (0, (0, ())))))))))))))))), ()) h3) ∧
    ((decide (o1.2.1 = 3)) = false →
    (((decide (o1.2.1 = 4)) = true →
    (((decide (got2 < 1)) = true →
    c_deque_Op_over (o1.1, (12, ((o1.2.2.1.1, (o1.2.2.1.2.1, ())), (o1.2.2.2.1, (o1.2.2.2.2.1, (o1.2.2.2.2.2.1, (o1.2.2.2.2.2.2.1, (got2, (o1.2.2.2.2.2.2.2.2.1, (o1.2.2.2.2.2.2.2.2.2.1, (o1.2.2.2.2.2.2.2.2.2.2.1, (o1.2.2.2.2.2.2.2.2.2.2.2.1, (o1.2.2.2.2.2.2.2.2.2.2.2.2.1, (o1.2.2.2.2.2.2.2.2.2.2.2.2.2.1, (o1.2.2.2.2.2.2.2.2.2.2.2.2.2.2.1, ()))))))))))))))) 1 0 h3 fun r8 h9 =>
    Q (r8.1, (r8.2.1, ((r8.2.2.1.1, (r8.2.2.1.2.1, ())), (r8.2.2.2.1, (r8.2.2.2.2.1, (r8.2.2.2.2.2.1, (r8.2.2.2.2.2.2.1, (r8.2.2.2.2.2.2.2.1, (r8.2.2.2.2.2.2.2.2.1, (r8.2.2.2.2.2.2.2.2.2.1, (r8.2.2.2.2.2.2.2.2.2.2.1, (r8.2.2.2.2.2.2.2.2.2.2.2.1, (r8.2.2.2.2.2.2.2.2.2.2.2.2.1, (r8.2.2.2.2.2.2.2.2.2.2.2.2.2.1, (r8.2.2.2.2.2.2.2.2.2.2.2.2.2.2.1, ()))))))))))))))) h9) ∧
    ((decide (got2 < 1)) = false →
    deque_Op_stolen.j1 Q ((o1.1, (12, (o1.2.2.1.1, (o1.2.2.1.2.1, (o1.2.2.2.1, (o1.2.2.2.2.1, (o1.2.2.2.2.2.1, (o1.2.2.2.2.2.2.1, (got2, (o1.2.2.2.2.2.2.2.2.1, (o1.2.2.2.2.2.2.2.2.2.1, (o1.2.2.2.2.2.2.2.2.2.2.1, (o1.2.2.2.2.2.2.2.2.2.2.2.1, (o1.2.2.2.2.2.2.2.2.2.2.2.2.1, (o1.2.2.2.2.2.2.2.2.2.2.2.2.2.1, (o1.2.2.2.2.2.2.2.2.2.2.2.2.2.2.1, ())))))))))))))))), (0, (0, (0, (0, (0, (0, (0, (0, (0, (0, (0, (0, (0, (false, (0, (0, ())))))))))))))))), ()) h3))) ∧
    ((decide (o1.2.1 = 4)) = false →
    (((decide (o1.2.1 = 12)) = true →
    deque_Op_stolen.j1 Q ((o1.1, (13, (o1.2.2.1.1, (o1.2.2.1.2.1, (o1.2.2.2.1, (o1.2.2.2.2.1, (o1.2.2.2.2.2.1, (o1.2.2.2.2.2.2.1, (o1.2.2.2.2.2.2.2.1, (o1.2.2.2.2.2.2.2.2.1, (o1.2.2.2.2.2.2.2.2.2.1, (o1.2.2.2.2.2.2.2.2.2.2.1, (got2, (o1.2.2.2.2.2.2.2.2.2.2.2.2.1, (o1.2.2.2.2.2.2.2.2.2.2.2.2.2.1, (o1.2.2.2.2.2.2.2.2.2.2.2.2.2.2.1, ())))))))))))))))), (0, (0, (0, (0, (0, (0, (0, (0, (0, (0, (0, (0, (0, (false, (0, (0, ())))))))))))))))), ()) h3) ∧
    ((decide (o1.2.1 = 12)) = false →
    (((decide (o1.2.1 = 13)) = true →
    (((decide (got2 = 1)) = true →
    c_deque_Op_over (o1.1, (o1.2.1, ((o1.2.2.1.1, (o1.2.2.1.2.1, ())), (o1.2.2.2.1, (o1.2.2.2.2.1, (o1.2.2.2.2.2.1, (o1.2.2.2.2.2.2.1, (o1.2.2.2.2.2.2.2.1, (o1.2.2.2.2.2.2.2.2.1, (o1.2.2.2.2.2.2.2.2.2.1, (o1.2.2.2.2.2.2.2.2.2.2.1, (o1.2.2.2.2.2.2.2.2.2.2.2.1, (o1.2.2.2.2.2.2.2.2.2.2.2.2.1, (o1.2.2.2.2.2.2.2.2.2.2.2.2.2.1, (o1.2.2.2.2.2.2.2.2.2.2.2.2.2.2.1, ()))))))))))))))) 4 o1.2.2.2.2.2.2.2.2.2.2.2.1 h3 fun r10 h11 =>
    Q (r10.1, (r10.2.1, ((r10.2.2.1.1, (r10.2.2.1.2.1, ())), (r10.2.2.2.1, (r10.2.2.2.2.1, (r10.2.2.2.2.2.1, (r10.2.2.2.2.2.2.1, (r10.2.2.2.2.2.2.2.1, (r10.2.2.2.2.2.2.2.2.1, (r10.2.2.2.2.2.2.2.2.2.1, (r10.2.2.2.2.2.2.2.2.2.2.1, (r10.2.2.2.2.2.2.2.2.2.2.2.1, (r10.2.2.2.2.2.2.2.2.2.2.2.2.1, (r10.2.2.2.2.2.2.2.2.2.2.2.2.2.1, (r10.2.2.2.2.2.2.2.2.2.2.2.2.2.2.1, ()))))))))))))))) h11) ∧
    ((decide (got2 = 1)) = false →
    c_deque_Op_over (o1.1, (o1.2.1, ((o1.2.2.1.1, (o1.2.2.1.2.1, ())), (o1.2.2.2.1, (o1.2.2.2.2.1, (o1.2.2.2.2.2.1, (o1.2.2.2.2.2.2.1, (o1.2.2.2.2.2.2.2.1, (o1.2.2.2.2.2.2.2.2.1, (o1.2.2.2.2.2.2.2.2.2.1, (o1.2.2.2.2.2.2.2.2.2.2.1, (o1.2.2.2.2.2.2.2.2.2.2.2.1, (o1.2.2.2.2.2.2.2.2.2.2.2.2.1, (o1.2.2.2.2.2.2.2.2.2.2.2.2.2.1, (o1.2.2.2.2.2.2.2.2.2.2.2.2.2.2.1, ()))))))))))))))) 6 0 h3 fun r12 h13 =>
    Q (r12.1, (r12.2.1, ((r12.2.2.1.1, (r12.2.2.1.2.1, ())), (r12.2.2.2.1, (r12.2.2.2.2.1, (r12.2.2.2.2.2.1, (r12.2.2.2.2.2.2.1, (r12.2.2.2.2.2.2.2.1, (r12.2.2.2.2.2.2.2.2.1, (r12.2.2.2.2.2.2.2.2.2.1, (r12.2.2.2.2.2.2.2.2.2.2.1, (r12.2.2.2.2.2.2.2.2.2.2.2.1, (r12.2.2.2.2.2.2.2.2.2.2.2.2.1, (r12.2.2.2.2.2.2.2.2.2.2.2.2.2.1, (r12.2.2.2.2.2.2.2.2.2.2.2.2.2.2.1, ()))))))))))))))) h13))) ∧
    ((decide (o1.2.1 = 13)) = false →
    deque_Op_stolen.j1 Q ((o1.1, (o1.2.1, (o1.2.2.1.1, (o1.2.2.1.2.1, (o1.2.2.2.1, (o1.2.2.2.2.1, (o1.2.2.2.2.2.1, (o1.2.2.2.2.2.2.1, (o1.2.2.2.2.2.2.2.1, (o1.2.2.2.2.2.2.2.2.1, (o1.2.2.2.2.2.2.2.2.2.1, (o1.2.2.2.2.2.2.2.2.2.2.1, (o1.2.2.2.2.2.2.2.2.2.2.2.1, (o1.2.2.2.2.2.2.2.2.2.2.2.2.1, (o1.2.2.2.2.2.2.2.2.2.2.2.2.2.1, (o1.2.2.2.2.2.2.2.2.2.2.2.2.2.2.1, ())))))))))))))))), (0, (0, (0, (0, (0, (0, (0, (0, (0, (0, (0, (0, (0, (false, (0, (0, ())))))))))))))))), ()) h3))))))))))))
def deque_Op_stolen.mk : Mk := (.s (.r [0, 1]) (.j [.box 2 (.pair (.int .i64) (.pair (.int .i64) (.pair (.int .i64) (.pair (.int .i64) (.pair (.int .i64) (.pair (.int .i64) (.pair (.int .i64) (.pair (.int .i64) (.pair (.int .i64) (.pair (.int .i64) (.pair (.int .i64) (.pair (.int .i64) (.pair (.int .i64) (.pair .bool kapiTodo)))))))))))))), .box 4 (.pair (.int .i64) (.pair (.int .i64) (.pair (.int .i64) (.pair (.int .i64) (.pair (.int .i64) (.pair (.int .i64) (.pair (.int .i64) (.pair (.int .i64) (.pair (.int .i64) (.pair (.int .i64) (.pair (.int .i64) (.pair (.int .i64) (.pair (.int .i64) (.pair .bool kapiTodo))))))))))))))] (.s .d (.b (.s .d (.c .d (.s .d (.c (.s .d (.s .d (.c (.s .d .d) .d))) (.s .d (.c .d (.s .d (.c (.s .d (.s .d (.c (.s .d .d) .d))) (.s .d (.c .d (.s .d (.c (.s (.s .d (.c (.s .d .d) .d)) (.s .d .d)) .d)))))))))))))) (.s .d .d)))

def deque_Op_looked.M (c_deque_Op_over : Den kdequeOp → Int → Int → Heap → (Den kdequeOp → Heap → Prop) → Prop) (o1 : Den kdequeOp) (got2 : Int) (h3 : Heap) (Q : Den kdequeOp → Heap → Prop) : Prop :=
    (((decide (o1.2.1 = 2)) = true →
    Q (o1.1, (1, ((o1.2.2.1.1, (o1.2.2.1.2.1, ())), (o1.2.2.2.1, (got2, (o1.2.2.2.2.2.1, (o1.2.2.2.2.2.2.1, (o1.2.2.2.2.2.2.2.1, (o1.2.2.2.2.2.2.2.2.1, (o1.2.2.2.2.2.2.2.2.2.1, (o1.2.2.2.2.2.2.2.2.2.2.1, (o1.2.2.2.2.2.2.2.2.2.2.2.1, (o1.2.2.2.2.2.2.2.2.2.2.2.2.1, (o1.2.2.2.2.2.2.2.2.2.2.2.2.2.1, (o1.2.2.2.2.2.2.2.2.2.2.2.2.2.2.1, ()))))))))))))))) h3) ∧
    ((decide (o1.2.1 = 2)) = false →
    (((decide (o1.2.2.2.2.1 < got2)) = true →
    c_deque_Op_over (o1.1, (o1.2.1, ((o1.2.2.1.1, (o1.2.2.1.2.1, ())), (o1.2.2.2.1, (o1.2.2.2.2.1, (o1.2.2.2.2.2.1, (o1.2.2.2.2.2.2.1, (o1.2.2.2.2.2.2.2.1, (o1.2.2.2.2.2.2.2.2.1, (o1.2.2.2.2.2.2.2.2.2.1, (o1.2.2.2.2.2.2.2.2.2.2.1, (o1.2.2.2.2.2.2.2.2.2.2.2.1, (o1.2.2.2.2.2.2.2.2.2.2.2.2.1, (o1.2.2.2.2.2.2.2.2.2.2.2.2.2.1, (o1.2.2.2.2.2.2.2.2.2.2.2.2.2.2.1, ()))))))))))))))) 7 0 h3 fun r4 h5 =>
    Q (r4.1, (r4.2.1, ((r4.2.2.1.1, (r4.2.2.1.2.1, ())), (r4.2.2.2.1, (r4.2.2.2.2.1, (r4.2.2.2.2.2.1, (r4.2.2.2.2.2.2.1, (r4.2.2.2.2.2.2.2.1, (r4.2.2.2.2.2.2.2.2.1, (r4.2.2.2.2.2.2.2.2.2.1, (r4.2.2.2.2.2.2.2.2.2.2.1, (r4.2.2.2.2.2.2.2.2.2.2.2.1, (r4.2.2.2.2.2.2.2.2.2.2.2.2.1, (r4.2.2.2.2.2.2.2.2.2.2.2.2.2.1, (r4.2.2.2.2.2.2.2.2.2.2.2.2.2.2.1, ()))))))))))))))) h5) ∧
    ((decide (o1.2.2.2.2.1 < got2)) = false →
    c_deque_Op_over (o1.1, (o1.2.1, ((o1.2.2.1.1, (o1.2.2.1.2.1, ())), (o1.2.2.2.1, (o1.2.2.2.2.1, (o1.2.2.2.2.2.1, (o1.2.2.2.2.2.2.1, (o1.2.2.2.2.2.2.2.1, (o1.2.2.2.2.2.2.2.2.1, (o1.2.2.2.2.2.2.2.2.2.1, (o1.2.2.2.2.2.2.2.2.2.2.1, (o1.2.2.2.2.2.2.2.2.2.2.2.1, (o1.2.2.2.2.2.2.2.2.2.2.2.2.1, (o1.2.2.2.2.2.2.2.2.2.2.2.2.2.1, (o1.2.2.2.2.2.2.2.2.2.2.2.2.2.2.1, ()))))))))))))))) 8 0 h3 fun r6 h7 =>
    Q (r6.1, (r6.2.1, ((r6.2.2.1.1, (r6.2.2.1.2.1, ())), (r6.2.2.2.1, (r6.2.2.2.2.1, (r6.2.2.2.2.2.1, (r6.2.2.2.2.2.2.1, (r6.2.2.2.2.2.2.2.1, (r6.2.2.2.2.2.2.2.2.1, (r6.2.2.2.2.2.2.2.2.2.1, (r6.2.2.2.2.2.2.2.2.2.2.1, (r6.2.2.2.2.2.2.2.2.2.2.2.1, (r6.2.2.2.2.2.2.2.2.2.2.2.2.1, (r6.2.2.2.2.2.2.2.2.2.2.2.2.2.1, (r6.2.2.2.2.2.2.2.2.2.2.2.2.2.2.1, ()))))))))))))))) h7))))
def deque_Op_looked.mk : Mk := (.s (.r [0, 1]) (.s (.s .d (.c (.s .d (.s .d .d)) .d)) (.s (.s .d (.c (.s .d .d) .d)) (.s .d .d))))

def deque_begin.j1 (kind1 : Int) (at_2 : Int) (d3 : Den kapiTodo) (v4 : Int) (Q : Den kdequeOp → Heap → Prop) (s6 : ((Int × (Int × (Int × (Int × (Int × (Int × (Int × (Int × (Int × (Int × (Int × (Int × (Int × (Bool × Den kapiTodo)))))))))))))) × Unit)) (h7 : Heap) : Prop :=
    Q (kind1, (at_2, ((d3.1, (d3.2.1, ())), (v4, (0, (0, (0, (0, (0, (0, (0, (0, (false, (0, (0, ()))))))))))))))) h7
def deque_begin.j2 (kind1 : Int) (at_2 : Int) (d3 : Den kapiTodo) (v4 : Int) (Q : Den kdequeOp → Heap → Prop) (s8 : (Bool × Unit)) (h9 : Heap) : Prop :=
    ((s8.1 = true →
    Q (0, (0, ((0, (0, ())), (0, (0, (0, (0, (0, (0, (0, (0, (0, (false, (0, (0, ()))))))))))))))) h9) ∧
    (s8.1 = false →
    deque_begin.j1 kind1 at_2 d3 v4 Q ((0, (0, (0, (0, (0, (0, (0, (0, (0, (0, (0, (0, (0, (false, (0, (0, ())))))))))))))))), ()) h9))
def deque_begin.M  (kind1 : Int) (at_2 : Int) (d3 : Den kapiTodo) (v4 : Int) (h5 : Heap) (Q : Den kdequeOp → Heap → Prop) : Prop :=
    (((decide (d3.2.1 < 1)) = true →
    deque_begin.j2 kind1 at_2 d3 v4 Q (true, ()) h5) ∧
    ((decide (d3.2.1 < 1)) = false →
    deque_begin.j2 kind1 at_2 d3 v4 Q ((decide ((4096 : Int) < d3.2.1)), ()) h5))
def deque_begin.mk : Mk := (.s (.r [0, 1]) (.j [.box 8 (.pair (.int .i64) (.pair (.int .i64) (.pair (.int .i64) (.pair (.int .i64) (.pair (.int .i64) (.pair (.int .i64) (.pair (.int .i64) (.pair (.int .i64) (.pair (.int .i64) (.pair (.int .i64) (.pair (.int .i64) (.pair (.int .i64) (.pair (.int .i64) (.pair .bool kapiTodo))))))))))))))] (.j [.slot 16 .bool] .d (.c (.s .d .d) .d)) (.s .d .d)))

def deque_Op_next.M  (o1 : Den kdequeOp) (h2 : Heap) (Q : Int → Heap → Prop) : Prop :=
    (((decide (o1.1 = 1)) = true →
    Q (w64 (o1.2.2.2.2.2.1 + 1)) h2) ∧
    ((decide (o1.1 = 1)) = false →
    (((decide (o1.2.2.2.2.2.2.2.2.2.2.1 = 0)) = true →
    Q o1.2.2.2.2.2.1 h2) ∧
    ((decide (o1.2.2.2.2.2.2.2.2.2.2.1 = 0)) = false →
    (((decide (o1.2.2.2.2.2.1 < o1.2.2.2.2.1)) = true →
    Q o1.2.2.2.2.1 h2) ∧
    ((decide (o1.2.2.2.2.2.1 < o1.2.2.2.2.1)) = false →
    Q (w64 (o1.2.2.2.2.1 + 1)) h2))))))
def deque_Op_next.mk : Mk := (.s (.r [0]) (.s (.b (.s .d (.c (.s .d .d) (.s .d (.c (.s .d .d) (.s .d (.c (.s .d .d) .d))))))) (.s .d .d)))

def cells_Arena_CAS.j1 (c_cells_Arena_note : Option Addr → Int → Int → Int → Int → Bool → Heap → (Unit → Heap → Prop) → Prop) (a1 : Option Addr) (addr2 : Int) (old3 : Int) (next4 : Int) (Q : (Bool × (Int × Unit)) → Heap → Prop) (t11 : Int) (s12 : Unit) (h13 : Heap) : Prop :=
    c_cells_Arena_note a1 2 addr2 old3 next4 (decide (t11 = old3)) h13 fun r14 h15 =>
    Q ((decide (t11 = old3)), 0, ()) h15
def cells_Arena_CAS.M (c_cells_Arena_outside : Option Addr → Int → Heap → (Bool → Heap → Prop) → Prop) (c_cells_Arena_note : Option Addr → Int → Int → Int → Int → Bool → Heap → (Unit → Heap → Prop) → Prop) (a1 : Option Addr) (addr2 : Int) (old3 : Int) (next4 : Int) (h5 : Heap) (Q : (Bool × (Int × Unit)) → Heap → Prop) : Prop :=
    c_cells_Arena_outside a1 addr2 h5 fun r6 h7 =>
    ((r6 = true →
    Q (false, 20, ()) h7) ∧
    (r6 = false →
    deref a1 fun a8 =>
    ld (.sl : Kd) h7 (a8.add 2) fun t9 =>
    (0 ≤ addr2 ∧ addr2 < (t9.len : Int)) ∧
    deref t9.a fun a10 =>
    ld ((.int .i64) : Kd) h7 (a10.add ((addr2 : Int).toNat * 1)) fun t11 =>
    (((decide (t11 = old3)) = true →
    deref a1 fun a16 =>
    ld (.sl : Kd) h7 (a16.add 2) fun t17 =>
    (0 ≤ addr2 ∧ addr2 < (t17.len : Int)) ∧
    deref t17.a fun a18 =>
    st ((.int .i64) : Kd) h7 (a18.add ((addr2 : Int).toNat * 1)) next4 fun h19 =>
    cells_Arena_CAS.j1 c_cells_Arena_note a1 addr2 old3 next4 Q t11 () h19) ∧
    ((decide (t11 = old3)) = false →
    cells_Arena_CAS.j1 c_cells_Arena_note a1 addr2 old3 next4 Q t11 () h7))))
def cells_Arena_CAS.mk : Mk := (.s .d (.s (.s .d (.c (.s .d .d) .d)) (.s .d (.j [] (.s .d (.c .d .d)) (.s .d (.s .d .d))))))

def cells_Arena_Load.M (c_cells_Arena_outside : Option Addr → Int → Heap → (Bool → Heap → Prop) → Prop) (c_cells_Arena_note : Option Addr → Int → Int → Int → Int → Bool → Heap → (Unit → Heap → Prop) → Prop) (a1 : Option Addr) (addr2 : Int) (h3 : Heap) (Q : Den kapiTodo → Heap → Prop) : Prop :=
    c_cells_Arena_outside a1 addr2 h3 fun r4 h5 =>
    ((r4 = true →
    Q (0, 20, ()) h5) ∧
    (r4 = false →
    deref a1 fun a6 =>
    ld (.sl : Kd) h5 (a6.add 2) fun t7 =>
    (0 ≤ addr2 ∧ addr2 < (t7.len : Int)) ∧
    deref t7.a fun a8 =>
    ld ((.int .i64) : Kd) h5 (a8.add ((addr2 : Int).toNat * 1)) fun t9 =>
    c_cells_Arena_note a1 0 addr2 t9 0 true h5 fun r10 h11 =>
    Q (t9, 0, ()) h11))
def cells_Arena_Load.mk : Mk := (.s .d (.s (.s .d (.c (.s .d .d) .d)) (.s .d (.s .d (.s .d .d)))))

def cells_Arena_Reserve.j1 (c_cells_ledger_refuse : Option Addr → Int → Heap → (Int → Heap → Prop) → Prop) (c_cells_ledger_take : Option Addr → Int → Heap → (Int → Heap → Prop) → Prop) (c_cells_Arena_note : Option Addr → Int → Int → Int → Int → Bool → Heap → (Unit → Heap → Prop) → Prop) (a1 : Option Addr) (n2 : Int) (Q : Den kapiTodo → Heap → Prop) (s4 : (Option Addr × Unit)) (h5 : Heap) : Prop :=
    c_cells_ledger_refuse s4.1 n2 h5 fun r6 h7 =>
    (((decide (r6 ≠ 0)) = true →
    Q (0, r6, ()) h7) ∧
    ((decide (r6 ≠ 0)) = false →
    c_cells_ledger_take s4.1 n2 h7 fun r8 h9 =>
    deref a1 fun a10 =>
    ld (.sl : Kd) h9 (a10.add 2) fun t11 =>
    appendZM ((.int .i64) : Kd) 8 h9 t11 n2 fun t12 h13 =>
    deref a1 fun a14 =>
    st (.sl : Kd) h13 (a14.add 2) t12 fun h15 =>
    c_cells_Arena_note a1 4 r8 n2 0 true h15 fun r16 h17 =>
    Q (r8, 0, ()) h17))
def cells_Arena_Reserve.M (c_cells_ledger_refuse : Option Addr → Int → Heap → (Int → Heap → Prop) → Prop) (c_cells_ledger_take : Option Addr → Int → Heap → (Int → Heap → Prop) → Prop) (c_cells_Arena_note : Option Addr → Int → Int → Int → Int → Bool → Heap → (Unit → Heap → Prop) → Prop) (a1 : Option Addr) (n2 : Int) (h3 : Heap) (Q : Den kapiTodo → Heap → Prop) : Prop :=
    (((Option.isSome a1) = true →
    deref a1 fun a18 =>
    cells_Arena_Reserve.j1 c_cells_ledger_refuse c_cells_ledger_take c_cells_Arena_note a1 n2 Q ((some (a18.add 0)), ()) h3) ∧
    ((Option.isSome a1) = false →
    cells_Arena_Reserve.j1 c_cells_ledger_refuse c_cells_ledger_take c_cells_Arena_note a1 n2 Q (none, ()) h3))
def cells_Arena_Reserve.mk : Mk := (.s .d (.s .d (.j [.slot 6 .ptr] (.s .d (.c .d .d)) (.s (.s .d (.s .d (.c (.s .d .d) .d))) (.s .d (.s .d (.s .d (.s .d .d))))))))

def cells_Arena_Store.M (c_cells_Arena_outside : Option Addr → Int → Heap → (Bool → Heap → Prop) → Prop) (c_cells_Arena_note : Option Addr → Int → Int → Int → Int → Bool → Heap → (Unit → Heap → Prop) → Prop) (a1 : Option Addr) (addr2 : Int) (v3 : Int) (h4 : Heap) (Q : Int → Heap → Prop) : Prop :=
    c_cells_Arena_outside a1 addr2 h4 fun r5 h6 =>
    ((r5 = true →
    Q 20 h6) ∧
    (r5 = false →
    deref a1 fun a7 =>
    ld (.sl : Kd) h6 (a7.add 2) fun t8 =>
    (0 ≤ addr2 ∧ addr2 < (t8.len : Int)) ∧
    deref t8.a fun a9 =>
    st ((.int .i64) : Kd) h6 (a9.add ((addr2 : Int).toNat * 1)) v3 fun h10 =>
    c_cells_Arena_note a1 1 addr2 v3 0 true h10 fun r11 h12 =>
    Q 0 h12))
def cells_Arena_Store.mk : Mk := (.s .d (.s (.s .d (.c (.s .d .d) .d)) (.s .d (.s .d (.s .d .d)))))

def cells_Arena_outside.M (c_cells_ledger_has : Option Addr → Int → Heap → (Bool → Heap → Prop) → Prop) (a1 : Option Addr) (addr2 : Int) (h3 : Heap) (Q : Bool → Heap → Prop) : Prop :=
    (((Option.isNone a1) = true →
    Q true h3) ∧
    ((Option.isNone a1) = false →
    deref a1 fun a4 =>
    c_cells_ledger_has (some (a4.add 0)) addr2 h3 fun r5 h6 =>
    Q (!r5) h6))
def cells_Arena_outside.mk : Mk := (.s .d (.s .d .d))

def cells_Arena_note.M  (a1 : Option Addr) (kind2 : Int) (addr3 : Int) (x4 : Int) (y5 : Int) (ok6 : Bool) (h7 : Heap) (Q : Unit → Heap → Prop) : Prop :=
    deref a1 fun a8 =>
    ld (.bool : Kd) h7 (a8.add 5) fun t9 =>
    ((t9 = true →
    deref a1 fun a10 =>
    deref a1 fun a11 =>
    ld (.sl : Kd) h7 (a10.add 3) fun t12 =>
    ld ((.int .i64) : Kd) h7 (a11.add 4) fun t13 =>
    new h7 (([(t13, (kind2, (addr3, (x4, (y5, (ok6, ()))))))] : List (Den kapiAccess)).flatMap (Kd.cells kapiAccess)) fun p14 h15 =>
    appendM 6 48 h15 t12 ⟨some p14, 1, 1⟩ fun t16 h17 =>
    deref a1 fun a18 =>
    st (.sl : Kd) h17 (a18.add 3) t16 fun h19 =>
    Q () h19) ∧
    (t9 = false →
    Q () h7))
def cells_Arena_note.mk : Mk := (.s .d (.c (.q [] [] [.p 0, .p 1, .p 2, .p 3, .p 5, .p 6, .p 7, .p 9, .p 10, .p 11, .p 12, .p 13, .w 4 [4, 16, 17, 18, 19], .w 8 [8, 14, 15, 16, 17, 18, 19], .p 14, .o 15, .o 16, .p 17, .p 18, .o 19]) .d))

def cells_ledger_refuse.j1 (Q : Int → Heap → Prop) (s4 : Unit) (h5 : Heap) : Prop :=
    Q 0 h5
def cells_ledger_refuse.j2 (Q : Int → Heap → Prop) (s6 : (Bool × Unit)) (h7 : Heap) : Prop :=
    ((s6.1 = true →
    Q 22 h7) ∧
    (s6.1 = false →
    cells_ledger_refuse.j1 Q () h7))
def cells_ledger_refuse.M  (l1 : Option Addr) (n2 : Int) (h3 : Heap) (Q : Int → Heap → Prop) : Prop :=
    (((decide (n2 < 1)) = true →
    Q 21 h3) ∧
    ((decide (n2 < 1)) = false →
    (((Option.isNone l1) = true →
    cells_ledger_refuse.j2 Q (true, ()) h3) ∧
    ((Option.isNone l1) = false →
    deref l1 fun a8 =>
    deref l1 fun a9 =>
    ld ((.int .i64) : Kd) h3 (a8.add 0) fun t10 =>
    ld ((.int .i64) : Kd) h3 (a9.add 1) fun t11 =>
    cells_ledger_refuse.j2 Q ((decide ((w64 (t10 - t11)) < n2)), ()) h3))))
def cells_ledger_refuse.mk : Mk := (.s .d (.s (.s .d (.c (.s .d .d) .d)) (.j [] (.j [.slot 21 .bool] (.q [] [] [.p 0, .p 1, .p 2, .p 3, .p 4, .p 5, .p 6, .p 8, .p 9, .p 10, .w 7 [7, 12, 13, 14], .w 11 [11, 12, 13, 14], .p 12, .p 13, .p 14]) (.c (.s .d .d) .d)) (.s .d .d))))

def cells_ledger_take.M  (l1 : Option Addr) (n2 : Int) (h3 : Heap) (Q : Int → Heap → Prop) : Prop :=
    deref l1 fun a4 =>
    ld ((.int .i64) : Kd) h3 (a4.add 1) fun t5 =>
    deref l1 fun a6 =>
    ld ((.int .i64) : Kd) h3 (a6.add 1) fun t7 =>
    deref l1 fun a8 =>
    st ((.int .i64) : Kd) h3 (a8.add 1) (w64 (t7 + n2)) fun h9 =>
    Q t5 h9
def cells_ledger_take.mk : Mk := (.s .d (.s .d (.s .d (.s .d .d))))

def cells_ledger_has.M  (l1 : Option Addr) (addr2 : Int) (h3 : Heap) (Q : Bool → Heap → Prop) : Prop :=
    (((decide ((0 : Int) ≤ addr2)) = true →
    deref l1 fun a4 =>
    ld ((.int .i64) : Kd) h3 (a4.add 1) fun t5 =>
    Q (decide (addr2 < t5)) h3) ∧
    ((decide ((0 : Int) ≤ addr2)) = false →
    Q false h3))
def cells_ledger_has.mk : Mk := (.s .d (.s .d .d))

end Go.Mx
