/-
  What the functions of this seat come to over abstract heaps: printed by a program of this workplace.
-/
import Derived.Test.YtjkecefbbijajabMxN
set_option linter.unusedVariables false
namespace Go.Mx
abbrev kapiDequeRun : Kd := (.pair .sl (.pair .sl (.pair .sl .nil)))
abbrev kapiAccess : Kd := (.pair (.int .i64) (.pair (.int .i64) (.pair (.int .i64) (.pair (.int .i64) (.pair (.int .i64) (.pair .bool .nil))))))
abbrev klaw4Game : Kd := (.pair (.int .i64) (.pair (.int .i64) (.pair .sl (.pair (.int .i64) (.pair .sl .nil)))))
abbrev kapiCall : Kd := (.pair (.int .i64) (.pair (.int .i64) (.pair (.int .i64) (.pair (.int .i64) (.pair (.int .i64) (.pair (.int .i64) (.pair (.int .i64) .nil)))))))
abbrev kapiTodo : Kd := (.pair (.int .i64) (.pair (.int .i64) .nil))
abbrev kdequegame : Kd := (.pair .ptr (.pair kapiTodo kapiDequeRun))
abbrev kdequeOp : Kd := (.pair (.int .i64) (.pair (.int .i64) (.pair kapiTodo (.pair (.int .i64) (.pair (.int .i64) (.pair (.int .i64) (.pair (.int .i64) (.pair (.int .i64) (.pair (.int .i64) (.pair (.int .i64) (.pair (.int .i64) (.pair (.int .i64) (.pair .bool kapiTodo)))))))))))))
abbrev kdequeactor : Kd := (.pair kdequeOp (.pair (.int .i64) .nil))
abbrev khistsearch : Kd := (.pair .sl (.pair (.int .i64) (.pair (.arr 4 .sl) (.pair .map (.pair .sl .nil)))))
abbrev kcellsArena : Kd := (.pair kapiTodo (.pair .sl (.pair .sl (.pair (.int .i64) (.pair .bool .nil)))))
-- @T p_cells_Arena 62

def law3_DequeBuffers.j1 (go15 : (Int × Den kapiTodo) → Heap → Prop) (s13 : (Int × Den kapiTodo)) (s16 : Den kapiTodo) (h17 : Heap) : Prop :=
    go15 (s16.1, s16.2.1, (w64 (s13.2.2.1 + 1)), ()) h17
def law3_DequeBuffers.j2 (most2 : Int) (go15 : (Int × Den kapiTodo) → Heap → Prop) (s13 : (Int × Den kapiTodo)) (t19 : Den kapiAccess) (s22 : Unit) (h23 : Heap) : Prop :=
    law3_DequeBuffers.j1 go15 s13 (t19.2.2.1, (if most2 < (w64 (2 * s13.2.1)) then most2 else (w64 (2 * s13.2.1))), ()) h23
def law3_DequeBuffers.j3 (most2 : Int) (Q : Bool → Heap → Prop) (go15 : (Int × Den kapiTodo) → Heap → Prop) (s13 : (Int × Den kapiTodo)) (t19 : Den kapiAccess) (s24 : (Bool × Unit)) (h25 : Heap) : Prop :=
    ((s24.1 = true →
    Q false h25) ∧
    (s24.1 = false →
    law3_DequeBuffers.j2 most2 go15 s13 t19 () h25))
def law3_DequeBuffers.j4 (Q : Bool → Heap → Prop) (go15 : (Int × Den kapiTodo) → Heap → Prop) (s13 : (Int × Den kapiTodo)) (s26 : (Bool × Unit)) (h27 : Heap) : Prop :=
    ((s26.1 = true →
    Q false h27) ∧
    (s26.1 = false →
    law3_DequeBuffers.j1 go15 s13 (s13.1, s13.2.1, ()) h27))
def law3_DequeBuffers.j5 (most2 : Int) (Q : Bool → Heap → Prop) (go15 : (Int × Den kapiTodo) → Heap → Prop) (s13 : (Int × Den kapiTodo)) (t19 : Den kapiAccess) (s20 : Unit) (h21 : Heap) : Prop :=
    (((decide (t19.2.1 = 3)) = true →
    Q false h21) ∧
    ((decide (t19.2.1 = 3)) = false →
    (((decide (t19.2.1 = 2)) = true →
    (((decide (t19.2.2.1 ≠ 0)) = true →
    Q false h21) ∧
    ((decide (t19.2.2.1 ≠ 0)) = false →
    law3_DequeBuffers.j1 go15 s13 (s13.1, s13.2.1, ()) h21))) ∧
    ((decide (t19.2.1 = 2)) = false →
    (((decide (t19.2.1 = 4)) = true →
    (((decide (most2 ≤ s13.2.1)) = true →
    law3_DequeBuffers.j3 most2 Q go15 s13 t19 (true, ()) h21) ∧
    ((decide (most2 ≤ s13.2.1)) = false →
    (((decide (t19.2.2.1 ≠ (w64 ((w64 (s13.1 + 1)) + s13.2.1)))) = true →
    law3_DequeBuffers.j3 most2 Q go15 s13 t19 (true, ()) h21) ∧
    ((decide (t19.2.2.1 ≠ (w64 ((w64 (s13.1 + 1)) + s13.2.1)))) = false →
    law3_DequeBuffers.j3 most2 Q go15 s13 t19 ((decide (t19.2.2.2.1 ≠ (w64 (1 + (if most2 < (w64 (2 * s13.2.1)) then most2 else (w64 (2 * s13.2.1))))))), ()) h21))))) ∧
    ((decide (t19.2.1 = 4)) = false →
    (((decide (t19.2.1 = 1)) = true →
    (((decide (t19.2.2.1 < 1)) = true →
    law3_DequeBuffers.j4 Q go15 s13 (true, ()) h21) ∧
    ((decide (t19.2.2.1 < 1)) = false →
    (((decide (t19.2.2.1 = 2)) = true →
    (((decide (t19.2.2.2.1 ≠ s13.1)) = true →
    law3_DequeBuffers.j4 Q go15 s13 (true, ()) h21) ∧
    ((decide (t19.2.2.2.1 ≠ s13.1)) = false →
    (((decide ((2 : Int) < t19.2.2.1)) = true →
    (((decide (t19.2.2.1 < s13.1)) = true →
    law3_DequeBuffers.j4 Q go15 s13 (true, ()) h21) ∧
    ((decide (t19.2.2.1 < s13.1)) = false →
    (((decide ((w64 (s13.1 + s13.2.1)) < t19.2.2.1)) = true →
    law3_DequeBuffers.j4 Q go15 s13 (true, ()) h21) ∧
    ((decide ((w64 (s13.1 + s13.2.1)) < t19.2.2.1)) = false →
    (((decide (t19.2.2.1 = s13.1)) = true →
    law3_DequeBuffers.j4 Q go15 s13 ((decide (t19.2.2.2.1 ≠ s13.2.1)), ()) h21) ∧
    ((decide (t19.2.2.1 = s13.1)) = false →
    law3_DequeBuffers.j4 Q go15 s13 (false, ()) h21))))))) ∧
    ((decide ((2 : Int) < t19.2.2.1)) = false →
    (((decide (t19.2.2.1 = s13.1)) = true →
    law3_DequeBuffers.j4 Q go15 s13 ((decide (t19.2.2.2.1 ≠ s13.2.1)), ()) h21) ∧
    ((decide (t19.2.2.1 = s13.1)) = false →
    law3_DequeBuffers.j4 Q go15 s13 (false, ()) h21))))))) ∧
    ((decide (t19.2.2.1 = 2)) = false →
    (((decide ((2 : Int) < t19.2.2.1)) = true →
    (((decide (t19.2.2.1 < s13.1)) = true →
    law3_DequeBuffers.j4 Q go15 s13 (true, ()) h21) ∧
    ((decide (t19.2.2.1 < s13.1)) = false →
    (((decide ((w64 (s13.1 + s13.2.1)) < t19.2.2.1)) = true →
    law3_DequeBuffers.j4 Q go15 s13 (true, ()) h21) ∧
    ((decide ((w64 (s13.1 + s13.2.1)) < t19.2.2.1)) = false →
    (((decide (t19.2.2.1 = s13.1)) = true →
    law3_DequeBuffers.j4 Q go15 s13 ((decide (t19.2.2.2.1 ≠ s13.2.1)), ()) h21) ∧
    ((decide (t19.2.2.1 = s13.1)) = false →
    law3_DequeBuffers.j4 Q go15 s13 (false, ()) h21))))))) ∧
    ((decide ((2 : Int) < t19.2.2.1)) = false →
    (((decide (t19.2.2.1 = s13.1)) = true →
    law3_DequeBuffers.j4 Q go15 s13 ((decide (t19.2.2.2.1 ≠ s13.2.1)), ()) h21) ∧
    ((decide (t19.2.2.1 = s13.1)) = false →
    law3_DequeBuffers.j4 Q go15 s13 (false, ()) h21))))))))) ∧
    ((decide (t19.2.1 = 1)) = false →
    law3_DequeBuffers.j1 go15 s13 (s13.1, s13.2.1, ()) h21))))))))
def law3_DequeBuffers.j6 (most2 : Int) (Q : Bool → Heap → Prop) (go15 : (Int × Den kapiTodo) → Heap → Prop) (s13 : (Int × Den kapiTodo)) (t19 : Den kapiAccess) (s28 : (Bool × Unit)) (h29 : Heap) : Prop :=
    ((s28.1 = true →
    Q false h29) ∧
    (s28.1 = false →
    law3_DequeBuffers.j5 most2 Q go15 s13 t19 () h29))
def law3_DequeBuffers.l7 (most2 : Int) (Q : Bool → Heap → Prop) (r9 : (Den kapiDequeRun × (Int × Unit))) (go15 : (Int × Den kapiTodo) → Heap → Prop) (s13 : (Int × Den kapiTodo)) (h14 : Heap) : Prop :=
    (((decide (s13.2.2.1 < (r9.1.2.2.1.len : Int))) = true →
    (0 ≤ s13.2.2.1 ∧ s13.2.2.1 < (r9.1.2.2.1.len : Int)) ∧
    deref r9.1.2.2.1.a fun a18 =>
    ld kapiAccess h14 (a18.add ((s13.2.2.1 : Int).toNat * 6)) fun t19 =>
    (((decide (t19.1 ≠ 0)) = true →
    (((decide (t19.2.1 ≠ 0)) = true →
    law3_DequeBuffers.j6 most2 Q go15 s13 t19 ((decide (t19.2.1 ≠ 2)), ()) h14) ∧
    ((decide (t19.2.1 ≠ 0)) = false →
    law3_DequeBuffers.j6 most2 Q go15 s13 t19 (false, ()) h14))) ∧
    ((decide (t19.1 ≠ 0)) = false →
    law3_DequeBuffers.j6 most2 Q go15 s13 t19 (false, ()) h14))) ∧
    ((decide (s13.2.2.1 < (r9.1.2.2.1.len : Int))) = false →
    Q true h14))
def law3_DequeBuffers.j8 (first1 : Int) (most2 : Int) (Q : Bool → Heap → Prop) (r9 : (Den kapiDequeRun × (Int × Unit))) (s11 : Unit) (h12 : Heap) : Prop :=
    Loop (law3_DequeBuffers.l7 most2 Q r9) (3, first1, 0, ()) h12
def law3_DequeBuffers.j9 (first1 : Int) (most2 : Int) (Q : Bool → Heap → Prop) (r9 : (Den kapiDequeRun × (Int × Unit))) (s30 : (Bool × Unit)) (h31 : Heap) : Prop :=
    ((s30.1 = true →
    Q false h31) ∧
    (s30.1 = false →
    law3_DequeBuffers.j8 first1 most2 Q r9 () h31))
def law3_DequeBuffers.M (c_law3_fair : Int → Int → Sl → Int → Sl → Heap → (Bool → Heap → Prop) → Prop) (c_deque_Play : Int → Int → Sl → Int → Sl → Heap → ((Den kapiDequeRun × (Int × Unit)) → Heap → Prop) → Prop) (c_law3_alive : Den kapiDequeRun → Sl → Int → Sl → Heap → (Bool → Heap → Prop) → Prop) (first1 : Int) (most2 : Int) (todos3 : Sl) (thieves4 : Int) (picks5 : Sl) (h6 : Heap) (Q : Bool → Heap → Prop) : Prop :=
    c_law3_fair first1 most2 todos3 thieves4 picks5 h6 fun r7 h8 =>
    (((!r7) = true →
    Q true h8) ∧
    ((!r7) = false →
    c_deque_Play first1 most2 todos3 thieves4 picks5 h8 fun r9 h10 =>
    (((decide (r9.2.1 ≠ 0)) = true →
    law3_DequeBuffers.j9 first1 most2 Q r9 (true, ()) h10) ∧
    ((decide (r9.2.1 ≠ 0)) = false →
    c_law3_alive (r9.1.1, (r9.1.2.1, (r9.1.2.2.1, ()))) todos3 thieves4 picks5 h10 fun r32 h33 =>
    law3_DequeBuffers.j9 first1 most2 Q r9 ((!r32), ()) h33))))
def law3_DequeBuffers.mk : Mk := (.s .d (.s (.s .d (.c (.s .d .d) .d)) (.s (.r [9]) (.j [] (.j [.slot 42 .bool] .d (.c (.s .d .d) .d)) (.s .d (.s .d (.s (.s .d (.b (.l [.slot 13 (.int .i64), .slot 14 (.int .i64), .slot 15 (.int .i64)] (.s (.s .d (.c .d .d)) (.j [.slot 13 (.int .i64), .slot 14 (.int .i64)] (.b (.s (.r [5]) (.j [] (.j [.slot 68 .bool] .d (.c (.s .d .d) .d)) (.s .d (.b (.s .d (.c (.s .d .d) (.s .d (.c (.s .d (.c (.s .d .d) .d)) (.s .d (.c (.j [] (.j [.slot 101 .bool] .d (.c (.s .d .d) .d)) (.s .d .d)) (.s .d (.c (.j [.slot 154 .bool] .d (.c (.s .d .d) .d)) .d))))))))))))) .d))))) (.s .d .d))))))))

def law4_HistDequeLost.j1 (go11 : (Int × Unit) → Heap → Prop) (s9 : (Int × Unit)) (s12 : Unit) (h13 : Heap) : Prop :=
    go11 ((w64 (s9.1 + 1)), ()) h13
def law4_HistDequeLost.j2 (go18 : (Bool × (Int × Unit)) → Heap → Prop) (s16 : (Bool × (Int × Unit))) (s19 : (Bool × Unit)) (h20 : Heap) : Prop :=
    go18 (s19.1, (w64 (s16.2.1 + 1)), ()) h20
def law4_HistDequeLost.l3 (c_law4_took : Den kapiCall → Int → Int → Heap → (Bool → Heap → Prop) → Prop) (Q : Bool → Heap → Prop) (r5 : (Den kapiDequeRun × (Bool × Unit))) (go11 : (Int × Unit) → Heap → Prop) (s9 : (Int × Unit)) (t15 : Den kapiCall) (go18 : (Bool × (Int × Unit)) → Heap → Prop) (s16 : (Bool × (Int × Unit))) (h17 : Heap) : Prop :=
    (((decide (s16.2.1 < (r5.1.1.len : Int))) = true →
    ((s16.1 = true →
    law4_HistDequeLost.j2 go18 s16 (true, ()) h17) ∧
    (s16.1 = false →
    (((decide (s16.2.1 ≠ s9.1)) = true →
    (0 ≤ s16.2.1 ∧ s16.2.1 < (r5.1.1.len : Int)) ∧
    deref r5.1.1.a fun a21 =>
    ld kapiCall h17 (a21.add ((s16.2.1 : Int).toNat * 7)) fun t22 =>
    c_law4_took t22 t15.2.2.2.1 t15.2.2.2.2.1 h17 fun r23 h24 =>
    law4_HistDequeLost.j2 go18 s16 (r23, ()) h24) ∧
    ((decide (s16.2.1 ≠ s9.1)) = false →
    law4_HistDequeLost.j2 go18 s16 (false, ()) h17))))) ∧
    ((decide (s16.2.1 < (r5.1.1.len : Int))) = false →
    (((!s16.1) = true →
    Q false h17) ∧
    ((!s16.1) = false →
    law4_HistDequeLost.j1 go11 s9 () h17))))
def law4_HistDequeLost.l4 (c_law4_took : Den kapiCall → Int → Int → Heap → (Bool → Heap → Prop) → Prop) (Q : Bool → Heap → Prop) (r5 : (Den kapiDequeRun × (Bool × Unit))) (go11 : (Int × Unit) → Heap → Prop) (s9 : (Int × Unit)) (h10 : Heap) : Prop :=
    (((decide (s9.1 < (r5.1.1.len : Int))) = true →
    (0 ≤ s9.1 ∧ s9.1 < (r5.1.1.len : Int)) ∧
    deref r5.1.1.a fun a14 =>
    ld kapiCall h10 (a14.add ((s9.1 : Int).toNat * 7)) fun t15 =>
    (((decide (t15.2.2.2.2.2.1 ≠ 6)) = true →
    law4_HistDequeLost.j1 go11 s9 () h10) ∧
    ((decide (t15.2.2.2.2.2.1 ≠ 6)) = false →
    Loop (law4_HistDequeLost.l3 c_law4_took Q r5 go11 s9 t15) (false, 0, ()) h10))) ∧
    ((decide (s9.1 < (r5.1.1.len : Int))) = false →
    Q true h10))
def law4_HistDequeLost.j5 (c_law4_took : Den kapiCall → Int → Int → Heap → (Bool → Heap → Prop) → Prop) (Q : Bool → Heap → Prop) (r5 : (Den kapiDequeRun × (Bool × Unit))) (s7 : Unit) (h8 : Heap) : Prop :=
    Loop (law4_HistDequeLost.l4 c_law4_took Q r5) (0, ()) h8
def law4_HistDequeLost.j6 (c_law4_took : Den kapiCall → Int → Int → Heap → (Bool → Heap → Prop) → Prop) (Q : Bool → Heap → Prop) (r5 : (Den kapiDequeRun × (Bool × Unit))) (s25 : (Bool × Unit)) (h26 : Heap) : Prop :=
    ((s25.1 = true →
    Q false h26) ∧
    (s25.1 = false →
    law4_HistDequeLost.j5 c_law4_took Q r5 () h26))
def law4_HistDequeLost.M (c_law4_Game_fit : Den klaw4Game → Int → Int → Heap → (Den klaw4Game → Heap → Prop) → Prop) (c_law4_Game_play : Den klaw4Game → Sl → Heap → ((Den kapiDequeRun × (Bool × Unit)) → Heap → Prop) → Prop) (c_law4_Game_begun : Den klaw4Game → Sl → Heap → (Bool → Heap → Prop) → Prop) (c_law4_took : Den kapiCall → Int → Int → Heap → (Bool → Heap → Prop) → Prop) (game1 : Den klaw4Game) (h2 : Heap) (Q : Bool → Heap → Prop) : Prop :=
    c_law4_Game_fit (game1.1, (game1.2.1, (game1.2.2.1, (game1.2.2.2.1, (game1.2.2.2.2.1, ()))))) 200 2000 h2 fun r3 h4 =>
    c_law4_Game_play (r3.1, (r3.2.1, (r3.2.2.1, (r3.2.2.2.1, (r3.2.2.2.2.1, ()))))) r3.2.2.2.2.1 h4 fun r5 h6 =>
    (((!r5.2.1) = true →
    law4_HistDequeLost.j6 c_law4_took Q r5 (true, ()) h6) ∧
    ((!r5.2.1) = false →
    c_law4_Game_begun (r3.1, (r3.2.1, (r3.2.2.1, (r3.2.2.2.1, (r3.2.2.2.2.1, ()))))) r5.1.1 h6 fun r27 h28 =>
    law4_HistDequeLost.j6 c_law4_took Q r5 ((!r27), ()) h28))
def law4_HistDequeLost.mk : Mk := (.s (.r [0]) (.s (.r [2]) (.s (.r [7]) (.j [] (.j [.slot 27 .bool] .d (.c (.s .d .d) .d)) (.s (.s .d (.b (.l [.slot 6 (.int .i64)] (.s (.s .d (.c .d .d)) (.j [] (.b (.s (.r [5]) (.s (.s .d (.c .d .d)) (.s .d (.s (.s .d (.b (.l [.slot 8 .bool, .slot 9 (.int .i64)] (.s (.s .d (.c .d .d)) (.j [.slot 8 .bool] (.b (.q [] [] [.p 0, .p 1, .p 2, .p 3, .p 4, .p 5, .p 6, .p 8, .p 11, .p 13, .w 7 [7, 9, 10, 15, 16, 17, 18], .p 9, .w 10 [10, 15, 16, 17, 18], .w 12 [12, 15, 16, 17, 18], .w 14 [14, 15, 16, 17, 18], .o 15, .p 16, .p 17, .p 18])) .d))))) (.s .d (.c (.s .d .d) .d))))))) .d))))) (.s .d .d))))))

def law4_HistDequePrefix.j1 (c_hist_Cut : Sl → Int → Heap → (Sl → Heap → Prop) → Prop) (c_law4_same : Sl → Sl → Heap → (Bool → Heap → Prop) → Prop) (Q : Bool → Heap → Prop) (r6 : Int) (r8 : (Den kapiDequeRun × (Bool × Unit))) (r10 : (Den kapiDequeRun × (Bool × Unit))) (s12 : Unit) (h13 : Heap) : Prop :=
    c_hist_Cut r8.1.1 r6 h13 fun r14 h15 =>
    c_law4_same r10.1.1 r14 h15 fun r16 h17 =>
    Q r16 h17
def law4_HistDequePrefix.j2 (c_hist_Cut : Sl → Int → Heap → (Sl → Heap → Prop) → Prop) (c_law4_same : Sl → Sl → Heap → (Bool → Heap → Prop) → Prop) (Q : Bool → Heap → Prop) (r6 : Int) (r8 : (Den kapiDequeRun × (Bool × Unit))) (r10 : (Den kapiDequeRun × (Bool × Unit))) (s18 : (Bool × Unit)) (h19 : Heap) : Prop :=
    ((s18.1 = true →
    Q false h19) ∧
    (s18.1 = false →
    law4_HistDequePrefix.j1 c_hist_Cut c_law4_same Q r6 r8 r10 () h19))
def law4_HistDequePrefix.M (c_law4_Game_fit : Den klaw4Game → Int → Int → Heap → (Den klaw4Game → Heap → Prop) → Prop) (c_law4_mod : Int → Int → Heap → (Int → Heap → Prop) → Prop) (c_law4_Game_play : Den klaw4Game → Sl → Heap → ((Den kapiDequeRun × (Bool × Unit)) → Heap → Prop) → Prop) (c_law4_Game_begun : Den klaw4Game → Sl → Heap → (Bool → Heap → Prop) → Prop) (c_hist_Cut : Sl → Int → Heap → (Sl → Heap → Prop) → Prop) (c_law4_same : Sl → Sl → Heap → (Bool → Heap → Prop) → Prop) (game1 : Den klaw4Game) (at_2 : Int) (h3 : Heap) (Q : Bool → Heap → Prop) : Prop :=
    c_law4_Game_fit (game1.1, (game1.2.1, (game1.2.2.1, (game1.2.2.2.1, (game1.2.2.2.2.1, ()))))) 200 2000 h3 fun r4 h5 =>
    c_law4_mod at_2 (w64 ((r4.2.2.2.2.1.len : Int) + 1)) h5 fun r6 h7 =>
    c_law4_Game_play (r4.1, (r4.2.1, (r4.2.2.1, (r4.2.2.2.1, (r4.2.2.2.2.1, ()))))) r4.2.2.2.2.1 h7 fun r8 h9 =>
    (0 ≤ r6 ∧ r6 ≤ (r4.2.2.2.2.1.cap : Int)) ∧
    c_law4_Game_play (r4.1, (r4.2.1, (r4.2.2.1, (r4.2.2.2.1, (r4.2.2.2.2.1, ()))))) (r4.2.2.2.2.1.cut 0 ((r6 : Int).toNat) 1) h9 fun r10 h11 =>
    (((!r8.2.1) = true →
    law4_HistDequePrefix.j2 c_hist_Cut c_law4_same Q r6 r8 r10 (true, ()) h11) ∧
    ((!r8.2.1) = false →
    (((!r10.2.1) = true →
    law4_HistDequePrefix.j2 c_hist_Cut c_law4_same Q r6 r8 r10 (true, ()) h11) ∧
    ((!r10.2.1) = false →
    c_law4_Game_begun (r4.1, (r4.2.1, (r4.2.2.1, (r4.2.2.2.1, (r4.2.2.2.2.1, ()))))) r8.1.1 h11 fun r20 h21 =>
    law4_HistDequePrefix.j2 c_hist_Cut c_law4_same Q r6 r8 r10 ((!r20), ()) h21))))
def law4_HistDequePrefix.mk : Mk := (.s (.r [0]) (.s (.r [2]) (.s .d (.s (.r [7]) (.s (.q [9] [9] [.p 1, .p 3, .w 0 [0, 5, 6, 7, 8, 10, 11], .w 2 [2, 4, 5, 6, 7, 8, 10, 11], .p 4, .o 5, .p 6, .p 7, .p 8, .a 9, .o 10, .p 11]) (.j [] (.j [.slot 47 .bool] .d (.c (.s .d .d) .d)) (.s (.q [] [] [.p 0, .p 2, .p 4, .w 1 [1, 6, 7], .w 3 [3, 5, 6, 7], .o 5, .o 6, .p 7]) .d)))))))

def law4_HistDequeAlone.j1 (go15 : (Int × Unit) → Heap → Prop) (s13 : (Int × Unit)) (s16 : Unit) (h17 : Heap) : Prop :=
    go15 ((w64 (s13.1 + 1)), ()) h17
def law4_HistDequeAlone.j2 (Q : Bool → Heap → Prop) (go15 : (Int × Unit) → Heap → Prop) (s13 : (Int × Unit)) (s22 : (Bool × Unit)) (h23 : Heap) : Prop :=
    ((s22.1 = true →
    Q false h23) ∧
    (s22.1 = false →
    law4_HistDequeAlone.j1 go15 s13 () h23))
def law4_HistDequeAlone.l3 (c_law4_sameInts : Sl → Sl → Heap → (Bool → Heap → Prop) → Prop) (Q : Bool → Heap → Prop) (r7 : (Den kapiDequeRun × (Int × Unit))) (r9 : (Sl × (Sl × (Int × Unit)))) (go15 : (Int × Unit) → Heap → Prop) (s13 : (Int × Unit)) (h14 : Heap) : Prop :=
    (((decide (s13.1 < (r9.1.len : Int))) = true →
    (0 ≤ s13.1 ∧ s13.1 < (r7.1.1.len : Int)) ∧
    deref r7.1.1.a fun a18 =>
    ld kapiCall h14 (a18.add ((s13.1 : Int).toNat * 7)) fun t19 =>
    (0 ≤ s13.1 ∧ s13.1 < (r9.1.len : Int)) ∧
    deref r9.1.a fun a20 =>
    ld kapiCall h14 (a20.add ((s13.1 : Int).toNat * 7)) fun t21 =>
    (((decide (t19.1 ≠ t21.1)) = true →
    law4_HistDequeAlone.j2 Q go15 s13 (true, ()) h14) ∧
    ((decide (t19.1 ≠ t21.1)) = false →
    (((decide (t19.2.1 ≠ t21.2.1)) = true →
    law4_HistDequeAlone.j2 Q go15 s13 (true, ()) h14) ∧
    ((decide (t19.2.1 ≠ t21.2.1)) = false →
    (((decide (t19.2.2.1 ≠ t21.2.2.1)) = true →
    law4_HistDequeAlone.j2 Q go15 s13 (true, ()) h14) ∧
    ((decide (t19.2.2.1 ≠ t21.2.2.1)) = false →
    (((decide (t19.2.2.2.2.2.1 ≠ t21.2.2.2.2.2.1)) = true →
    law4_HistDequeAlone.j2 Q go15 s13 (true, ()) h14) ∧
    ((decide (t19.2.2.2.2.2.1 ≠ t21.2.2.2.2.2.1)) = false →
    (((decide (t19.2.2.2.2.2.2.1 ≠ t21.2.2.2.2.2.2.1)) = true →
    law4_HistDequeAlone.j2 Q go15 s13 (true, ()) h14) ∧
    ((decide (t19.2.2.2.2.2.2.1 ≠ t21.2.2.2.2.2.2.1)) = false →
    law4_HistDequeAlone.j2 Q go15 s13 ((decide (t19.2.2.2.2.1 < 0)), ()) h14))))))))))) ∧
    ((decide (s13.1 < (r9.1.len : Int))) = false →
    c_law4_sameInts r7.1.2.1 r9.2.1 h14 fun r24 h25 =>
    Q r24 h25))
def law4_HistDequeAlone.j4 (c_law4_sameInts : Sl → Sl → Heap → (Bool → Heap → Prop) → Prop) (Q : Bool → Heap → Prop) (r7 : (Den kapiDequeRun × (Int × Unit))) (r9 : (Sl × (Sl × (Int × Unit)))) (s11 : Unit) (h12 : Heap) : Prop :=
    Loop (law4_HistDequeAlone.l3 c_law4_sameInts Q r7 r9) (0, ()) h12
def law4_HistDequeAlone.j5 (c_law4_sameInts : Sl → Sl → Heap → (Bool → Heap → Prop) → Prop) (Q : Bool → Heap → Prop) (r7 : (Den kapiDequeRun × (Int × Unit))) (r9 : (Sl × (Sl × (Int × Unit)))) (s26 : (Bool × Unit)) (h27 : Heap) : Prop :=
    ((s26.1 = true →
    Q false h27) ∧
    (s26.1 = false →
    law4_HistDequeAlone.j4 c_law4_sameInts Q r7 r9 () h27))
def law4_HistDequeAlone.M (c_law4_Game_fit : Den klaw4Game → Int → Int → Heap → (Den klaw4Game → Heap → Prop) → Prop) (c_deque_Play : Int → Int → Sl → Int → Sl → Heap → ((Den kapiDequeRun × (Int × Unit)) → Heap → Prop) → Prop) (c_hist_Serial : Sl → Int → Heap → ((Sl × (Sl × (Int × Unit))) → Heap → Prop) → Prop) (c_law4_sameInts : Sl → Sl → Heap → (Bool → Heap → Prop) → Prop) (game1 : Den klaw4Game) (h2 : Heap) (Q : Bool → Heap → Prop) : Prop :=
    c_law4_Game_fit (game1.1, (game1.2.1, (game1.2.2.1, (game1.2.2.2.1, (game1.2.2.2.2.1, ()))))) 40 0 h2 fun r3 h4 =>
    makeM ((.int .i64) : Kd) 8 h4 (w64 (15 * (r3.2.2.1.len : Int))) (w64 (15 * (r3.2.2.1.len : Int))) fun s5 h6 =>
    c_deque_Play r3.1 r3.2.1 r3.2.2.1 0 s5 h6 fun r7 h8 =>
    c_hist_Serial r3.2.2.1 r3.2.1 h8 fun r9 h10 =>
    (((decide (r7.2.1 ≠ 0)) = true →
    law4_HistDequeAlone.j5 c_law4_sameInts Q r7 r9 (true, ()) h10) ∧
    ((decide (r7.2.1 ≠ 0)) = false →
    (((decide (r9.2.2.1 ≠ 0)) = true →
    law4_HistDequeAlone.j5 c_law4_sameInts Q r7 r9 (true, ()) h10) ∧
    ((decide (r9.2.2.1 ≠ 0)) = false →
    (((decide ((r9.1.len : Int) ≠ (r3.2.2.1.len : Int))) = true →
    law4_HistDequeAlone.j5 c_law4_sameInts Q r7 r9 (true, ()) h10) ∧
    ((decide ((r9.1.len : Int) ≠ (r3.2.2.1.len : Int))) = false →
    law4_HistDequeAlone.j5 c_law4_sameInts Q r7 r9 ((decide ((r7.1.1.len : Int) ≠ (r9.1.len : Int))), ()) h10))))))
def law4_HistDequeAlone.mk : Mk := (.s (.r [0]) (.s (.r [2]) (.s (.q [15] [4] [.p 0, .p 2, .p 4, .p 6, .w 1 [1, 11, 12, 13, 14, 16, 17], .w 3 [3, 11, 12, 13, 14, 16, 17], .w 5 [5, 11, 12, 13, 14, 16, 17], .w 7 [7, 8, 9, 10, 11, 12, 13, 14, 16, 17], .p 8, .p 9, .o 10, .o 11, .p 12, .p 13, .p 14, .a 15, .o 16, .p 17]) (.s .d (.j [] (.j [.slot 59 .bool] .d (.c (.s .d .d) .d)) (.s (.s .d (.b (.l [.slot 9 (.int .i64)] (.s (.s .d (.c .d .d)) (.j [] (.b (.s (.r [5]) (.s (.r [4]) (.j [.slot 112 .bool] .d (.c (.s .d .d) .d))))) .d))))) (.s .d .d)))))))

def law4_HistDequeLinear.j1 (c_hist_Order : Sl → Int → Heap → ((Sl × (Int × Unit)) → Heap → Prop) → Prop) (c_ref4_Legal : Sl → Int → Sl → Heap → (Bool → Heap → Prop) → Prop) (Q : Bool → Heap → Prop) (r3 : Den klaw4Game) (r5 : (Den kapiDequeRun × (Bool × Unit))) (s7 : Unit) (h8 : Heap) : Prop :=
    c_hist_Order r5.1.1 r3.2.1 h8 fun r9 h10 =>
    (((decide (r9.2.1 = 0)) = true →
    c_ref4_Legal r5.1.1 r3.2.1 r9.1 h10 fun r11 h12 =>
    Q r11 h12) ∧
    ((decide (r9.2.1 = 0)) = false →
    Q false h10))
def law4_HistDequeLinear.j2 (c_hist_Order : Sl → Int → Heap → ((Sl × (Int × Unit)) → Heap → Prop) → Prop) (c_ref4_Legal : Sl → Int → Sl → Heap → (Bool → Heap → Prop) → Prop) (Q : Bool → Heap → Prop) (r3 : Den klaw4Game) (r5 : (Den kapiDequeRun × (Bool × Unit))) (s13 : (Bool × Unit)) (h14 : Heap) : Prop :=
    ((s13.1 = true →
    Q false h14) ∧
    (s13.1 = false →
    law4_HistDequeLinear.j1 c_hist_Order c_ref4_Legal Q r3 r5 () h14))
def law4_HistDequeLinear.M (c_law4_Game_fit : Den klaw4Game → Int → Int → Heap → (Den klaw4Game → Heap → Prop) → Prop) (c_law4_Game_play : Den klaw4Game → Sl → Heap → ((Den kapiDequeRun × (Bool × Unit)) → Heap → Prop) → Prop) (c_law4_Game_begun : Den klaw4Game → Sl → Heap → (Bool → Heap → Prop) → Prop) (c_hist_Order : Sl → Int → Heap → ((Sl × (Int × Unit)) → Heap → Prop) → Prop) (c_ref4_Legal : Sl → Int → Sl → Heap → (Bool → Heap → Prop) → Prop) (game1 : Den klaw4Game) (h2 : Heap) (Q : Bool → Heap → Prop) : Prop :=
    c_law4_Game_fit (game1.1, (game1.2.1, (game1.2.2.1, (game1.2.2.2.1, (game1.2.2.2.2.1, ()))))) 40 76 h2 fun r3 h4 =>
    c_law4_Game_play (r3.1, (r3.2.1, (r3.2.2.1, (r3.2.2.2.1, (r3.2.2.2.2.1, ()))))) r3.2.2.2.2.1 h4 fun r5 h6 =>
    (((!r5.2.1) = true →
    law4_HistDequeLinear.j2 c_hist_Order c_ref4_Legal Q r3 r5 (true, ()) h6) ∧
    ((!r5.2.1) = false →
    c_law4_Game_begun (r3.1, (r3.2.1, (r3.2.2.1, (r3.2.2.2.1, (r3.2.2.2.2.1, ()))))) r5.1.1 h6 fun r15 h16 =>
    law4_HistDequeLinear.j2 c_hist_Order c_ref4_Legal Q r3 r5 ((!r15), ()) h16))
def law4_HistDequeLinear.mk : Mk := (.s (.r [0]) (.s (.r [2]) (.s (.r [7]) (.j [] (.j [.slot 25 .bool] .d (.c (.s .d .d) .d)) (.s .d (.s .d .d))))))

def law4_HistDequeRest.l1 (c_hist_Order : Sl → Int → Heap → ((Sl × (Int × Unit)) → Heap → Prop) → Prop) (c_ref4_Replay : Sl → Int → Sl → Heap → ((Sl × (Bool × Unit)) → Heap → Prop) → Prop) (c_law4_sameInts : Sl → Sl → Heap → (Bool → Heap → Prop) → Prop) (Q : Bool → Heap → Prop) (r3 : Den klaw4Game) (r5 : (Den kapiDequeRun × (Bool × Unit))) (go11 : (Int × Unit) → Heap → Prop) (s9 : (Int × Unit)) (h10 : Heap) : Prop :=
    (((decide (s9.1 < (r5.1.1.len : Int))) = true →
    (0 ≤ s9.1 ∧ s9.1 < (r5.1.1.len : Int)) ∧
    deref r5.1.1.a fun a12 =>
    ld ((.int .i64) : Kd) h10 ((a12.add ((s9.1 : Int).toNat * 7)).add 4) fun t13 =>
    (((decide (t13 < 0)) = true →
    Q true h10) ∧
    ((decide (t13 < 0)) = false →
    go11 ((w64 (s9.1 + 1)), ()) h10))) ∧
    ((decide (s9.1 < (r5.1.1.len : Int))) = false →
    c_hist_Order r5.1.1 r3.2.1 h10 fun r14 h15 =>
    (((decide (r14.2.1 ≠ 0)) = true →
    Q false h15) ∧
    ((decide (r14.2.1 ≠ 0)) = false →
    c_ref4_Replay r5.1.1 r3.2.1 r14.1 h15 fun r16 h17 =>
    ((r16.2.1 = true →
    c_law4_sameInts r16.1 r5.1.2.1 h17 fun r18 h19 =>
    Q r18 h19) ∧
    (r16.2.1 = false →
    Q false h17))))))
def law4_HistDequeRest.j2 (c_hist_Order : Sl → Int → Heap → ((Sl × (Int × Unit)) → Heap → Prop) → Prop) (c_ref4_Replay : Sl → Int → Sl → Heap → ((Sl × (Bool × Unit)) → Heap → Prop) → Prop) (c_law4_sameInts : Sl → Sl → Heap → (Bool → Heap → Prop) → Prop) (Q : Bool → Heap → Prop) (r3 : Den klaw4Game) (r5 : (Den kapiDequeRun × (Bool × Unit))) (s7 : Unit) (h8 : Heap) : Prop :=
    Loop (law4_HistDequeRest.l1 c_hist_Order c_ref4_Replay c_law4_sameInts Q r3 r5) (0, ()) h8
def law4_HistDequeRest.j3 (c_hist_Order : Sl → Int → Heap → ((Sl × (Int × Unit)) → Heap → Prop) → Prop) (c_ref4_Replay : Sl → Int → Sl → Heap → ((Sl × (Bool × Unit)) → Heap → Prop) → Prop) (c_law4_sameInts : Sl → Sl → Heap → (Bool → Heap → Prop) → Prop) (Q : Bool → Heap → Prop) (r3 : Den klaw4Game) (r5 : (Den kapiDequeRun × (Bool × Unit))) (s20 : (Bool × Unit)) (h21 : Heap) : Prop :=
    ((s20.1 = true →
    Q false h21) ∧
    (s20.1 = false →
    law4_HistDequeRest.j2 c_hist_Order c_ref4_Replay c_law4_sameInts Q r3 r5 () h21))
def law4_HistDequeRest.M (c_law4_Game_fit : Den klaw4Game → Int → Int → Heap → (Den klaw4Game → Heap → Prop) → Prop) (c_law4_Game_play : Den klaw4Game → Sl → Heap → ((Den kapiDequeRun × (Bool × Unit)) → Heap → Prop) → Prop) (c_law4_Game_begun : Den klaw4Game → Sl → Heap → (Bool → Heap → Prop) → Prop) (c_hist_Order : Sl → Int → Heap → ((Sl × (Int × Unit)) → Heap → Prop) → Prop) (c_ref4_Replay : Sl → Int → Sl → Heap → ((Sl × (Bool × Unit)) → Heap → Prop) → Prop) (c_law4_sameInts : Sl → Sl → Heap → (Bool → Heap → Prop) → Prop) (game1 : Den klaw4Game) (h2 : Heap) (Q : Bool → Heap → Prop) : Prop :=
    c_law4_Game_fit (game1.1, (game1.2.1, (game1.2.2.1, (game1.2.2.2.1, (game1.2.2.2.2.1, ()))))) 40 76 h2 fun r3 h4 =>
    c_law4_Game_play (r3.1, (r3.2.1, (r3.2.2.1, (r3.2.2.2.1, (r3.2.2.2.2.1, ()))))) r3.2.2.2.2.1 h4 fun r5 h6 =>
    (((!r5.2.1) = true →
    law4_HistDequeRest.j3 c_hist_Order c_ref4_Replay c_law4_sameInts Q r3 r5 (true, ()) h6) ∧
    ((!r5.2.1) = false →
    c_law4_Game_begun (r3.1, (r3.2.1, (r3.2.2.1, (r3.2.2.2.1, (r3.2.2.2.2.1, ()))))) r5.1.1 h6 fun r22 h23 =>
    law4_HistDequeRest.j3 c_hist_Order c_ref4_Replay c_law4_sameInts Q r3 r5 ((!r22), ()) h23))
def law4_HistDequeRest.mk : Mk := (.s (.r [0]) (.s (.r [2]) (.s (.r [7]) (.j [] (.j [.slot 28 .bool] .d (.c (.s .d .d) .d)) (.s (.s .d (.b (.l [.slot 6 (.int .i64)] (.s (.s .d (.c .d .d)) (.s (.b (.s .d (.c (.s .d .d) .d))) .d))))) (.s .d (.s (.s .d (.c (.s .d .d) .d)) (.s .d (.s .d .d)))))))))

def law3_fair.j1 (go11 : (Int × Unit) → Heap → Prop) (s9 : (Int × Unit)) (s12 : Unit) (h13 : Heap) : Prop :=
    go11 ((w64 (s9.1 + 1)), ()) h13
def law3_fair.j2 (Q : Bool → Heap → Prop) (go11 : (Int × Unit) → Heap → Prop) (s9 : (Int × Unit)) (s14 : (Bool × Unit)) (h15 : Heap) : Prop :=
    ((s14.1 = true →
    Q false h15) ∧
    (s14.1 = false →
    law3_fair.j1 go11 s9 () h15))
def law3_fair.l3 (todos3 : Sl) (Q : Bool → Heap → Prop) (go11 : (Int × Unit) → Heap → Prop) (s9 : (Int × Unit)) (h10 : Heap) : Prop :=
    (((decide (s9.1 < (todos3.len : Int))) = true →
    (0 ≤ s9.1 ∧ s9.1 < (todos3.len : Int)) ∧
    deref todos3.a fun a16 =>
    ld ((.int .i64) : Kd) h10 ((a16.add ((s9.1 : Int).toNat * 2)).add 0) fun t17 =>
    (((decide (t17 ≠ 0)) = true →
    (0 ≤ s9.1 ∧ s9.1 < (todos3.len : Int)) ∧
    deref todos3.a fun a18 =>
    ld ((.int .i64) : Kd) h10 ((a18.add ((s9.1 : Int).toNat * 2)).add 0) fun t19 =>
    law3_fair.j2 Q go11 s9 ((decide (t19 ≠ 1)), ()) h10) ∧
    ((decide (t17 ≠ 0)) = false →
    law3_fair.j2 Q go11 s9 (false, ()) h10))) ∧
    ((decide (s9.1 < (todos3.len : Int))) = false →
    Q true h10))
def law3_fair.j4 (todos3 : Sl) (Q : Bool → Heap → Prop) (s7 : Unit) (h8 : Heap) : Prop :=
    Loop (law3_fair.l3 todos3 Q) (0, ()) h8
def law3_fair.j5 (todos3 : Sl) (Q : Bool → Heap → Prop) (s20 : (Bool × Unit)) (h21 : Heap) : Prop :=
    ((s20.1 = true →
    Q false h21) ∧
    (s20.1 = false →
    law3_fair.j4 todos3 Q () h21))
def law3_fair.M (c_law3_capsOK : Int → Int → Heap → (Bool → Heap → Prop) → Prop) (first1 : Int) (most2 : Int) (todos3 : Sl) (thieves4 : Int) (picks5 : Sl) (h6 : Heap) (Q : Bool → Heap → Prop) : Prop :=
    c_law3_capsOK first1 most2 h6 fun r22 h23 =>
    (((!r22) = true →
    law3_fair.j5 todos3 Q (true, ()) h23) ∧
    ((!r22) = false →
    (((decide (thieves4 < 0)) = true →
    law3_fair.j5 todos3 Q (true, ()) h23) ∧
    ((decide (thieves4 < 0)) = false →
    (((decide ((3 : Int) < thieves4)) = true →
    law3_fair.j5 todos3 Q (true, ()) h23) ∧
    ((decide ((3 : Int) < thieves4)) = false →
    (((decide ((4096 : Int) < (todos3.len : Int))) = true →
    law3_fair.j5 todos3 Q (true, ()) h23) ∧
    ((decide ((4096 : Int) < (todos3.len : Int))) = false →
    law3_fair.j5 todos3 Q ((decide ((1048576 : Int) < (picks5.len : Int))), ()) h23))))))))
def law3_fair.mk : Mk := (.s .d (.j [] (.j [.slot 33 .bool] .d (.c (.s .d .d) .d)) (.s (.s .d (.b (.l [.slot 11 (.int .i64)] (.s (.s .d (.c .d .d)) (.j [] (.b (.j [.slot 53 .bool] .d (.c (.s .d .d) .d))) .d))))) (.s .d .d))))

def deque_Play.l1 (c_ops_Mod : Int → Int → Heap → (Int → Heap → Prop) → Prop) (c_deque_game_step : Option Addr → Int → Int → Heap → (Unit → Heap → Prop) → Prop) (c_deque_game_rest : Option Addr → Heap → (Sl → Heap → Prop) → Prop) (c_cells_Arena_Log : Option Addr → Heap → (Sl → Heap → Prop) → Prop) (thieves4 : Int) (picks5 : Sl) (Q : (Den kapiDequeRun × (Int × Unit)) → Heap → Prop) (r11 : (Option Addr × (Int × Unit))) (p19 : Addr) (go30 : (Int × Unit) → Heap → Prop) (s28 : (Int × Unit)) (h29 : Heap) : Prop :=
    (((decide (s28.1 < (picks5.len : Int))) = true →
    (0 ≤ s28.1 ∧ s28.1 < (picks5.len : Int)) ∧
    deref picks5.a fun a31 =>
    ld ((.int .i64) : Kd) h29 (a31.add ((s28.1 : Int).toNat * 1)) fun t32 =>
    c_ops_Mod t32 (w64 (1 + thieves4)) h29 fun r33 h34 =>
    c_deque_game_step (some p19) s28.1 r33 h34 fun r35 h36 =>
    go30 ((w64 (s28.1 + 1)), ()) h36) ∧
    ((decide (s28.1 < (picks5.len : Int))) = false →
    ld (.sl : Kd) h29 (p19.add 5) fun t37 =>
    c_deque_game_rest (some p19) h29 fun r38 h39 =>
    sees h39 (some (p19.add 5)) (.sl : Kd) t37 ∧
    c_cells_Arena_Log r11.1 h39 fun r40 h41 =>
    sees h41 (some (p19.add 5)) (.sl : Kd) t37 ∧
    Q ((t37, (r38, (r40, ()))), 0, ()) h41))
def deque_Play.l2 (c_ops_Mod : Int → Int → Heap → (Int → Heap → Prop) → Prop) (c_deque_game_step : Option Addr → Int → Int → Heap → (Unit → Heap → Prop) → Prop) (c_deque_game_rest : Option Addr → Heap → (Sl → Heap → Prop) → Prop) (c_cells_Arena_Log : Option Addr → Heap → (Sl → Heap → Prop) → Prop) (thieves4 : Int) (picks5 : Sl) (Q : (Den kapiDequeRun × (Int × Unit)) → Heap → Prop) (r11 : (Option Addr × (Int × Unit))) (p19 : Addr) (t21 : Sl) (go24 : (Int × Unit) → Heap → Prop) (s22 : (Int × Unit)) (h23 : Heap) : Prop :=
    (((decide (s22.1 < (t21.len : Int))) = true →
    ld (.sl : Kd) h23 (p19.add 4) fun t25 =>
    (0 ≤ s22.1 ∧ s22.1 < (t25.len : Int)) ∧
    deref t25.a fun a26 =>
    st ((.int .i64) : Kd) h23 ((a26.add ((s22.1 : Int).toNat * 17)).add 16) (-1) fun h27 =>
    go24 ((w64 (s22.1 + 1)), ()) h27) ∧
    ((decide (s22.1 < (t21.len : Int))) = false →
    Loop (deque_Play.l1 c_ops_Mod c_deque_game_step c_deque_game_rest c_cells_Arena_Log thieves4 picks5 Q r11 p19) (0, ()) h23))
def deque_Play.M (c_deque_judged : Int → Int → Sl → Int → Sl → Heap → (Int → Heap → Prop) → Prop) (c_deque_Cells : Int → Int → Heap → (Int → Heap → Prop) → Prop) (c_cells_New : Int → Heap → ((Option Addr × (Int × Unit)) → Heap → Prop) → Prop) (c_deque_New : Value → Int → Int → Heap → ((Den kapiTodo × (Int × Unit)) → Heap → Prop) → Prop) (c_cells_Arena_Watch : Option Addr → Bool → Heap → (Unit → Heap → Prop) → Prop) (c_ops_Mod : Int → Int → Heap → (Int → Heap → Prop) → Prop) (c_deque_game_step : Option Addr → Int → Int → Heap → (Unit → Heap → Prop) → Prop) (c_deque_game_rest : Option Addr → Heap → (Sl → Heap → Prop) → Prop) (c_cells_Arena_Log : Option Addr → Heap → (Sl → Heap → Prop) → Prop) (low1 : Int) (most2 : Int) (todos3 : Sl) (thieves4 : Int) (picks5 : Sl) (h6 : Heap) (Q : (Den kapiDequeRun × (Int × Unit)) → Heap → Prop) : Prop :=
    c_deque_judged low1 most2 todos3 thieves4 picks5 h6 fun r7 h8 =>
    (((decide (r7 ≠ 0)) = true →
    Q ((Sl.none, (Sl.none, (Sl.none, ()))), r7, ()) h8) ∧
    ((decide (r7 ≠ 0)) = false →
    c_deque_Cells low1 most2 h8 fun r9 h10 =>
    c_cells_New r9 h10 fun r11 h12 =>
    (((decide (r11.2.1 ≠ 0)) = true →
    Q ((Sl.none, (Sl.none, (Sl.none, ()))), r11.2.1, ()) h12) ∧
    ((decide (r11.2.1 ≠ 0)) = false →
    c_deque_New (Value.iface 62 (Kd.val (.ptr : Kd) r11.1)) low1 most2 h12 fun r13 h14 =>
    (((decide (r13.2.1 ≠ 0)) = true →
    Q ((Sl.none, (Sl.none, (Sl.none, ()))), r13.2.1, ()) h14) ∧
    ((decide (r13.2.1 ≠ 0)) = false →
    c_cells_Arena_Watch r11.1 true h14 fun r15 h16 =>
    makeM kdequeactor 136 h16 (w64 (1 + thieves4)) (w64 (1 + thieves4)) fun s17 h18 =>
    new h18 (kdequegame.cells (r11.1, ((r13.1.1, (r13.1.2.1, ())), (todos3, (s17, (Sl.none, ())))))) fun p19 h20 =>
    ld (.sl : Kd) h20 (p19.add 4) fun t21 =>
    Loop (deque_Play.l2 c_ops_Mod c_deque_game_step c_deque_game_rest c_cells_Arena_Log thieves4 picks5 Q r11 p19 t21) (0, ()) h20))))))
def deque_Play.mk : Mk := (.s (.r [0]) (.s (.s .d (.s .d (.c (.s .d .d) .d))) (.s .d (.s (.s .d (.c (.s .d .d) .d)) (.s (.r [8]) (.s (.s .d (.c (.s .d .d) .d)) (.s .d (.s (.q [] [] [.p 0, .p 2, .p 3, .p 4, .w 1 [1, 6, 7, 8], .o 5, .p 6, .o 7, .p 8]) (.s (.s .d (.b (.l [.slot 68 (.int .i64)] (.s .d (.s (.c .d .d) (.s (.b (.s .d .d)) .d)))))) (.s (.s .d (.b (.l [.slot 81 (.int .i64)] (.s .d (.s (.c .d .d) (.s (.b (.s .d .d)) .d)))))) (.s (.q [] [10] [.p 0, .p 1, .p 2, .p 4, .p 6, .w 3 [3, 8, 9, 10], .o 5, .o 7, .p 8, .o 9, .p 10]) .d)))))))))))

def law3_alive.j1 (go11 : (Int × (((Fin 4 → Int) × Unit) × (((Fin 4 → Int) × Unit) × Unit))) → Heap → Prop) (s9 : (Int × (((Fin 4 → Int) × Unit) × (((Fin 4 → Int) × Unit) × Unit)))) (s12 : (((Fin 4 → Int) × Unit) × (((Fin 4 → Int) × Unit) × Unit))) (h13 : Heap) : Prop :=
    go11 ((w64 (s9.1 + 1)), (s12.1.1, ()), (s12.2.1.1, ()), ()) h13
def law3_alive.j2 (Q : Bool → Heap → Prop) (go11 : (Int × (((Fin 4 → Int) × Unit) × (((Fin 4 → Int) × Unit) × Unit))) → Heap → Prop) (s9 : (Int × (((Fin 4 → Int) × Unit) × (((Fin 4 → Int) × Unit) × Unit)))) (t15 : Den kapiCall) (s22 : (((Fin 4 → Int) × Unit) × Unit)) (s28 : (Bool × Unit)) (h29 : Heap) : Prop :=
    ((s28.1 = true →
    Q false h29) ∧
    (s28.1 = false →
    law3_alive.j1 go11 s9 (((aset (n := 4) (a := ((.int .i64) : Kd)) s9.2.1.1 (t15.1 : Int).toNat (w64 ((aget (n := 4) (a := ((.int .i64) : Kd)) s9.2.1.1 (t15.1 : Int).toNat) + 1))), ()), (s22.1.1, ()), ()) h29))
def law3_alive.j3 (Q : Bool → Heap → Prop) (go11 : (Int × (((Fin 4 → Int) × Unit) × (((Fin 4 → Int) × Unit) × Unit))) → Heap → Prop) (s9 : (Int × (((Fin 4 → Int) × Unit) × (((Fin 4 → Int) × Unit) × Unit)))) (t15 : Den kapiCall) (s22 : (((Fin 4 → Int) × Unit) × Unit)) (s26 : Unit) (h27 : Heap) : Prop :=
    (((decide (t15.1 = 0)) = true →
    (((decide ((aget (n := 4) (a := ((.int .i64) : Kd)) s9.2.1.1 (t15.1 : Int).toNat) = 0)) = true →
    (((decide (t15.2.1 = 0)) = true →
    (((decide ((0 : Int) ≤ t15.2.2.2.2.1)) = true →
    law3_alive.j2 Q go11 s9 t15 s22 ((decide (t15.2.2.2.2.2.1 ≠ 2)), ()) h27) ∧
    ((decide ((0 : Int) ≤ t15.2.2.2.2.1)) = false →
    law3_alive.j2 Q go11 s9 t15 s22 (false, ()) h27))) ∧
    ((decide (t15.2.1 = 0)) = false →
    law3_alive.j2 Q go11 s9 t15 s22 (false, ()) h27))) ∧
    ((decide ((aget (n := 4) (a := ((.int .i64) : Kd)) s9.2.1.1 (t15.1 : Int).toNat) = 0)) = false →
    law3_alive.j2 Q go11 s9 t15 s22 (false, ()) h27))) ∧
    ((decide (t15.1 = 0)) = false →
    law3_alive.j2 Q go11 s9 t15 s22 (false, ()) h27))
def law3_alive.j4 (Q : Bool → Heap → Prop) (go11 : (Int × (((Fin 4 → Int) × Unit) × (((Fin 4 → Int) × Unit) × Unit))) → Heap → Prop) (s9 : (Int × (((Fin 4 → Int) × Unit) × (((Fin 4 → Int) × Unit) × Unit)))) (t15 : Den kapiCall) (s22 : (((Fin 4 → Int) × Unit) × Unit)) (s30 : (Bool × Unit)) (h31 : Heap) : Prop :=
    ((s30.1 = true →
    Q false h31) ∧
    (s30.1 = false →
    law3_alive.j3 Q go11 s9 t15 s22 () h31))
def law3_alive.j5 (todos2 : Sl) (Q : Bool → Heap → Prop) (go11 : (Int × (((Fin 4 → Int) × Unit) × (((Fin 4 → Int) × Unit) × Unit))) → Heap → Prop) (s9 : (Int × (((Fin 4 → Int) × Unit) × (((Fin 4 → Int) × Unit) × Unit)))) (t15 : Den kapiCall) (s22 : (((Fin 4 → Int) × Unit) × Unit)) (s24 : Unit) (h25 : Heap) : Prop :=
    (((decide (t15.1 = 0)) = true →
    (((decide ((todos2.len : Int) ≤ (aget (n := 4) (a := ((.int .i64) : Kd)) s9.2.1.1 (t15.1 : Int).toNat))) = true →
    law3_alive.j4 Q go11 s9 t15 s22 (true, ()) h25) ∧
    ((decide ((todos2.len : Int) ≤ (aget (n := 4) (a := ((.int .i64) : Kd)) s9.2.1.1 (t15.1 : Int).toNat))) = false →
    (0 ≤ (aget (n := 4) (a := ((.int .i64) : Kd)) s9.2.1.1 (t15.1 : Int).toNat) ∧ (aget (n := 4) (a := ((.int .i64) : Kd)) s9.2.1.1 (t15.1 : Int).toNat) < (todos2.len : Int)) ∧
    deref todos2.a fun a32 =>
    ld ((.int .i64) : Kd) h25 ((a32.add (((aget (n := 4) (a := ((.int .i64) : Kd)) s9.2.1.1 (t15.1 : Int).toNat) : Int).toNat * 2)).add 0) fun t33 =>
    (((decide (t15.2.1 ≠ t33)) = true →
    law3_alive.j4 Q go11 s9 t15 s22 (true, ()) h25) ∧
    ((decide (t15.2.1 ≠ t33)) = false →
    (((decide (t15.2.1 = 0)) = true →
    (0 ≤ (aget (n := 4) (a := ((.int .i64) : Kd)) s9.2.1.1 (t15.1 : Int).toNat) ∧ (aget (n := 4) (a := ((.int .i64) : Kd)) s9.2.1.1 (t15.1 : Int).toNat) < (todos2.len : Int)) ∧
    deref todos2.a fun a34 =>
    ld ((.int .i64) : Kd) h25 ((a34.add (((aget (n := 4) (a := ((.int .i64) : Kd)) s9.2.1.1 (t15.1 : Int).toNat) : Int).toNat * 2)).add 1) fun t35 =>
    law3_alive.j4 Q go11 s9 t15 s22 ((decide (t15.2.2.1 ≠ t35)), ()) h25) ∧
    ((decide (t15.2.1 = 0)) = false →
    law3_alive.j4 Q go11 s9 t15 s22 (false, ()) h25))))))) ∧
    ((decide (t15.1 = 0)) = false →
    law3_alive.j4 Q go11 s9 t15 s22 (false, ()) h25))
def law3_alive.j6 (todos2 : Sl) (Q : Bool → Heap → Prop) (go11 : (Int × (((Fin 4 → Int) × Unit) × (((Fin 4 → Int) × Unit) × Unit))) → Heap → Prop) (s9 : (Int × (((Fin 4 → Int) × Unit) × (((Fin 4 → Int) × Unit) × Unit)))) (t15 : Den kapiCall) (s22 : (((Fin 4 → Int) × Unit) × Unit)) (s36 : (Bool × Unit)) (h37 : Heap) : Prop :=
    ((s36.1 = true →
    Q false h37) ∧
    (s36.1 = false →
    law3_alive.j5 todos2 Q go11 s9 t15 s22 () h37))
def law3_alive.j7 (todos2 : Sl) (Q : Bool → Heap → Prop) (go11 : (Int × (((Fin 4 → Int) × Unit) × (((Fin 4 → Int) × Unit) × Unit))) → Heap → Prop) (s9 : (Int × (((Fin 4 → Int) × Unit) × (((Fin 4 → Int) × Unit) × Unit)))) (t15 : Den kapiCall) (s22 : (((Fin 4 → Int) × Unit) × Unit)) (h23 : Heap) : Prop :=
    (0 ≤ t15.1 ∧ t15.1 < (4 : Int)) ∧
    (0 ≤ t15.1 ∧ t15.1 < (4 : Int)) ∧
    (0 ≤ t15.1 ∧ t15.1 < (4 : Int)) ∧
    (((decide ((0 : Int) < t15.1)) = true →
    law3_alive.j6 todos2 Q go11 s9 t15 s22 ((decide (t15.2.1 ≠ 2)), ()) h23) ∧
    ((decide ((0 : Int) < t15.1)) = false →
    law3_alive.j6 todos2 Q go11 s9 t15 s22 (false, ()) h23))
def law3_alive.j8 (c_law3_mod : Int → Int → Heap → (Int → Heap → Prop) → Prop) (c_law3_own : Sl → Int → Int → Int → Int → Heap → (Int → Heap → Prop) → Prop) (todos2 : Sl) (thieves3 : Int) (picks4 : Sl) (Q : Bool → Heap → Prop) (go11 : (Int × (((Fin 4 → Int) × Unit) × (((Fin 4 → Int) × Unit) × Unit))) → Heap → Prop) (s9 : (Int × (((Fin 4 → Int) × Unit) × (((Fin 4 → Int) × Unit) × Unit)))) (t15 : Den kapiCall) (s18 : Unit) (h19 : Heap) : Prop :=
    (0 ≤ t15.1 ∧ t15.1 < (4 : Int)) ∧
    c_law3_own picks4 thieves3 t15.1 (w64 ((aget (n := 4) (a := ((.int .i64) : Kd)) s9.2.2.1.1 (t15.1 : Int).toNat) + 1)) t15.2.2.2.1 h19 fun r20 h21 =>
    (((decide (r20 ≠ 1)) = true →
    Q false h21) ∧
    ((decide (r20 ≠ 1)) = false →
    (0 ≤ t15.1 ∧ t15.1 < (4 : Int)) ∧
    (((decide (t15.2.2.2.2.1 < 0)) = true →
    (0 ≤ t15.1 ∧ t15.1 < (4 : Int)) ∧
    law3_alive.j7 todos2 Q go11 s9 t15 (((aset (n := 4) (a := ((.int .i64) : Kd)) (aset (n := 4) (a := ((.int .i64) : Kd)) s9.2.2.1.1 (t15.1 : Int).toNat t15.2.2.2.2.1) (t15.1 : Int).toNat (picks4.len : Int)), ()), ()) h21) ∧
    ((decide (t15.2.2.2.2.1 < 0)) = false →
    (0 ≤ t15.2.2.2.2.1 ∧ t15.2.2.2.2.1 < (picks4.len : Int)) ∧
    deref picks4.a fun a38 =>
    ld ((.int .i64) : Kd) h21 (a38.add ((t15.2.2.2.2.1 : Int).toNat * 1)) fun t39 =>
    c_law3_mod t39 (w64 (1 + thieves3)) h21 fun r40 h41 =>
    (((decide (r40 ≠ t15.1)) = true →
    Q false h41) ∧
    ((decide (r40 ≠ t15.1)) = false →
    law3_alive.j7 todos2 Q go11 s9 t15 (((aset (n := 4) (a := ((.int .i64) : Kd)) s9.2.2.1.1 (t15.1 : Int).toNat t15.2.2.2.2.1), ()), ()) h41))))))
def law3_alive.j9 (c_law3_mod : Int → Int → Heap → (Int → Heap → Prop) → Prop) (c_law3_own : Sl → Int → Int → Int → Int → Heap → (Int → Heap → Prop) → Prop) (todos2 : Sl) (thieves3 : Int) (picks4 : Sl) (Q : Bool → Heap → Prop) (go11 : (Int × (((Fin 4 → Int) × Unit) × (((Fin 4 → Int) × Unit) × Unit))) → Heap → Prop) (s9 : (Int × (((Fin 4 → Int) × Unit) × (((Fin 4 → Int) × Unit) × Unit)))) (t15 : Den kapiCall) (s42 : (Bool × Unit)) (h43 : Heap) : Prop :=
    ((s42.1 = true →
    Q false h43) ∧
    (s42.1 = false →
    law3_alive.j8 c_law3_mod c_law3_own todos2 thieves3 picks4 Q go11 s9 t15 () h43))
def law3_alive.j10 (c_law3_mod : Int → Int → Heap → (Int → Heap → Prop) → Prop) (c_law3_own : Sl → Int → Int → Int → Int → Heap → (Int → Heap → Prop) → Prop) (r1 : Den kapiDequeRun) (todos2 : Sl) (thieves3 : Int) (picks4 : Sl) (Q : Bool → Heap → Prop) (go11 : (Int × (((Fin 4 → Int) × Unit) × (((Fin 4 → Int) × Unit) × Unit))) → Heap → Prop) (s9 : (Int × (((Fin 4 → Int) × Unit) × (((Fin 4 → Int) × Unit) × Unit)))) (t15 : Den kapiCall) (s16 : Unit) (h17 : Heap) : Prop :=
    (((decide ((0 : Int) < s9.1)) = true →
    (0 ≤ (w64 (s9.1 - 1)) ∧ (w64 (s9.1 - 1)) < (r1.1.len : Int)) ∧
    deref r1.1.a fun a44 =>
    ld ((.int .i64) : Kd) h17 ((a44.add (((w64 (s9.1 - 1)) : Int).toNat * 7)).add 3) fun t45 =>
    (((decide (t15.2.2.2.1 ≤ t45)) = true →
    law3_alive.j9 c_law3_mod c_law3_own todos2 thieves3 picks4 Q go11 s9 t15 (true, ()) h17) ∧
    ((decide (t15.2.2.2.1 ≤ t45)) = false →
    (0 ≤ t15.1 ∧ t15.1 < (4 : Int)) ∧
    (((decide (t15.2.2.2.1 ≤ (aget (n := 4) (a := ((.int .i64) : Kd)) s9.2.2.1.1 (t15.1 : Int).toNat))) = true →
    law3_alive.j9 c_law3_mod c_law3_own todos2 thieves3 picks4 Q go11 s9 t15 (true, ()) h17) ∧
    ((decide (t15.2.2.2.1 ≤ (aget (n := 4) (a := ((.int .i64) : Kd)) s9.2.2.1.1 (t15.1 : Int).toNat))) = false →
    (0 ≤ t15.2.2.2.1 ∧ t15.2.2.2.1 < (picks4.len : Int)) ∧
    deref picks4.a fun a46 =>
    ld ((.int .i64) : Kd) h17 (a46.add ((t15.2.2.2.1 : Int).toNat * 1)) fun t47 =>
    c_law3_mod t47 (w64 (1 + thieves3)) h17 fun r48 h49 =>
    law3_alive.j9 c_law3_mod c_law3_own todos2 thieves3 picks4 Q go11 s9 t15 ((decide (r48 ≠ t15.1)), ()) h49))))) ∧
    ((decide ((0 : Int) < s9.1)) = false →
    (0 ≤ t15.1 ∧ t15.1 < (4 : Int)) ∧
    (((decide (t15.2.2.2.1 ≤ (aget (n := 4) (a := ((.int .i64) : Kd)) s9.2.2.1.1 (t15.1 : Int).toNat))) = true →
    law3_alive.j9 c_law3_mod c_law3_own todos2 thieves3 picks4 Q go11 s9 t15 (true, ()) h17) ∧
    ((decide (t15.2.2.2.1 ≤ (aget (n := 4) (a := ((.int .i64) : Kd)) s9.2.2.1.1 (t15.1 : Int).toNat))) = false →
    (0 ≤ t15.2.2.2.1 ∧ t15.2.2.2.1 < (picks4.len : Int)) ∧
    deref picks4.a fun a50 =>
    ld ((.int .i64) : Kd) h17 (a50.add ((t15.2.2.2.1 : Int).toNat * 1)) fun t51 =>
    c_law3_mod t51 (w64 (1 + thieves3)) h17 fun r52 h53 =>
    law3_alive.j9 c_law3_mod c_law3_own todos2 thieves3 picks4 Q go11 s9 t15 ((decide (r52 ≠ t15.1)), ()) h53))))
def law3_alive.j11 (c_law3_mod : Int → Int → Heap → (Int → Heap → Prop) → Prop) (c_law3_own : Sl → Int → Int → Int → Int → Heap → (Int → Heap → Prop) → Prop) (r1 : Den kapiDequeRun) (todos2 : Sl) (thieves3 : Int) (picks4 : Sl) (Q : Bool → Heap → Prop) (go11 : (Int × (((Fin 4 → Int) × Unit) × (((Fin 4 → Int) × Unit) × Unit))) → Heap → Prop) (s9 : (Int × (((Fin 4 → Int) × Unit) × (((Fin 4 → Int) × Unit) × Unit)))) (t15 : Den kapiCall) (s54 : (Bool × Unit)) (h55 : Heap) : Prop :=
    ((s54.1 = true →
    Q false h55) ∧
    (s54.1 = false →
    law3_alive.j10 c_law3_mod c_law3_own r1 todos2 thieves3 picks4 Q go11 s9 t15 () h55))
def law3_alive.l12 (c_law3_own : Sl → Int → Int → Int → Int → Heap → (Int → Heap → Prop) → Prop) (thieves3 : Int) (picks4 : Sl) (Q : Bool → Heap → Prop) (s9 : (Int × (((Fin 4 → Int) × Unit) × (((Fin 4 → Int) × Unit) × Unit)))) (go60 : (Int × Unit) → Heap → Prop) (s58 : (Int × Unit)) (h59 : Heap) : Prop :=
    (((decide (s58.1 ≤ thieves3)) = true →
    (0 ≤ s58.1 ∧ s58.1 < (4 : Int)) ∧
    c_law3_own picks4 thieves3 s58.1 0 (-1) h59 fun r61 h62 =>
    (6 : Int) ≠ 0 ∧
    (((decide ((aget (n := 4) (a := ((.int .i64) : Kd)) s9.2.1.1 (s58.1 : Int).toNat) < (w64 (Int.tdiv (w64 (r61 + 5)) 6)))) = true →
    Q false h62) ∧
    ((decide ((aget (n := 4) (a := ((.int .i64) : Kd)) s9.2.1.1 (s58.1 : Int).toNat) < (w64 (Int.tdiv (w64 (r61 + 5)) 6)))) = false →
    go60 ((w64 (s58.1 + 1)), ()) h62))) ∧
    ((decide (s58.1 ≤ thieves3)) = false →
    Q true h59))
def law3_alive.l13 (c_law3_mod : Int → Int → Heap → (Int → Heap → Prop) → Prop) (c_law3_own : Sl → Int → Int → Int → Int → Heap → (Int → Heap → Prop) → Prop) (r1 : Den kapiDequeRun) (todos2 : Sl) (thieves3 : Int) (picks4 : Sl) (Q : Bool → Heap → Prop) (go11 : (Int × (((Fin 4 → Int) × Unit) × (((Fin 4 → Int) × Unit) × Unit))) → Heap → Prop) (s9 : (Int × (((Fin 4 → Int) × Unit) × (((Fin 4 → Int) × Unit) × Unit)))) (h10 : Heap) : Prop :=
    (((decide (s9.1 < (r1.1.len : Int))) = true →
    (0 ≤ s9.1 ∧ s9.1 < (r1.1.len : Int)) ∧
    deref r1.1.a fun a14 =>
    ld kapiCall h10 (a14.add ((s9.1 : Int).toNat * 7)) fun t15 =>
    (((decide (t15.1 < 0)) = true →
    law3_alive.j11 c_law3_mod c_law3_own r1 todos2 thieves3 picks4 Q go11 s9 t15 (true, ()) h10) ∧
    ((decide (t15.1 < 0)) = false →
    (((decide (thieves3 < t15.1)) = true →
    law3_alive.j11 c_law3_mod c_law3_own r1 todos2 thieves3 picks4 Q go11 s9 t15 (true, ()) h10) ∧
    ((decide (thieves3 < t15.1)) = false →
    (((decide (t15.2.2.2.1 < 0)) = true →
    law3_alive.j11 c_law3_mod c_law3_own r1 todos2 thieves3 picks4 Q go11 s9 t15 (true, ()) h10) ∧
    ((decide (t15.2.2.2.1 < 0)) = false →
    (((decide ((picks4.len : Int) ≤ t15.2.2.2.1)) = true →
    law3_alive.j11 c_law3_mod c_law3_own r1 todos2 thieves3 picks4 Q go11 s9 t15 (true, ()) h10) ∧
    ((decide ((picks4.len : Int) ≤ t15.2.2.2.1)) = false →
    (((decide ((picks4.len : Int) ≤ t15.2.2.2.2.1)) = true →
    law3_alive.j11 c_law3_mod c_law3_own r1 todos2 thieves3 picks4 Q go11 s9 t15 (true, ()) h10) ∧
    ((decide ((picks4.len : Int) ≤ t15.2.2.2.2.1)) = false →
    law3_alive.j11 c_law3_mod c_law3_own r1 todos2 thieves3 picks4 Q go11 s9 t15 ((!((decide (t15.2.2.2.2.1 < 0)) == (decide (t15.2.2.2.2.2.1 = 0)))), ()) h10))))))))))) ∧
    ((decide (s9.1 < (r1.1.len : Int))) = false →
    (0 ≤ (0 : Int) ∧ (0 : Int) < (4 : Int)) ∧
    c_law3_own picks4 thieves3 0 0 (-1) h10 fun r56 h57 =>
    (15 : Int) ≠ 0 ∧
    (((decide ((aget (n := 4) (a := ((.int .i64) : Kd)) s9.2.1.1 ((0 : Int) : Int).toNat) < (if (w64 (Int.tdiv (w64 (r56 + 14)) 15)) < (todos2.len : Int) then (w64 (Int.tdiv (w64 (r56 + 14)) 15)) else (todos2.len : Int)))) = true →
    Q false h57) ∧
    ((decide ((aget (n := 4) (a := ((.int .i64) : Kd)) s9.2.1.1 ((0 : Int) : Int).toNat) < (if (w64 (Int.tdiv (w64 (r56 + 14)) 15)) < (todos2.len : Int) then (w64 (Int.tdiv (w64 (r56 + 14)) 15)) else (todos2.len : Int)))) = false →
    Loop (law3_alive.l12 c_law3_own thieves3 picks4 Q s9) (1, ()) h57))))
def law3_alive.l14 (c_law3_mod : Int → Int → Heap → (Int → Heap → Prop) → Prop) (c_law3_own : Sl → Int → Int → Int → Int → Heap → (Int → Heap → Prop) → Prop) (r1 : Den kapiDequeRun) (todos2 : Sl) (thieves3 : Int) (picks4 : Sl) (Q : Bool → Heap → Prop) (go8 : (Int × (((Fin 4 → Int) × Unit) × Unit)) → Heap → Prop) (s6 : (Int × (((Fin 4 → Int) × Unit) × Unit))) (h7 : Heap) : Prop :=
    (((decide (s6.1 < 4)) = true →
    (0 ≤ s6.1 ∧ s6.1 < (4 : Int)) ∧
    go8 ((w64 (s6.1 + 1)), ((aset (n := 4) (a := ((.int .i64) : Kd)) s6.2.1.1 (s6.1 : Int).toNat (-1)), ()), ()) h7) ∧
    ((decide (s6.1 < 4)) = false →
    Loop (law3_alive.l13 c_law3_mod c_law3_own r1 todos2 thieves3 picks4 Q) (0, ((fun _ => 0), ()), (s6.2.1.1, ()), ()) h7))
def law3_alive.M (c_law3_mod : Int → Int → Heap → (Int → Heap → Prop) → Prop) (c_law3_own : Sl → Int → Int → Int → Int → Heap → (Int → Heap → Prop) → Prop) (r1 : Den kapiDequeRun) (todos2 : Sl) (thieves3 : Int) (picks4 : Sl) (h5 : Heap) (Q : Bool → Heap → Prop) : Prop :=
    Loop (law3_alive.l14 c_law3_mod c_law3_own r1 todos2 thieves3 picks4 Q) (0, ((fun _ => 0), ()), ()) h5
def law3_alive.mk : Mk := (.s (.r [0]) (.s (.r [0, 1]) (.s (.s .d (.b (.l [.slot 11 (.int .i64), .box 10 (.pair (.arr 4 (.int .i64)) .nil)] (.s (.s .d (.c .d .d)) (.s (.b .d) .d))))) (.s (.s .d (.b (.l [.slot 12 (.int .i64), .box 9 (.pair (.arr 4 (.int .i64)) .nil), .box 10 (.pair (.arr 4 (.int .i64)) .nil)] (.s (.s .d (.c .d .d)) (.j [.box 9 (.pair (.arr 4 (.int .i64)) .nil), .box 10 (.pair (.arr 4 (.int .i64)) .nil)] (.b (.s (.r [5]) (.j [] (.j [.slot 70 .bool] .d (.c (.s .d .d) .d)) (.j [] (.j [.slot 106 .bool] (.q [] [] [.p 0, .p 1, .p 2, .p 3, .p 5, .p 7, .p 8, .w 4 [4, 12, 13, 14, 15, 16, 17, 18, 19, 20, 21, 22, 23, 24, 25, 26, 27, 28, 29, 30, 31, 32, 33, 34, 35], .w 6 [6, 9, 10, 11, 12, 13, 14, 15, 16, 17, 18, 19, 20, 21, 22, 23, 24, 25, 26, 27, 28, 29, 30, 31, 32, 33, 34, 35], .p 9, .p 10, .w 11 [11, 12, 13, 14, 15, 16, 17, 18, 19, 20, 21, 22, 23, 24, 25, 26, 27, 28, 29, 30, 31, 32, 33, 34, 35], .p 12, .p 13, .p 14, .p 15, .p 17, .w 16 [16, 21, 22, 23, 24, 25, 26, 27, 28, 29, 30, 31, 32, 33, 34, 35], .w 18 [18, 19, 20, 21, 22, 23, 24, 25, 26, 27, 28, 29, 30, 31, 32, 33, 34, 35], .p 19, .w 20 [20, 21, 22, 23, 24, 25, 26, 27, 28, 29, 30, 31, 32, 33, 34, 35], .p 21, .p 22, .p 23, .p 24, .p 25, .p 29, .p 30, .p 32, .w 26 [26, 27, 28, 31, 34, 35], .p 27, .w 28 [28, 31, 34, 35], .w 33 [33, 34, 35], .o 31, .p 34, .p 35]) (.c (.s .d .d) .d)) (.s (.s (.q [] [] [.p 0, .p 1, .p 2, .p 4, .p 9, .w 3 [3, 11, 12], .w 5 [5, 6, 7, 8, 11, 12], .p 6, .w 7 [7, 8, 11, 12], .p 8, .w 10 [10, 11, 12], .o 11, .p 12]) (.c (.s .d .d) .d)) (.s .d (.j [.box 10 (.pair (.arr 4 (.int .i64)) .nil)] (.s .d (.c .d (.s (.q [] [] [.p 0, .p 1, .p 5, .p 6, .p 8, .w 2 [2, 3, 4, 7, 10], .p 3, .w 4 [4, 7, 10], .w 9 [9, 10], .o 7, .p 10]) (.c (.s .d .d) .d)))) (.s .d (.s .d (.j [] (.j [.slot 161 .bool] .d (.c (.s .d .d) .d)) (.j [] (.j [.slot 195 .bool] (.q [] [] [.p 0, .w 1 [1, 2, 3, 4, 5, 6, 7, 8, 9, 10, 11, 12, 13, 14, 15, 16, 17, 18, 19, 20, 21, 22, 23, 24, 25, 26, 27, 28, 29, 30, 31, 32, 33], .p 2, .p 3, .p 4, .p 5, .p 6, .p 7, .p 8, .p 9, .p 11, .p 12, .p 13, .p 14, .w 10 [10, 16, 17, 18, 19, 20, 21, 22, 23, 24, 25, 26, 27, 28, 29, 30, 31, 32, 33], .w 15 [15, 16, 17, 18, 19, 20, 21, 22, 23, 24, 25, 26, 27, 28, 29, 30, 31, 32, 33], .p 16, .p 17, .p 18, .p 19, .w 20 [20, 21, 22, 23, 24, 25, 26, 27, 28, 29, 30, 31, 32, 33], .p 21, .p 22, .p 23, .p 25, .p 26, .p 27, .p 28, .w 24 [24, 30, 31, 32, 33], .w 29 [29, 30, 31, 32, 33], .p 30, .p 31, .p 32, .p 33]) (.c (.s .d .d) .d)) (.j [.slot 217 .bool] .d (.c (.s .d .d) .d))))))))))))) .d))))) (.s (.s (.q [] [] [.p 0, .p 2, .p 3, .p 4, .p 5, .w 1 [1, 10], .o 6, .p 7, .p 8, .p 9, .p 10]) (.c (.s .d .d) .d)) (.s (.s .d (.b (.l [.slot 15 (.int .i64)] (.s (.s .d (.c .d .d)) (.s (.b (.s (.q [] [] [.p 0, .p 1, .p 3, .p 4, .p 5, .w 2 [2, 9], .o 6, .p 7, .p 8, .p 9]) (.c (.s .d .d) .d))) .d))))) (.s .d .d)))))))

def law4_Game_fit.j1 (Q : Den klaw4Game → Heap → Prop) (s13 : (Den klaw4Game × Unit)) (h14 : Heap) : Prop :=
    Q (s13.1.1, (s13.1.2.1, (s13.1.2.2.1, (s13.1.2.2.2.1, (s13.1.2.2.2.2.1, ()))))) h14
def law4_Game_fit.j2 (c_law4_mod : Int → Int → Heap → (Int → Heap → Prop) → Prop) (g1 : Den klaw4Game) (go17 : (Int × (Den klaw4Game × Unit)) → Heap → Prop) (s15 : (Int × (Den klaw4Game × Unit))) (s18 : Unit) (h19 : Heap) : Prop :=
    (0 ≤ s15.1 ∧ s15.1 < (g1.2.2.2.2.1.len : Int)) ∧
    deref g1.2.2.2.2.1.a fun a20 =>
    ld ((.int .i64) : Kd) h19 (a20.add ((s15.1 : Int).toNat * 1)) fun t21 =>
    c_law4_mod t21 (w64 (1 + s15.2.1.2.2.2.1)) h19 fun r22 h23 =>
    new h23 (([r22] : List (Den ((.int .i64) : Kd))).flatMap (Kd.cells ((.int .i64) : Kd))) fun p24 h25 =>
    appendM 1 8 h25 s15.2.1.2.2.2.2.1 ⟨some p24, 1, 1⟩ fun t26 h27 =>
    go17 ((w64 (s15.1 + 1)), (s15.2.1.1, (s15.2.1.2.1, (s15.2.1.2.2.1, (s15.2.1.2.2.2.1, (t26, ()))))), ()) h27
def law4_Game_fit.j3 (c_law4_mod : Int → Int → Heap → (Int → Heap → Prop) → Prop) (g1 : Den klaw4Game) (Q : Den klaw4Game → Heap → Prop) (go17 : (Int × (Den klaw4Game × Unit)) → Heap → Prop) (s15 : (Int × (Den klaw4Game × Unit))) (s28 : (Bool × Unit)) (h29 : Heap) : Prop :=
    ((s28.1 = true →
    law4_Game_fit.j2 c_law4_mod g1 go17 s15 () h29) ∧
    (s28.1 = false →
    law4_Game_fit.j1 Q ((s15.2.1.1, (s15.2.1.2.1, (s15.2.1.2.2.1, (s15.2.1.2.2.2.1, (s15.2.1.2.2.2.2.1, ()))))), ()) h29))
def law4_Game_fit.l4 (c_law4_mod : Int → Int → Heap → (Int → Heap → Prop) → Prop) (g1 : Den klaw4Game) (picks3 : Int) (Q : Den klaw4Game → Heap → Prop) (go17 : (Int × (Den klaw4Game × Unit)) → Heap → Prop) (s15 : (Int × (Den klaw4Game × Unit))) (h16 : Heap) : Prop :=
    (((decide (s15.1 < (g1.2.2.2.2.1.len : Int))) = true →
    law4_Game_fit.j3 c_law4_mod g1 Q go17 s15 ((decide (s15.1 < picks3)), ()) h16) ∧
    ((decide (s15.1 < (g1.2.2.2.2.1.len : Int))) = false →
    law4_Game_fit.j3 c_law4_mod g1 Q go17 s15 (false, ()) h16))
def law4_Game_fit.j5 (c_law4_mod : Int → Int → Heap → (Int → Heap → Prop) → Prop) (g1 : Den klaw4Game) (picks3 : Int) (Q : Den klaw4Game → Heap → Prop) (s11 : (Den klaw4Game × Unit)) (h12 : Heap) : Prop :=
    Loop (law4_Game_fit.l4 c_law4_mod g1 picks3 Q) (0, (s11.1.1, (s11.1.2.1, (s11.1.2.2.1, (s11.1.2.2.2.1, (s11.1.2.2.2.2.1, ()))))), ()) h12
def law4_Game_fit.j6 (c_law4_mod : Int → Int → Heap → (Int → Heap → Prop) → Prop) (g1 : Den klaw4Game) (go32 : (Int × (Den klaw4Game × Unit)) → Heap → Prop) (s30 : (Int × (Den klaw4Game × Unit))) (s33 : Unit) (h34 : Heap) : Prop :=
    (0 ≤ s30.1 ∧ s30.1 < (g1.2.2.1.len : Int)) ∧
    deref g1.2.2.1.a fun a35 =>
    ld ((.int .i64) : Kd) h34 ((a35.add ((s30.1 : Int).toNat * 2)).add 0) fun t36 =>
    (0 ≤ s30.1 ∧ s30.1 < (g1.2.2.1.len : Int)) ∧
    deref g1.2.2.1.a fun a37 =>
    ld ((.int .i64) : Kd) h34 ((a37.add ((s30.1 : Int).toNat * 2)).add 1) fun t38 =>
    c_law4_mod t36 2 h34 fun r39 h40 =>
    sees h40 (some ((a37.add ((s30.1 : Int).toNat * 2)).add 1)) ((.int .i64) : Kd) t38 ∧
    new h40 (([(r39, (t38, ()))] : List (Den kapiTodo)).flatMap (Kd.cells kapiTodo)) fun p41 h42 =>
    appendM 2 16 h42 s30.2.1.2.2.1 ⟨some p41, 1, 1⟩ fun t43 h44 =>
    go32 ((w64 (s30.1 + 1)), (s30.2.1.1, (s30.2.1.2.1, (t43, (s30.2.1.2.2.2.1, (s30.2.1.2.2.2.2.1, ()))))), ()) h44
def law4_Game_fit.j7 (c_law4_mod : Int → Int → Heap → (Int → Heap → Prop) → Prop) (g1 : Den klaw4Game) (picks3 : Int) (Q : Den klaw4Game → Heap → Prop) (go32 : (Int × (Den klaw4Game × Unit)) → Heap → Prop) (s30 : (Int × (Den klaw4Game × Unit))) (s45 : (Bool × Unit)) (h46 : Heap) : Prop :=
    ((s45.1 = true →
    law4_Game_fit.j6 c_law4_mod g1 go32 s30 () h46) ∧
    (s45.1 = false →
    law4_Game_fit.j5 c_law4_mod g1 picks3 Q ((s30.2.1.1, (s30.2.1.2.1, (s30.2.1.2.2.1, (s30.2.1.2.2.2.1, (s30.2.1.2.2.2.2.1, ()))))), ()) h46))
def law4_Game_fit.l8 (c_law4_mod : Int → Int → Heap → (Int → Heap → Prop) → Prop) (g1 : Den klaw4Game) (todos2 : Int) (picks3 : Int) (Q : Den klaw4Game → Heap → Prop) (go32 : (Int × (Den klaw4Game × Unit)) → Heap → Prop) (s30 : (Int × (Den klaw4Game × Unit))) (h31 : Heap) : Prop :=
    (((decide (s30.1 < (g1.2.2.1.len : Int))) = true →
    law4_Game_fit.j7 c_law4_mod g1 picks3 Q go32 s30 ((decide (s30.1 < todos2)), ()) h31) ∧
    ((decide (s30.1 < (g1.2.2.1.len : Int))) = false →
    law4_Game_fit.j7 c_law4_mod g1 picks3 Q go32 s30 (false, ()) h31))
def law4_Game_fit.M (c_law4_mod : Int → Int → Heap → (Int → Heap → Prop) → Prop) (g1 : Den klaw4Game) (todos2 : Int) (picks3 : Int) (h4 : Heap) (Q : Den klaw4Game → Heap → Prop) : Prop :=
    c_law4_mod g1.1 8 h4 fun r5 h6 =>
    c_law4_mod g1.2.2.2.1 4 h6 fun r7 h8 =>
    c_law4_mod g1.2.1 8 h8 fun r9 h10 =>
    Loop (law4_Game_fit.l8 c_law4_mod g1 todos2 picks3 Q) (0, ((w64 (1 + r5)), ((w64 ((w64 (1 + r5)) + r9)), (Sl.none, (r7, (Sl.none, ()))))), ()) h10
def law4_Game_fit.mk : Mk := (.s (.r [0, 1]) (.s (.q [8] [7] [.p 0, .p 4, .w 1 [1, 2, 3, 6, 7, 9], .w 5 [5, 6, 7, 9], .o 2, .p 3, .o 6, .p 7, .a 8, .o 9]) (.s (.q [] [7] [.p 0, .p 2, .w 1 [1, 5, 6, 7], .w 3 [3, 4, 5, 6, 7], .o 4, .p 5, .p 6, .o 7]) (.j [.box 7 klaw4Game] (.s .d (.b (.l [.slot 8 (.int .i64), .box 7 klaw4Game] (.j [] (.j [.slot 34 .bool] .d (.c .d .d)) (.s (.b (.q [] [7] [.p 0, .p 2, .p 4, .p 9, .p 11, .w 1 [1, 17, 18, 19], .w 3 [3, 5, 6, 7, 8, 15, 16, 17, 18, 19], .p 5, .p 6, .w 7 [7, 8, 15, 16, 17, 18, 19], .w 10 [10, 12, 13, 14, 15, 16, 17, 18, 19], .p 12, .p 13, .w 14 [14, 15, 16, 17, 18, 19], .o 8, .p 15, .o 16, .o 17, .p 18, .o 19])) .d))))) (.j [.box 7 klaw4Game] (.s .d (.b (.l [.slot 9 (.int .i64), .box 7 klaw4Game] (.j [] (.j [.slot 65 .bool] .d (.c .d .d)) (.s (.b (.q [] [7] [.p 0, .p 2, .p 4, .p 7, .w 1 [1, 12, 13, 14], .w 3 [3, 5, 6, 10, 11, 12, 13, 14], .p 5, .w 6 [6, 10, 11, 12, 13, 14], .w 8 [8, 9, 10, 11, 12, 13, 14], .p 9, .o 10, .o 11, .o 12, .p 13, .o 14])) .d))))) (.s .d .d))))))

def law4_Game_play.M (c_deque_Play : Int → Int → Sl → Int → Sl → Heap → ((Den kapiDequeRun × (Int × Unit)) → Heap → Prop) → Prop) (g1 : Den klaw4Game) (picks2 : Sl) (h3 : Heap) (Q : (Den kapiDequeRun × (Bool × Unit)) → Heap → Prop) : Prop :=
    c_deque_Play g1.1 g1.2.1 g1.2.2.1 g1.2.2.2.1 picks2 h3 fun r4 h5 =>
    Q ((r4.1.1, (r4.1.2.1, (r4.1.2.2.1, ()))), (decide (r4.2.1 = 0)), ()) h5
def law4_Game_play.mk : Mk := (.s (.r [0, 1]) (.s (.r [13]) (.s .d .d)))

def law4_Game_begun.j1 (go6 : (Int × Unit) → Heap → Prop) (s4 : (Int × Unit)) (s7 : Unit) (h8 : Heap) : Prop :=
    go6 ((w64 (s4.1 + 1)), ()) h8
def law4_Game_begun.l2 (c_law4_has : Sl → Int → Int → Heap → (Bool → Heap → Prop) → Prop) (g1 : Den klaw4Game) (calls2 : Sl) (Q : Bool → Heap → Prop) (go6 : (Int × Unit) → Heap → Prop) (s4 : (Int × Unit)) (go13 : (Int × Unit) → Heap → Prop) (s11 : (Int × Unit)) (h12 : Heap) : Prop :=
    (((decide (s11.1 < (g1.2.2.2.2.1.len : Int))) = true →
    (0 ≤ s11.1 ∧ s11.1 < (g1.2.2.2.2.1.len : Int)) ∧
    deref g1.2.2.2.2.1.a fun a14 =>
    ld ((.int .i64) : Kd) h12 (a14.add ((s11.1 : Int).toNat * 1)) fun t15 =>
    (((decide (t15 = s4.1)) = true →
    c_law4_has calls2 s4.1 s11.1 h12 fun r16 h17 =>
    (((!r16) = true →
    Q false h17) ∧
    ((!r16) = false →
    law4_Game_begun.j1 go6 s4 () h17))) ∧
    ((decide (t15 = s4.1)) = false →
    go13 ((w64 (s11.1 + 1)), ()) h12))) ∧
    ((decide (s11.1 < (g1.2.2.2.2.1.len : Int))) = false →
    law4_Game_begun.j1 go6 s4 () h12))
def law4_Game_begun.j3 (c_law4_has : Sl → Int → Int → Heap → (Bool → Heap → Prop) → Prop) (g1 : Den klaw4Game) (calls2 : Sl) (Q : Bool → Heap → Prop) (go6 : (Int × Unit) → Heap → Prop) (s4 : (Int × Unit)) (s9 : Unit) (h10 : Heap) : Prop :=
    Loop (law4_Game_begun.l2 c_law4_has g1 calls2 Q go6 s4) (0, ()) h10
def law4_Game_begun.j4 (c_law4_has : Sl → Int → Int → Heap → (Bool → Heap → Prop) → Prop) (g1 : Den klaw4Game) (calls2 : Sl) (Q : Bool → Heap → Prop) (go6 : (Int × Unit) → Heap → Prop) (s4 : (Int × Unit)) (s18 : (Bool × Unit)) (h19 : Heap) : Prop :=
    ((s18.1 = true →
    law4_Game_begun.j1 go6 s4 () h19) ∧
    (s18.1 = false →
    law4_Game_begun.j3 c_law4_has g1 calls2 Q go6 s4 () h19))
def law4_Game_begun.l5 (c_law4_has : Sl → Int → Int → Heap → (Bool → Heap → Prop) → Prop) (g1 : Den klaw4Game) (calls2 : Sl) (Q : Bool → Heap → Prop) (go6 : (Int × Unit) → Heap → Prop) (s4 : (Int × Unit)) (h5 : Heap) : Prop :=
    (((decide (s4.1 ≤ g1.2.2.2.1)) = true →
    (((decide (s4.1 = 0)) = true →
    law4_Game_begun.j4 c_law4_has g1 calls2 Q go6 s4 ((decide ((g1.2.2.1.len : Int) = 0)), ()) h5) ∧
    ((decide (s4.1 = 0)) = false →
    law4_Game_begun.j4 c_law4_has g1 calls2 Q go6 s4 (false, ()) h5))) ∧
    ((decide (s4.1 ≤ g1.2.2.2.1)) = false →
    Q true h5))
def law4_Game_begun.M (c_law4_has : Sl → Int → Int → Heap → (Bool → Heap → Prop) → Prop) (g1 : Den klaw4Game) (calls2 : Sl) (h3 : Heap) (Q : Bool → Heap → Prop) : Prop :=
    Loop (law4_Game_begun.l5 c_law4_has g1 calls2 Q) (0, ()) h3
def law4_Game_begun.mk : Mk := (.s (.r [0]) (.s (.s .d (.b (.l [.slot 5 (.int .i64)] (.s (.s .d (.c .d .d)) (.j [] (.b (.j [] (.j [.slot 20 .bool] .d (.c .d .d)) (.s .d (.b (.l [.slot 6 (.int .i64)] (.s (.s .d (.c .d .d)) (.s (.b (.s .d (.c (.s (.s .d (.c (.s .d .d) .d)) .d) .d))) .d))))))) .d))))) (.s .d .d)))

def law4_took.j1 (c1 : Den kapiCall) (Q : Bool → Heap → Prop) (s5 : Unit) (h6 : Heap) : Prop :=
    (((decide (c1.2.2.2.2.2.1 = 4)) = true →
    Q true h6) ∧
    ((decide (c1.2.2.2.2.2.1 = 4)) = false →
    Q (decide (c1.2.2.2.2.2.1 = 0)) h6))
def law4_took.j2 (c1 : Den kapiCall) (Q : Bool → Heap → Prop) (s7 : (Bool × Unit)) (h8 : Heap) : Prop :=
    ((s7.1 = true →
    Q false h8) ∧
    (s7.1 = false →
    law4_took.j1 c1 Q () h8))
def law4_took.M  (c1 : Den kapiCall) (from_2 : Int) (to3 : Int) (h4 : Heap) (Q : Bool → Heap → Prop) : Prop :=
    (((decide (c1.2.1 = 0)) = true →
    law4_took.j2 c1 Q (true, ()) h4) ∧
    ((decide (c1.2.1 = 0)) = false →
    (((decide (to3 < c1.2.2.2.1)) = true →
    law4_took.j2 c1 Q (true, ()) h4) ∧
    ((decide (to3 < c1.2.2.2.1)) = false →
    (((decide ((0 : Int) ≤ c1.2.2.2.2.1)) = true →
    law4_took.j2 c1 Q ((decide (c1.2.2.2.2.1 < from_2)), ()) h4) ∧
    ((decide ((0 : Int) ≤ c1.2.2.2.2.1)) = false →
    law4_took.j2 c1 Q (false, ()) h4))))))
def law4_took.mk : Mk := (.s (.r [0]) (.j [] (.j [.slot 26 .bool] .d (.c (.s .d .d) .d)) (.s .d .d)))

def law4_mod.j1 (Q : Int → Heap → Prop) (s4 : (Int × Unit)) (h5 : Heap) : Prop :=
    Q s4.1 h5
def law4_mod.M  (x1 : Int) (n2 : Int) (h3 : Heap) (Q : Int → Heap → Prop) : Prop :=
    n2 ≠ 0 ∧
    (((decide ((Int.tmod x1 n2) < 0)) = true →
    law4_mod.j1 Q ((w64 ((Int.tmod x1 n2) + n2)), ()) h3) ∧
    ((decide ((Int.tmod x1 n2) < 0)) = false →
    law4_mod.j1 Q ((Int.tmod x1 n2), ()) h3))
def law4_mod.mk : Mk := (.s .d (.s .d (.j [.slot 5 (.int .i64)] (.s .d (.c .d .d)) (.s .d .d))))

def law4_same.l1 (a1 : Sl) (b2 : Sl) (Q : Bool → Heap → Prop) (go6 : (Int × Unit) → Heap → Prop) (s4 : (Int × Unit)) (h5 : Heap) : Prop :=
    (((decide (s4.1 < (a1.len : Int))) = true →
    (0 ≤ s4.1 ∧ s4.1 < (a1.len : Int)) ∧
    deref a1.a fun a7 =>
    (0 ≤ s4.1 ∧ s4.1 < (b2.len : Int)) ∧
    deref b2.a fun a8 =>
    ld kapiCall h5 (a7.add ((s4.1 : Int).toNat * 7)) fun t9 =>
    ld kapiCall h5 (a8.add ((s4.1 : Int).toNat * 7)) fun t10 =>
    (((!(eqK kapiCall t9 t10)) = true →
    Q false h5) ∧
    ((!(eqK kapiCall t9 t10)) = false →
    go6 ((w64 (s4.1 + 1)), ()) h5))) ∧
    ((decide (s4.1 < (a1.len : Int))) = false →
    Q true h5))
def law4_same.M  (a1 : Sl) (b2 : Sl) (h3 : Heap) (Q : Bool → Heap → Prop) : Prop :=
    (((decide ((a1.len : Int) ≠ (b2.len : Int))) = true →
    Q false h3) ∧
    ((decide ((a1.len : Int) ≠ (b2.len : Int))) = false →
    Loop (law4_same.l1 a1 b2 Q) (0, ()) h3))
def law4_same.mk : Mk := (.s .d (.s (.s .d (.c (.s .d .d) .d)) (.s (.s .d (.b (.l [.slot 5 (.int .i64)] (.s (.s .d (.c .d .d)) (.s (.b (.s (.q [] [] [.p 0, .p 1, .p 2, .p 4, .p 5, .p 6, .w 3 [3, 8], .w 7 [7, 8], .p 8]) (.c (.s .d .d) .d))) .d))))) (.s .d .d))))

def hist_Cut.j1 (go6 : (Sl × (Int × Unit)) → Heap → Prop) (s4 : (Sl × (Int × Unit))) (s7 : (Sl × Unit)) (h8 : Heap) : Prop :=
    go6 (s7.1, (w64 (s4.2.1 + 1)), ()) h8
def hist_Cut.j2 (go6 : (Sl × (Int × Unit)) → Heap → Prop) (s4 : (Sl × (Int × Unit))) (s11 : (Den kapiCall × Unit)) (h12 : Heap) : Prop :=
    new h12 (([(s11.1.1, (s11.1.2.1, (s11.1.2.2.1, (s11.1.2.2.2.1, (s11.1.2.2.2.2.1, (s11.1.2.2.2.2.2.1, (s11.1.2.2.2.2.2.2.1, ())))))))] : List (Den kapiCall)).flatMap (Kd.cells kapiCall)) fun p13 h14 =>
    appendM 7 56 h14 s4.1 ⟨some p13, 1, 1⟩ fun t15 h16 =>
    hist_Cut.j1 go6 s4 (t15, ()) h16
def hist_Cut.l3 (calls1 : Sl) (pick2 : Int) (Q : Sl → Heap → Prop) (go6 : (Sl × (Int × Unit)) → Heap → Prop) (s4 : (Sl × (Int × Unit))) (h5 : Heap) : Prop :=
    (((decide (s4.2.1 < (calls1.len : Int))) = true →
    (0 ≤ s4.2.1 ∧ s4.2.1 < (calls1.len : Int)) ∧
    deref calls1.a fun a9 =>
    ld kapiCall h5 (a9.add ((s4.2.1 : Int).toNat * 7)) fun t10 =>
    (((decide (pick2 ≤ t10.2.2.2.1)) = true →
    hist_Cut.j1 go6 s4 (s4.1, ()) h5) ∧
    ((decide (pick2 ≤ t10.2.2.2.1)) = false →
    (((decide (pick2 ≤ t10.2.2.2.2.1)) = true →
    hist_Cut.j2 go6 s4 ((t10.1, (t10.2.1, (t10.2.2.1, (t10.2.2.2.1, ((-1), (0, (0, ()))))))), ()) h5) ∧
    ((decide (pick2 ≤ t10.2.2.2.2.1)) = false →
    hist_Cut.j2 go6 s4 ((t10.1, (t10.2.1, (t10.2.2.1, (t10.2.2.2.1, (t10.2.2.2.2.1, (t10.2.2.2.2.2.1, (t10.2.2.2.2.2.2.1, ()))))))), ()) h5))))) ∧
    ((decide (s4.2.1 < (calls1.len : Int))) = false →
    Q s4.1 h5))
def hist_Cut.M  (calls1 : Sl) (pick2 : Int) (h3 : Heap) (Q : Sl → Heap → Prop) : Prop :=
    Loop (hist_Cut.l3 calls1 pick2 Q) (⟨none, 0, 0⟩, 0, ()) h3
def hist_Cut.mk : Mk := (.s .d (.s .d (.s (.s .d (.b (.l [.slot 5 .sl, .slot 10 (.int .i64)] (.s .d (.s (.c .d .d) (.j [.slot 5 .sl] (.b (.s (.r [2]) (.s (.s .d (.c .d .d)) (.j [.box 7 kapiCall] (.s .d (.c .d .d)) .d)))) .d)))))) (.s .d .d))))

def hist_Serial.j1 (go8 : (Int × Unit) → Heap → Prop) (s6 : (Int × Unit)) (s9 : Unit) (h10 : Heap) : Prop :=
    go8 ((w64 (s6.1 + 1)), ()) h10
def hist_Serial.j2 (Q : (Sl × (Sl × (Int × Unit))) → Heap → Prop) (go8 : (Int × Unit) → Heap → Prop) (s6 : (Int × Unit)) (s13 : (Bool × Unit)) (h14 : Heap) : Prop :=
    ((s13.1 = true →
    Q (⟨none, 0, 0⟩, ⟨none, 0, 0⟩, 31, ()) h14) ∧
    (s13.1 = false →
    hist_Serial.j1 go8 s6 () h14))
def hist_Serial.j3 (go17 : (Sl × (Sl × (Int × Unit))) → Heap → Prop) (s15 : (Sl × (Sl × (Int × Unit)))) (s18 : (Sl × (Sl × Unit))) (h19 : Heap) : Prop :=
    go17 (s18.1, s18.2.1, (w64 (s15.2.2.1 + 1)), ()) h19
def hist_Serial.j4 (c_hist_row_does : Sl → Den kapiCall → Int → Heap → ((Sl × (Bool × Unit)) → Heap → Prop) → Prop) (most2 : Int) (go17 : (Sl × (Sl × (Int × Unit))) → Heap → Prop) (s15 : (Sl × (Sl × (Int × Unit)))) (s24 : (Den kapiCall × Unit)) (h25 : Heap) : Prop :=
    c_hist_row_does s15.2.1 (s24.1.1, (s24.1.2.1, (s24.1.2.2.1, (s24.1.2.2.2.1, (s24.1.2.2.2.2.1, (s24.1.2.2.2.2.2.1, (s24.1.2.2.2.2.2.2.1, ()))))))) most2 h25 fun r26 h27 =>
    new h27 (([(s24.1.1, (s24.1.2.1, (s24.1.2.2.1, (s24.1.2.2.2.1, (s24.1.2.2.2.2.1, (s24.1.2.2.2.2.2.1, (s24.1.2.2.2.2.2.2.1, ())))))))] : List (Den kapiCall)).flatMap (Kd.cells kapiCall)) fun p28 h29 =>
    appendM 7 56 h29 s15.1 ⟨some p28, 1, 1⟩ fun t30 h31 =>
    hist_Serial.j3 go17 s15 (t30, r26.1, ()) h31
def hist_Serial.j5 (c_hist_row_does : Sl → Den kapiCall → Int → Heap → ((Sl × (Bool × Unit)) → Heap → Prop) → Prop) (most2 : Int) (go17 : (Sl × (Sl × (Int × Unit))) → Heap → Prop) (s15 : (Sl × (Sl × (Int × Unit)))) (t21 : Den kapiTodo) (s22 : (Den kapiCall × Unit)) (h23 : Heap) : Prop :=
    (((decide (t21.1 = 2)) = true →
    hist_Serial.j4 c_hist_row_does most2 go17 s15 ((1, (s22.1.2.1, (s22.1.2.2.1, (s22.1.2.2.2.1, (s22.1.2.2.2.2.1, (s22.1.2.2.2.2.2.1, (s22.1.2.2.2.2.2.2.1, ()))))))), ()) h23) ∧
    ((decide (t21.1 = 2)) = false →
    hist_Serial.j4 c_hist_row_does most2 go17 s15 ((s22.1.1, (s22.1.2.1, (s22.1.2.2.1, (s22.1.2.2.2.1, (s22.1.2.2.2.2.1, (s22.1.2.2.2.2.2.1, (s22.1.2.2.2.2.2.2.1, ()))))))), ()) h23))
def hist_Serial.l6 (c_hist_row_does : Sl → Den kapiCall → Int → Heap → ((Sl × (Bool × Unit)) → Heap → Prop) → Prop) (c_slices_Clone_int64_int64 : Sl → Heap → (Sl → Heap → Prop) → Prop) (todos1 : Sl) (most2 : Int) (Q : (Sl × (Sl × (Int × Unit))) → Heap → Prop) (go17 : (Sl × (Sl × (Int × Unit))) → Heap → Prop) (s15 : (Sl × (Sl × (Int × Unit)))) (h16 : Heap) : Prop :=
    (((decide (s15.2.2.1 < (todos1.len : Int))) = true →
    (0 ≤ s15.2.2.1 ∧ s15.2.2.1 < (todos1.len : Int)) ∧
    deref todos1.a fun a20 =>
    ld kapiTodo h16 (a20.add ((s15.2.2.1 : Int).toNat * 2)) fun t21 =>
    (((decide (t21.1 = 0)) = true →
    (((decide ((s15.2.1.len : Int) = most2)) = true →
    hist_Serial.j5 c_hist_row_does most2 go17 s15 t21 ((0, (t21.1, (t21.2.1, (s15.2.2.1, (s15.2.2.1, (3, (0, ()))))))), ()) h16) ∧
    ((decide ((s15.2.1.len : Int) = most2)) = false →
    hist_Serial.j5 c_hist_row_does most2 go17 s15 t21 ((0, (t21.1, (t21.2.1, (s15.2.2.1, (s15.2.2.1, (2, (0, ()))))))), ()) h16))) ∧
    ((decide (t21.1 = 0)) = false →
    (((decide ((s15.2.1.len : Int) = 0)) = true →
    hist_Serial.j5 c_hist_row_does most2 go17 s15 t21 ((0, (t21.1, (0, (s15.2.2.1, (s15.2.2.1, (5, (0, ()))))))), ()) h16) ∧
    ((decide ((s15.2.1.len : Int) = 0)) = false →
    (((decide (t21.1 = 1)) = true →
    (0 ≤ (w64 ((s15.2.1.len : Int) - 1)) ∧ (w64 ((s15.2.1.len : Int) - 1)) < (s15.2.1.len : Int)) ∧
    deref s15.2.1.a fun a32 =>
    ld ((.int .i64) : Kd) h16 (a32.add (((w64 ((s15.2.1.len : Int) - 1)) : Int).toNat * 1)) fun t33 =>
    hist_Serial.j5 c_hist_row_does most2 go17 s15 t21 ((0, (t21.1, (0, (s15.2.2.1, (s15.2.2.1, (4, (t33, ()))))))), ()) h16) ∧
    ((decide (t21.1 = 1)) = false →
    (0 ≤ (0 : Int) ∧ (0 : Int) < (s15.2.1.len : Int)) ∧
    deref s15.2.1.a fun a34 =>
    ld ((.int .i64) : Kd) h16 (a34.add (((0 : Int) : Int).toNat * 1)) fun t35 =>
    hist_Serial.j5 c_hist_row_does most2 go17 s15 t21 ((0, (t21.1, (0, (s15.2.2.1, (s15.2.2.1, (4, (t35, ()))))))), ()) h16))))))) ∧
    ((decide (s15.2.2.1 < (todos1.len : Int))) = false →
    c_slices_Clone_int64_int64 s15.2.1 h16 fun r36 h37 =>
    Q (s15.1, r36, 0, ()) h37))
def hist_Serial.l7 (c_hist_row_does : Sl → Den kapiCall → Int → Heap → ((Sl × (Bool × Unit)) → Heap → Prop) → Prop) (c_slices_Clone_int64_int64 : Sl → Heap → (Sl → Heap → Prop) → Prop) (todos1 : Sl) (most2 : Int) (Q : (Sl × (Sl × (Int × Unit))) → Heap → Prop) (go8 : (Int × Unit) → Heap → Prop) (s6 : (Int × Unit)) (h7 : Heap) : Prop :=
    (((decide (s6.1 < (todos1.len : Int))) = true →
    (0 ≤ s6.1 ∧ s6.1 < (todos1.len : Int)) ∧
    deref todos1.a fun a11 =>
    ld kapiTodo h7 (a11.add ((s6.1 : Int).toNat * 2)) fun t12 =>
    (((decide (t12.1 ≠ 0)) = true →
    (((decide (t12.1 ≠ 1)) = true →
    hist_Serial.j2 Q go8 s6 ((decide (t12.1 ≠ 2)), ()) h7) ∧
    ((decide (t12.1 ≠ 1)) = false →
    hist_Serial.j2 Q go8 s6 (false, ()) h7))) ∧
    ((decide (t12.1 ≠ 0)) = false →
    hist_Serial.j2 Q go8 s6 (false, ()) h7))) ∧
    ((decide (s6.1 < (todos1.len : Int))) = false →
    Loop (hist_Serial.l6 c_hist_row_does c_slices_Clone_int64_int64 todos1 most2 Q) (⟨none, 0, 0⟩, ⟨none, 0, 0⟩, 0, ()) h7))
def hist_Serial.M (c_hist_goodMost : Int → Heap → (Bool → Heap → Prop) → Prop) (c_hist_row_does : Sl → Den kapiCall → Int → Heap → ((Sl × (Bool × Unit)) → Heap → Prop) → Prop) (c_slices_Clone_int64_int64 : Sl → Heap → (Sl → Heap → Prop) → Prop) (todos1 : Sl) (most2 : Int) (h3 : Heap) (Q : (Sl × (Sl × (Int × Unit))) → Heap → Prop) : Prop :=
    (((decide ((40 : Int) < (todos1.len : Int))) = true →
    Q (⟨none, 0, 0⟩, ⟨none, 0, 0⟩, 2, ()) h3) ∧
    ((decide ((40 : Int) < (todos1.len : Int))) = false →
    c_hist_goodMost most2 h3 fun r4 h5 =>
    (((!r4) = true →
    Q (⟨none, 0, 0⟩, ⟨none, 0, 0⟩, 3, ()) h5) ∧
    ((!r4) = false →
    Loop (hist_Serial.l7 c_hist_row_does c_slices_Clone_int64_int64 todos1 most2 Q) (0, ()) h5))))
def hist_Serial.mk : Mk := (.s .d (.s (.s .d (.c (.s .d .d) .d)) (.s (.s .d (.c (.s .d .d) .d)) (.s (.s .d (.b (.l [.slot 22 (.int .i64)] (.s .d (.s (.c .d .d) (.j [] (.b (.s (.r [2]) (.j [.slot 38 .bool] .d (.c (.s .d .d) .d)))) .d)))))) (.s .d (.s .d (.s (.s .d (.b (.l [.slot 9 .sl, .slot 10 .sl, .slot 42 (.int .i64)] (.s .d (.s (.c .d .d) (.j [.slot 9 .sl, .slot 10 .sl] (.b (.s (.r [3]) (.s (.r [5]) (.j [.box 13 kapiCall] (.b (.s .d (.c (.s .d (.s .d (.c .d .d))) (.s .d (.c .d (.s .d (.c (.q [] [13] [.p 0, .p 1, .p 2, .p 3, .p 4, .p 6, .w 5 [5, 8, 9], .o 7, .p 8, .o 9]) (.q [] [13] [.p 0, .p 1, .p 3, .w 2 [2, 5, 6], .o 4, .p 5, .o 6])))))))) (.j [.box 13 kapiCall] (.s .d (.c .d .d)) (.s .d .d)))))) .d)))))) (.s .d .d))))))))

def law4_sameInts.l1 (a1 : Sl) (b2 : Sl) (Q : Bool → Heap → Prop) (go6 : (Int × Unit) → Heap → Prop) (s4 : (Int × Unit)) (h5 : Heap) : Prop :=
    (((decide (s4.1 < (a1.len : Int))) = true →
    (0 ≤ s4.1 ∧ s4.1 < (a1.len : Int)) ∧
    deref a1.a fun a7 =>
    (0 ≤ s4.1 ∧ s4.1 < (b2.len : Int)) ∧
    deref b2.a fun a8 =>
    ld ((.int .i64) : Kd) h5 (a7.add ((s4.1 : Int).toNat * 1)) fun t9 =>
    ld ((.int .i64) : Kd) h5 (a8.add ((s4.1 : Int).toNat * 1)) fun t10 =>
    (((decide (t9 ≠ t10)) = true →
    Q false h5) ∧
    ((decide (t9 ≠ t10)) = false →
    go6 ((w64 (s4.1 + 1)), ()) h5))) ∧
    ((decide (s4.1 < (a1.len : Int))) = false →
    Q true h5))
def law4_sameInts.M  (a1 : Sl) (b2 : Sl) (h3 : Heap) (Q : Bool → Heap → Prop) : Prop :=
    (((decide ((a1.len : Int) ≠ (b2.len : Int))) = true →
    Q false h3) ∧
    ((decide ((a1.len : Int) ≠ (b2.len : Int))) = false →
    Loop (law4_sameInts.l1 a1 b2 Q) (0, ()) h3))
def law4_sameInts.mk : Mk := (.s .d (.s (.s .d (.c (.s .d .d) .d)) (.s (.s .d (.b (.l [.slot 5 (.int .i64)] (.s (.s .d (.c .d .d)) (.s (.b (.s (.q [] [] [.p 0, .p 1, .p 2, .p 4, .p 5, .p 6, .w 3 [3, 8], .w 7 [7, 8], .p 8]) (.c (.s .d .d) .d))) .d))))) (.s .d .d))))

def hist_Order.l1 (c_hist_search_from : Option Addr → (Fin 4 → Int) → Sl → Heap → (Bool → Heap → Prop) → Prop) (c_slices_Clone_int_int : Sl → Heap → (Sl → Heap → Prop) → Prop) (calls1 : Sl) (Q : (Sl × (Int × Unit)) → Heap → Prop) (p10 : Addr) (go14 : (Int × Unit) → Heap → Prop) (s12 : (Int × Unit)) (h13 : Heap) : Prop :=
    (((decide (s12.1 < (calls1.len : Int))) = true →
    (0 ≤ s12.1 ∧ s12.1 < (calls1.len : Int)) ∧
    deref calls1.a fun a15 =>
    ld kapiCall h13 (a15.add ((s12.1 : Int).toNat * 7)) fun t16 =>
    (0 ≤ t16.1 ∧ t16.1 < (4 : Int)) ∧
    ld (.sl : Kd) h13 ((p10.add 2).add ((t16.1 : Int).toNat * 1)) fun t17 =>
    new h13 (([s12.1] : List (Den ((.int .i64) : Kd))).flatMap (Kd.cells ((.int .i64) : Kd))) fun p18 h19 =>
    appendM 1 8 h19 t17 ⟨some p18, 1, 1⟩ fun t20 h21 =>
    (0 ≤ t16.1 ∧ t16.1 < (4 : Int)) ∧
    st (.sl : Kd) h21 ((p10.add 2).add ((t16.1 : Int).toNat * 1)) t20 fun h22 =>
    go14 ((w64 (s12.1 + 1)), ()) h22) ∧
    ((decide (s12.1 < (calls1.len : Int))) = false →
    c_hist_search_from (some p10) (Kd.zero ((.arr 4 (.int .i64)) : Kd)) ⟨none, 0, 0⟩ h13 fun r23 h24 =>
    (((!r23) = true →
    Q (⟨none, 0, 0⟩, 41, ()) h24) ∧
    ((!r23) = false →
    ld (.sl : Kd) h24 (p10.add 7) fun t25 =>
    c_slices_Clone_int_int t25 h24 fun r26 h27 =>
    Q (r26, 0, ()) h27))))
def hist_Order.M (c_hist_goodMost : Int → Heap → (Bool → Heap → Prop) → Prop) (c_hist_history : Sl → Heap → (Bool → Heap → Prop) → Prop) (c_hist_search_from : Option Addr → (Fin 4 → Int) → Sl → Heap → (Bool → Heap → Prop) → Prop) (c_slices_Clone_int_int : Sl → Heap → (Sl → Heap → Prop) → Prop) (calls1 : Sl) (most2 : Int) (h3 : Heap) (Q : (Sl × (Int × Unit)) → Heap → Prop) : Prop :=
    (((decide ((40 : Int) < (calls1.len : Int))) = true →
    Q (⟨none, 0, 0⟩, 2, ()) h3) ∧
    ((decide ((40 : Int) < (calls1.len : Int))) = false →
    c_hist_goodMost most2 h3 fun r4 h5 =>
    (((!r4) = true →
    Q (⟨none, 0, 0⟩, 3, ()) h5) ∧
    ((!r4) = false →
    c_hist_history calls1 h5 fun r6 h7 =>
    (((!r6) = true →
    Q (⟨none, 0, 0⟩, 40, ()) h7) ∧
    ((!r6) = false →
    mapNew h7 fun m8 h9 =>
    new h9 (khistsearch.cells (calls1, (most2, ((fun _ => Sl.none), ((some m8), (Sl.none, ())))))) fun p10 h11 =>
    Loop (hist_Order.l1 c_hist_search_from c_slices_Clone_int_int calls1 Q p10) (0, ()) h11))))))
def hist_Order.mk : Mk := (.s .d (.s (.b (.s .d (.c (.s .d .d) (.s .d (.c (.s .d .d) (.s .d (.c (.s .d .d) .d))))))) (.s .d (.s (.s .d (.b (.l [.slot 28 (.int .i64)] (.s .d (.s (.c .d .d) (.s (.b (.s (.r [3]) (.q [] [] [.p 0, .p 1, .p 3, .p 4, .p 6, .p 7, .p 10, .p 13, .p 14, .w 2 [2, 15, 16], .w 5 [5, 8, 9, 12, 15, 16], .p 8, .w 9 [9, 12, 15, 16], .o 11, .o 12, .p 15, .o 16]))) .d)))))) (.s (.s .d (.c (.s .d .d) .d)) (.s .d .d))))))

def ref4_Legal.M (c_ref4_Bad : Sl → Int → Heap → (Int → Heap → Prop) → Prop) (c_ref4_Replay : Sl → Int → Sl → Heap → ((Sl × (Bool × Unit)) → Heap → Prop) → Prop) (calls1 : Sl) (most2 : Int) (order3 : Sl) (h4 : Heap) (Q : Bool → Heap → Prop) : Prop :=
    c_ref4_Bad calls1 most2 h4 fun r5 h6 =>
    (((decide (r5 ≠ 0)) = true →
    Q false h6) ∧
    ((decide (r5 ≠ 0)) = false →
    c_ref4_Replay calls1 most2 order3 h6 fun r7 h8 =>
    Q r7.2.1 h8))
def ref4_Legal.mk : Mk := (.s .d (.s (.s .d (.c (.s .d .d) .d)) (.s .d (.s .d .d))))

def ref4_Replay.j1 (go9 : (Sl × (Int × Unit)) → Heap → Prop) (s7 : (Sl × (Int × Unit))) (s10 : (Sl × Unit)) (h11 : Heap) : Prop :=
    go9 (s10.1, (w64 (s7.2.1 + 1)), ()) h11
def ref4_Replay.l2 (c_ref4_ahead : Den kapiCall → Den kapiCall → Heap → (Bool → Heap → Prop) → Prop) (c_ref4_Do : Sl → Den kapiCall → Int → Heap → ((Sl × (Bool × Unit)) → Heap → Prop) → Prop) (calls1 : Sl) (most2 : Int) (order3 : Sl) (Q : (Sl × (Bool × Unit)) → Heap → Prop) (s5 : Sl) (go9 : (Sl × (Int × Unit)) → Heap → Prop) (s7 : (Sl × (Int × Unit))) (t13 : Int) (go18 : (Int × Unit) → Heap → Prop) (s16 : (Int × Unit)) (h17 : Heap) : Prop :=
    (((decide (s16.1 < s7.2.1)) = true →
    (0 ≤ t13 ∧ t13 < (calls1.len : Int)) ∧
    deref calls1.a fun a19 =>
    (0 ≤ s16.1 ∧ s16.1 < (order3.len : Int)) ∧
    deref order3.a fun a20 =>
    ld kapiCall h17 (a19.add ((t13 : Int).toNat * 7)) fun t21 =>
    ld ((.int .i64) : Kd) h17 (a20.add ((s16.1 : Int).toNat * 1)) fun t22 =>
    (0 ≤ t22 ∧ t22 < (calls1.len : Int)) ∧
    deref calls1.a fun a23 =>
    ld kapiCall h17 (a23.add ((t22 : Int).toNat * 7)) fun t24 =>
    c_ref4_ahead t21 t24 h17 fun r25 h26 =>
    ((r25 = true →
    Q (⟨none, 0, 0⟩, false, ()) h26) ∧
    (r25 = false →
    go18 ((w64 (s16.1 + 1)), ()) h26))) ∧
    ((decide (s16.1 < s7.2.1)) = false →
    (0 ≤ t13 ∧ t13 < (s5.len : Int)) ∧
    deref s5.a fun a27 =>
    st (.bool : Kd) h17 (a27.add ((t13 : Int).toNat * 1)) true fun h28 =>
    (0 ≤ t13 ∧ t13 < (calls1.len : Int)) ∧
    deref calls1.a fun a29 =>
    ld kapiCall h28 (a29.add ((t13 : Int).toNat * 7)) fun t30 =>
    c_ref4_Do s7.1 t30 most2 h28 fun r31 h32 =>
    (((!r31.2.1) = true →
    Q (⟨none, 0, 0⟩, false, ()) h32) ∧
    ((!r31.2.1) = false →
    ref4_Replay.j1 go9 s7 (r31.1, ()) h32))))
def ref4_Replay.j3 (c_ref4_ahead : Den kapiCall → Den kapiCall → Heap → (Bool → Heap → Prop) → Prop) (c_ref4_Do : Sl → Den kapiCall → Int → Heap → ((Sl × (Bool × Unit)) → Heap → Prop) → Prop) (calls1 : Sl) (most2 : Int) (order3 : Sl) (Q : (Sl × (Bool × Unit)) → Heap → Prop) (s5 : Sl) (go9 : (Sl × (Int × Unit)) → Heap → Prop) (s7 : (Sl × (Int × Unit))) (t13 : Int) (s14 : Unit) (h15 : Heap) : Prop :=
    Loop (ref4_Replay.l2 c_ref4_ahead c_ref4_Do calls1 most2 order3 Q s5 go9 s7 t13) (0, ()) h15
def ref4_Replay.j4 (c_ref4_ahead : Den kapiCall → Den kapiCall → Heap → (Bool → Heap → Prop) → Prop) (c_ref4_Do : Sl → Den kapiCall → Int → Heap → ((Sl × (Bool × Unit)) → Heap → Prop) → Prop) (calls1 : Sl) (most2 : Int) (order3 : Sl) (Q : (Sl × (Bool × Unit)) → Heap → Prop) (s5 : Sl) (go9 : (Sl × (Int × Unit)) → Heap → Prop) (s7 : (Sl × (Int × Unit))) (t13 : Int) (s33 : (Bool × Unit)) (h34 : Heap) : Prop :=
    ((s33.1 = true →
    Q (⟨none, 0, 0⟩, false, ()) h34) ∧
    (s33.1 = false →
    ref4_Replay.j3 c_ref4_ahead c_ref4_Do calls1 most2 order3 Q s5 go9 s7 t13 () h34))
def ref4_Replay.j5 (go39 : (Int × Unit) → Heap → Prop) (s37 : (Int × Unit)) (s40 : Unit) (h41 : Heap) : Prop :=
    go39 ((w64 (s37.1 + 1)), ()) h41
def ref4_Replay.j6 (Q : (Sl × (Bool × Unit)) → Heap → Prop) (go39 : (Int × Unit) → Heap → Prop) (s37 : (Int × Unit)) (s42 : (Bool × Unit)) (h43 : Heap) : Prop :=
    ((s42.1 = true →
    Q (⟨none, 0, 0⟩, false, ()) h43) ∧
    (s42.1 = false →
    ref4_Replay.j5 go39 s37 () h43))
def ref4_Replay.l7 (calls1 : Sl) (Q : (Sl × (Bool × Unit)) → Heap → Prop) (s5 : Sl) (s7 : (Sl × (Int × Unit))) (go39 : (Int × Unit) → Heap → Prop) (s37 : (Int × Unit)) (h38 : Heap) : Prop :=
    (((decide (s37.1 < (calls1.len : Int))) = true →
    (0 ≤ s37.1 ∧ s37.1 < (calls1.len : Int)) ∧
    deref calls1.a fun a44 =>
    ld ((.int .i64) : Kd) h38 ((a44.add ((s37.1 : Int).toNat * 7)).add 4) fun t45 =>
    (((decide ((0 : Int) ≤ t45)) = true →
    (0 ≤ s37.1 ∧ s37.1 < (s5.len : Int)) ∧
    deref s5.a fun a46 =>
    ld (.bool : Kd) h38 (a46.add ((s37.1 : Int).toNat * 1)) fun t47 =>
    ref4_Replay.j6 Q go39 s37 ((!t47), ()) h38) ∧
    ((decide ((0 : Int) ≤ t45)) = false →
    ref4_Replay.j6 Q go39 s37 (false, ()) h38))) ∧
    ((decide (s37.1 < (calls1.len : Int))) = false →
    Q (s7.1, true, ()) h38))
def ref4_Replay.l8 (c_ref4_ahead : Den kapiCall → Den kapiCall → Heap → (Bool → Heap → Prop) → Prop) (c_ref4_Do : Sl → Den kapiCall → Int → Heap → ((Sl × (Bool × Unit)) → Heap → Prop) → Prop) (calls1 : Sl) (most2 : Int) (order3 : Sl) (Q : (Sl × (Bool × Unit)) → Heap → Prop) (s5 : Sl) (go9 : (Sl × (Int × Unit)) → Heap → Prop) (s7 : (Sl × (Int × Unit))) (h8 : Heap) : Prop :=
    (((decide (s7.2.1 < (order3.len : Int))) = true →
    (0 ≤ s7.2.1 ∧ s7.2.1 < (order3.len : Int)) ∧
    deref order3.a fun a12 =>
    ld ((.int .i64) : Kd) h8 (a12.add ((s7.2.1 : Int).toNat * 1)) fun t13 =>
    (((decide (t13 < 0)) = true →
    ref4_Replay.j4 c_ref4_ahead c_ref4_Do calls1 most2 order3 Q s5 go9 s7 t13 (true, ()) h8) ∧
    ((decide (t13 < 0)) = false →
    (((decide ((calls1.len : Int) ≤ t13)) = true →
    ref4_Replay.j4 c_ref4_ahead c_ref4_Do calls1 most2 order3 Q s5 go9 s7 t13 (true, ()) h8) ∧
    ((decide ((calls1.len : Int) ≤ t13)) = false →
    (0 ≤ t13 ∧ t13 < (s5.len : Int)) ∧
    deref s5.a fun a35 =>
    ld (.bool : Kd) h8 (a35.add ((t13 : Int).toNat * 1)) fun t36 =>
    ref4_Replay.j4 c_ref4_ahead c_ref4_Do calls1 most2 order3 Q s5 go9 s7 t13 (t36, ()) h8))))) ∧
    ((decide (s7.2.1 < (order3.len : Int))) = false →
    Loop (ref4_Replay.l7 calls1 Q s5 s7) (0, ()) h8))
def ref4_Replay.M (c_ref4_ahead : Den kapiCall → Den kapiCall → Heap → (Bool → Heap → Prop) → Prop) (c_ref4_Do : Sl → Den kapiCall → Int → Heap → ((Sl × (Bool × Unit)) → Heap → Prop) → Prop) (calls1 : Sl) (most2 : Int) (order3 : Sl) (h4 : Heap) (Q : (Sl × (Bool × Unit)) → Heap → Prop) : Prop :=
    makeM (.bool : Kd) 1 h4 (calls1.len : Int) (calls1.len : Int) fun s5 h6 =>
    Loop (ref4_Replay.l8 c_ref4_ahead c_ref4_Do calls1 most2 order3 Q s5) (⟨none, 0, 0⟩, 0, ()) h6
def ref4_Replay.mk : Mk := (.s .d (.s .d (.s .d (.s (.s .d (.b (.l [.slot 8 .sl, .slot 10 (.int .i64)] (.s (.s .d (.c .d .d)) (.j [.slot 8 .sl] (.b (.s .d (.j [] (.j [.slot 42 .bool] .d (.c (.s .d .d) .d)) (.s (.s .d (.b (.l [.slot 12 (.int .i64)] (.s (.s .d (.c .d .d)) (.s (.b (.s (.q [] [] [.p 0, .p 1, .p 2, .p 4, .p 5, .p 6, .p 7, .w 3 [3, 11], .w 8 [8, 9, 10, 11], .p 9, .w 10 [10, 11], .o 11]) (.c (.s .d .d) .d))) .d))))) (.s .d (.s .d (.s (.s .d (.c (.s .d .d) .d)) .d))))))) .d))))) (.s (.s .d (.b (.l [.slot 15 (.int .i64)] (.s (.s .d (.c .d .d)) (.j [] (.b (.j [.slot 94 .bool] .d (.c (.s .d .d) .d))) .d))))) (.s .d .d))))))

def law3_capsOK.M  (first1 : Int) (most2 : Int) (h3 : Heap) (Q : Bool → Heap → Prop) : Prop :=
    (((decide ((1 : Int) ≤ first1)) = true →
    (((decide (first1 ≤ most2)) = true →
    Q (decide (most2 ≤ 4096)) h3) ∧
    ((decide (first1 ≤ most2)) = false →
    Q false h3))) ∧
    ((decide ((1 : Int) ≤ first1)) = false →
    Q false h3))
def law3_capsOK.mk : Mk := (.s .d (.s .d .d))

def deque_judged.j1 (go11 : (Int × Unit) → Heap → Prop) (s9 : (Int × Unit)) (s12 : Unit) (h13 : Heap) : Prop :=
    go11 ((w64 (s9.1 + 1)), ()) h13
def deque_judged.j2 (Q : Int → Heap → Prop) (go11 : (Int × Unit) → Heap → Prop) (s9 : (Int × Unit)) (s16 : (Bool × Unit)) (h17 : Heap) : Prop :=
    ((s16.1 = true →
    Q 31 h17) ∧
    (s16.1 = false →
    deque_judged.j1 go11 s9 () h17))
def deque_judged.l3 (todos3 : Sl) (Q : Int → Heap → Prop) (go11 : (Int × Unit) → Heap → Prop) (s9 : (Int × Unit)) (h10 : Heap) : Prop :=
    (((decide (s9.1 < (todos3.len : Int))) = true →
    (0 ≤ s9.1 ∧ s9.1 < (todos3.len : Int)) ∧
    deref todos3.a fun a14 =>
    ld kapiTodo h10 (a14.add ((s9.1 : Int).toNat * 2)) fun t15 =>
    (((decide (t15.1 ≠ 0)) = true →
    deque_judged.j2 Q go11 s9 ((decide (t15.1 ≠ 1)), ()) h10) ∧
    ((decide (t15.1 ≠ 0)) = false →
    deque_judged.j2 Q go11 s9 (false, ()) h10))) ∧
    ((decide (s9.1 < (todos3.len : Int))) = false →
    Q 0 h10))
def deque_judged.j4 (todos3 : Sl) (Q : Int → Heap → Prop) (s7 : Unit) (h8 : Heap) : Prop :=
    Loop (deque_judged.l3 todos3 Q) (0, ()) h8
def deque_judged.j5 (todos3 : Sl) (Q : Int → Heap → Prop) (s22 : (Bool × Unit)) (h23 : Heap) : Prop :=
    ((s22.1 = true →
    Q 3 h23) ∧
    (s22.1 = false →
    deque_judged.j4 todos3 Q () h23))
def deque_judged.j6 (c_deque_capsOK : Int → Int → Heap → (Bool → Heap → Prop) → Prop) (low1 : Int) (most2 : Int) (todos3 : Sl) (thieves4 : Int) (Q : Int → Heap → Prop) (s18 : (Bool × Unit)) (h19 : Heap) : Prop :=
    ((s18.1 = true →
    Q 2 h19) ∧
    (s18.1 = false →
    c_deque_capsOK low1 most2 h19 fun r20 h21 =>
    (((!r20) = true →
    Q 30 h21) ∧
    ((!r20) = false →
    (((decide (thieves4 < 0)) = true →
    deque_judged.j5 todos3 Q (true, ()) h21) ∧
    ((decide (thieves4 < 0)) = false →
    deque_judged.j5 todos3 Q ((decide ((3 : Int) < thieves4)), ()) h21))))))
def deque_judged.M (c_deque_capsOK : Int → Int → Heap → (Bool → Heap → Prop) → Prop) (low1 : Int) (most2 : Int) (todos3 : Sl) (thieves4 : Int) (picks5 : Sl) (h6 : Heap) (Q : Int → Heap → Prop) : Prop :=
    (((decide ((4096 : Int) < (todos3.len : Int))) = true →
    deque_judged.j6 c_deque_capsOK low1 most2 todos3 thieves4 Q (true, ()) h6) ∧
    ((decide ((4096 : Int) < (todos3.len : Int))) = false →
    deque_judged.j6 c_deque_capsOK low1 most2 todos3 thieves4 Q ((decide ((1048576 : Int) < (picks5.len : Int))), ()) h6))
def deque_judged.mk : Mk := (.s .d (.j [] (.b (.j [.slot 13 .bool] .d (.c (.s .d .d) (.s .d (.c (.s .d .d) (.j [.slot 27 .bool] .d (.c (.s .d .d) .d))))))) (.s (.s .d (.b (.l [.slot 36 (.int .i64)] (.s .d (.s (.c .d .d) (.j [] (.b (.s (.r [2]) (.j [.slot 47 .bool] .d (.c (.s .d .d) .d)))) .d)))))) (.s .d .d))))

def cells_New.M (c_cells_good : Int → Heap → (Bool → Heap → Prop) → Prop) (size1 : Int) (h2 : Heap) (Q : (Option Addr × (Int × Unit)) → Heap → Prop) : Prop :=
    c_cells_good size1 h2 fun r3 h4 =>
    (((!r3) = true →
    Q (none, 3, ()) h4) ∧
    ((!r3) = false →
    new h4 (kcellsArena.cells ((size1, (0, ())), (Sl.none, (Sl.none, (0, (false, ())))))) fun p5 h6 =>
    Q ((some p5), 0, ()) h6))
def cells_New.mk : Mk := (.s .d (.s (.s .d (.c (.s .d .d) .d)) (.s .d .d)))

def deque_Cells.l1 (most2 : Int) (Q : Int → Heap → Prop) (go8 : Den kapiTodo → Heap → Prop) (s6 : Den kapiTodo) (h7 : Heap) : Prop :=
    (((decide (s6.2.1 < most2)) = true →
    go8 ((w64 (s6.1 + (w64 (1 + (if most2 < (w64 (2 * s6.2.1)) then most2 else (w64 (2 * s6.2.1))))))), (if most2 < (w64 (2 * s6.2.1)) then most2 else (w64 (2 * s6.2.1))), ()) h7) ∧
    ((decide (s6.2.1 < most2)) = false →
    Q s6.1 h7))
def deque_Cells.M (c_deque_capsOK : Int → Int → Heap → (Bool → Heap → Prop) → Prop) (low1 : Int) (most2 : Int) (h3 : Heap) (Q : Int → Heap → Prop) : Prop :=
    c_deque_capsOK low1 most2 h3 fun r4 h5 =>
    (((!r4) = true →
    Q 0 h5) ∧
    ((!r4) = false →
    Loop (deque_Cells.l1 most2 Q) ((w64 (4 + low1)), low1, ()) h5))
def deque_Cells.mk : Mk := (.s .d (.s (.s .d (.c (.s .d .d) .d)) (.s .d (.s (.s .d (.b (.l [.slot 5 (.int .i64), .slot 6 (.int .i64)] (.s (.s .d (.c .d .d)) (.b (.s .d .d)))))) (.s .d .d)))))

def deque_New.M (c_deque_capsOK : Int → Int → Heap → (Bool → Heap → Prop) → Prop) (c_inv_Reserve : Value → Int → Heap → (Den kapiTodo → Heap → Prop) → Prop) (c_inv_Store : Value → Int → Int → Heap → (Int → Heap → Prop) → Prop) (m1 : Value) (low2 : Int) (most3 : Int) (h4 : Heap) (Q : (Den kapiTodo × (Int × Unit)) → Heap → Prop) : Prop :=
    isI m1 ∧
    (((isNilI m1) = true →
    Q ((0, (0, ())), 1, ()) h4) ∧
    ((isNilI m1) = false →
    c_deque_capsOK low2 most3 h4 fun r5 h6 =>
    (((!r5) = true →
    Q ((0, (0, ())), 30, ()) h6) ∧
    ((!r5) = false →
    c_inv_Reserve m1 (w64 (4 + low2)) h6 fun r7 h8 =>
    (((decide (r7.2.1 ≠ 0)) = true →
    Q ((0, (0, ())), r7.2.1, ()) h8) ∧
    ((decide (r7.2.1 ≠ 0)) = false →
    c_inv_Store m1 (w64 (r7.1 + 2)) (w64 (r7.1 + 3)) h8 fun r9 h10 =>
    (((decide (r9 ≠ 0)) = true →
    Q ((0, (0, ())), r9, ()) h10) ∧
    ((decide (r9 ≠ 0)) = false →
    c_inv_Store m1 (w64 (r7.1 + 3)) low2 h10 fun r11 h12 =>
    (((decide (r11 ≠ 0)) = true →
    Q ((0, (0, ())), r11, ()) h12) ∧
    ((decide (r11 ≠ 0)) = false →
    Q ((r7.1, (most3, ())), 0, ()) h12))))))))))
def deque_New.mk : Mk := (.s (.r [0]) (.s (.s .d (.c (.s .d .d) .d)) (.s (.s .d (.c (.s .d .d) .d)) (.s .d (.s (.s .d (.c (.s .d .d) .d)) (.s (.s .d (.s .d (.c (.s .d .d) .d))) (.s (.s .d (.s .d (.c (.s .d .d) .d))) (.s .d .d))))))))

def cells_Arena_Watch.M  (a1 : Option Addr) (on2 : Bool) (h3 : Heap) (Q : Unit → Heap → Prop) : Prop :=
    (((Option.isSome a1) = true →
    deref a1 fun a4 =>
    st (.bool : Kd) h3 (a4.add 5) on2 fun h5 =>
    Q () h5) ∧
    ((Option.isSome a1) = false →
    Q () h3))
def cells_Arena_Watch.mk : Mk := (.s .d (.c .d .d))

def deque_game_step.j1 (c_cells_Arena_Who : Option Addr → Int → Heap → (Unit → Heap → Prop) → Prop) (c_deque_Step : Value → Den kdequeOp → Heap → (Den kdequeOp → Heap → Prop) → Prop) (c_deque_Answer : Den kdequeOp → Heap → (Den kapiTodo → Heap → Prop) → Prop) (g1 : Option Addr) (n2 : Int) (who3 : Int) (Q : Unit → Heap → Prop) (s5 : Unit) (h6 : Heap) : Prop :=
    deref g1 fun a7 =>
    ld (.sl : Kd) h6 (a7.add 4) fun t8 =>
    (0 ≤ who3 ∧ who3 < (t8.len : Int)) ∧
    deref t8.a fun a9 =>
    deref g1 fun a10 =>
    ld (.ptr : Kd) h6 (a10.add 0) fun t11 =>
    c_cells_Arena_Who t11 who3 h6 fun r12 h13 =>
    deref g1 fun a14 =>
    ld (.ptr : Kd) h13 (a14.add 0) fun t15 =>
    ld kdequeOp h13 ((a9.add ((who3 : Int).toNat * 17)).add 0) fun t16 =>
    c_deque_Step (Value.iface 62 (Kd.val (.ptr : Kd) t15)) t16 h13 fun r17 h18 =>
    st kdequeOp h18 ((a9.add ((who3 : Int).toNat * 17)).add 0) r17 fun h19 =>
    ld kdequeOp h19 ((a9.add ((who3 : Int).toNat * 17)).add 0) fun t20 =>
    c_deque_Answer t20 h19 fun r21 h22 =>
    (((decide (r21.1 = 0)) = true →
    Q () h22) ∧
    ((decide (r21.1 = 0)) = false →
    deref g1 fun a23 =>
    ld (.sl : Kd) h22 (a23.add 5) fun t24 =>
    ld ((.int .i64) : Kd) h22 ((a9.add ((who3 : Int).toNat * 17)).add 16) fun t25 =>
    (0 ≤ t25 ∧ t25 < (t24.len : Int)) ∧
    deref t24.a fun a26 =>
    st ((.int .i64) : Kd) h22 ((a26.add ((t25 : Int).toNat * 7)).add 4) n2 fun h27 =>
    st ((.int .i64) : Kd) h27 ((a26.add ((t25 : Int).toNat * 7)).add 5) r21.1 fun h28 =>
    st ((.int .i64) : Kd) h28 ((a26.add ((t25 : Int).toNat * 7)).add 6) r21.2.1 fun h29 =>
    st ((.int .i64) : Kd) h29 ((a9.add ((who3 : Int).toNat * 17)).add 16) (-1) fun h30 =>
    Q () h30))
def deque_game_step.j2 (c_cells_Arena_Who : Option Addr → Int → Heap → (Unit → Heap → Prop) → Prop) (c_deque_Step : Value → Den kdequeOp → Heap → (Den kdequeOp → Heap → Prop) → Prop) (c_deque_Answer : Den kdequeOp → Heap → (Den kapiTodo → Heap → Prop) → Prop) (g1 : Option Addr) (n2 : Int) (who3 : Int) (Q : Unit → Heap → Prop) (s31 : (Bool × Unit)) (h32 : Heap) : Prop :=
    ((s31.1 = true →
    Q () h32) ∧
    (s31.1 = false →
    deque_game_step.j1 c_cells_Arena_Who c_deque_Step c_deque_Answer g1 n2 who3 Q () h32))
def deque_game_step.M (c_deque_game_begin : Option Addr → Int → Int → Heap → (Bool → Heap → Prop) → Prop) (c_cells_Arena_Who : Option Addr → Int → Heap → (Unit → Heap → Prop) → Prop) (c_deque_Step : Value → Den kdequeOp → Heap → (Den kdequeOp → Heap → Prop) → Prop) (c_deque_Answer : Den kdequeOp → Heap → (Den kapiTodo → Heap → Prop) → Prop) (g1 : Option Addr) (n2 : Int) (who3 : Int) (h4 : Heap) (Q : Unit → Heap → Prop) : Prop :=
    deref g1 fun a33 =>
    ld (.sl : Kd) h4 (a33.add 4) fun t34 =>
    (0 ≤ who3 ∧ who3 < (t34.len : Int)) ∧
    deref t34.a fun a35 =>
    ld ((.int .i64) : Kd) h4 ((a35.add ((who3 : Int).toNat * 17)).add 16) fun t36 =>
    (((decide (t36 < 0)) = true →
    c_deque_game_begin g1 n2 who3 h4 fun r37 h38 =>
    deque_game_step.j2 c_cells_Arena_Who c_deque_Step c_deque_Answer g1 n2 who3 Q ((!r37), ()) h38) ∧
    ((decide (t36 < 0)) = false →
    deque_game_step.j2 c_cells_Arena_Who c_deque_Step c_deque_Answer g1 n2 who3 Q (false, ()) h4))
def deque_game_step.mk : Mk := (.j [] (.j [.slot 25 .bool] .d (.c .d .d)) (.s .d (.s .d (.s (.q [] [] [.p 0, .p 1, .p 2, .p 3, .p 6, .p 7, .p 8, .w 4 [4, 5, 10, 11, 12, 13], .p 5, .w 9 [9, 10, 11, 12, 13], .o 10, .p 11, .p 12, .o 13]) (.s .d (.s (.s .d (.c .d .d)) (.s (.q [] [] [.p 0, .p 1, .p 2, .p 4, .p 5, .p 6, .w 3 [3, 8, 9], .w 7 [7, 8, 9], .p 8, .p 9]) (.s .d .d))))))))

def ops_Mod.j1 (Q : Int → Heap → Prop) (s4 : (Int × Unit)) (h5 : Heap) : Prop :=
    Q s4.1 h5
def ops_Mod.M  (x1 : Int) (n2 : Int) (h3 : Heap) (Q : Int → Heap → Prop) : Prop :=
    (((decide (n2 < 1)) = true →
    Q 0 h3) ∧
    ((decide (n2 < 1)) = false →
    n2 ≠ 0 ∧
    (((decide ((Int.tmod x1 n2) < 0)) = true →
    ops_Mod.j1 Q ((w64 ((Int.tmod x1 n2) + n2)), ()) h3) ∧
    ((decide ((Int.tmod x1 n2) < 0)) = false →
    ops_Mod.j1 Q ((Int.tmod x1 n2), ()) h3))))
def ops_Mod.mk : Mk := (.s .d (.s (.s .d (.c (.s .d .d) .d)) (.s .d (.j [.slot 5 (.int .i64)] (.s .d (.c .d .d)) (.s .d .d)))))

def deque_game_rest.l1 (c_deque_place : Int → Int → Int → Heap → (Int → Heap → Prop) → Prop) (g1 : Option Addr) (Q : Sl → Heap → Prop) (r5 : Sl) (t12 : Int) (go19 : (Sl × (Int × Unit)) → Heap → Prop) (s17 : (Sl × (Int × Unit))) (h18 : Heap) : Prop :=
    deref g1 fun a20 =>
    ld ((.int .i64) : Kd) h18 ((a20.add 1).add 0) fun t21 =>
    (0 ≤ (w64 (t21 + 1)) ∧ (w64 (t21 + 1)) < (r5.len : Int)) ∧
    deref r5.a fun a22 =>
    ld ((.int .i64) : Kd) h18 (a22.add (((w64 (t21 + 1)) : Int).toNat * 1)) fun t23 =>
    (((decide (s17.2.1 < t23)) = true →
    (0 ≤ t12 ∧ t12 < (r5.len : Int)) ∧
    deref r5.a fun a24 =>
    ld ((.int .i64) : Kd) h18 (a24.add ((t12 : Int).toNat * 1)) fun t25 =>
    c_deque_place t12 t25 s17.2.1 h18 fun r26 h27 =>
    (0 ≤ r26 ∧ r26 < (r5.len : Int)) ∧
    deref r5.a fun a28 =>
    ld ((.int .i64) : Kd) h27 (a28.add ((r26 : Int).toNat * 1)) fun t29 =>
    new h27 (([t29] : List (Den ((.int .i64) : Kd))).flatMap (Kd.cells ((.int .i64) : Kd))) fun p30 h31 =>
    appendM 1 8 h31 s17.1 ⟨some p30, 1, 1⟩ fun t32 h33 =>
    go19 (t32, (w64 (s17.2.1 + 1)), ()) h33) ∧
    ((decide (s17.2.1 < t23)) = false →
    Q s17.1 h18))
def deque_game_rest.M (c_cells_Arena_Cells : Option Addr → Heap → (Sl → Heap → Prop) → Prop) (c_deque_place : Int → Int → Int → Heap → (Int → Heap → Prop) → Prop) (g1 : Option Addr) (h2 : Heap) (Q : Sl → Heap → Prop) : Prop :=
    deref g1 fun a3 =>
    ld (.ptr : Kd) h2 (a3.add 0) fun t4 =>
    c_cells_Arena_Cells t4 h2 fun r5 h6 =>
    deref g1 fun a7 =>
    ld ((.int .i64) : Kd) h6 ((a7.add 1).add 0) fun t8 =>
    (((decide ((r5.len : Int) ≤ (w64 (t8 + 2)))) = true →
    Q ⟨none, 0, 0⟩ h6) ∧
    ((decide ((r5.len : Int) ≤ (w64 (t8 + 2)))) = false →
    deref g1 fun a9 =>
    ld ((.int .i64) : Kd) h6 ((a9.add 1).add 0) fun t10 =>
    (0 ≤ (w64 (t10 + 2)) ∧ (w64 (t10 + 2)) < (r5.len : Int)) ∧
    deref r5.a fun a11 =>
    ld ((.int .i64) : Kd) h6 (a11.add (((w64 (t10 + 2)) : Int).toNat * 1)) fun t12 =>
    deref g1 fun a13 =>
    ld ((.int .i64) : Kd) h6 ((a13.add 1).add 0) fun t14 =>
    (0 ≤ (w64 (t14 + 0)) ∧ (w64 (t14 + 0)) < (r5.len : Int)) ∧
    deref r5.a fun a15 =>
    ld ((.int .i64) : Kd) h6 (a15.add (((w64 (t14 + 0)) : Int).toNat * 1)) fun t16 =>
    Loop (deque_game_rest.l1 c_deque_place g1 Q r5 t12) (⟨none, 0, 0⟩, t16, ()) h6))
def deque_game_rest.mk : Mk := (.s .d (.s .d (.s .d (.s (.s .d (.c (.s .d .d) .d)) (.s .d (.s (.s .d (.b (.l [.slot 3 .sl, .slot 6 (.int .i64)] (.s (.s .d (.c .d .d)) (.s (.b .d) .d))))) (.s .d .d)))))))

def cells_Arena_Log.M  (a1 : Option Addr) (h2 : Heap) (Q : Sl → Heap → Prop) : Prop :=
    (((Option.isNone a1) = true →
    Q ⟨none, 0, 0⟩ h2) ∧
    ((Option.isNone a1) = false →
    deref a1 fun a3 =>
    ld (.sl : Kd) h2 (a3.add 3) fun t4 =>
    makeM kapiAccess 48 h2 (t4.len : Int) (t4.len : Int) fun s5 h6 =>
    deref a1 fun a7 =>
    ld (.sl : Kd) h6 (a7.add 3) fun t8 =>
    copyM 6 h6 s5 t8 fun n9 h10 =>
    Q s5 h10))
def cells_Arena_Log.mk : Mk := (.s .d (.s (.s .d (.c (.s .d .d) .d)) (.s .d (.s .d (.s .d .d)))))

def law3_mod.j1 (Q : Int → Heap → Prop) (s4 : (Int × Unit)) (h5 : Heap) : Prop :=
    Q s4.1 h5
def law3_mod.M  (x1 : Int) (n2 : Int) (h3 : Heap) (Q : Int → Heap → Prop) : Prop :=
    n2 ≠ 0 ∧
    (((decide ((Int.tmod x1 n2) < 0)) = true →
    law3_mod.j1 Q ((w64 ((Int.tmod x1 n2) + n2)), ()) h3) ∧
    ((decide ((Int.tmod x1 n2) < 0)) = false →
    law3_mod.j1 Q ((Int.tmod x1 n2), ()) h3))
def law3_mod.mk : Mk := (.s .d (.s .d (.j [.slot 5 (.int .i64)] (.s .d (.c .d .d)) (.s .d .d))))

def law3_own.j1 (Q : Int → Heap → Prop) (s7 : (Int × Unit)) (h8 : Heap) : Prop :=
    Q s7.1 h8
def law3_own.j2 (go11 : Den kapiTodo → Heap → Prop) (s9 : Den kapiTodo) (s14 : (Int × Unit)) (h15 : Heap) : Prop :=
    go11 (s14.1, (w64 (s9.2.1 + 1)), ()) h15
def law3_own.j3 (c_law3_mod : Int → Int → Heap → (Int → Heap → Prop) → Prop) (picks1 : Sl) (thieves2 : Int) (who3 : Int) (go11 : Den kapiTodo → Heap → Prop) (s9 : Den kapiTodo) (s12 : Unit) (h13 : Heap) : Prop :=
    (0 ≤ s9.2.1 ∧ s9.2.1 < (picks1.len : Int)) ∧
    deref picks1.a fun a16 =>
    ld ((.int .i64) : Kd) h13 (a16.add ((s9.2.1 : Int).toNat * 1)) fun t17 =>
    c_law3_mod t17 (w64 (1 + thieves2)) h13 fun r18 h19 =>
    (((decide (r18 = who3)) = true →
    law3_own.j2 go11 s9 ((w64 (s9.1 + 1)), ()) h19) ∧
    ((decide (r18 = who3)) = false →
    law3_own.j2 go11 s9 (s9.1, ()) h19))
def law3_own.j4 (c_law3_mod : Int → Int → Heap → (Int → Heap → Prop) → Prop) (picks1 : Sl) (thieves2 : Int) (who3 : Int) (Q : Int → Heap → Prop) (go11 : Den kapiTodo → Heap → Prop) (s9 : Den kapiTodo) (s20 : (Bool × Unit)) (h21 : Heap) : Prop :=
    ((s20.1 = true →
    law3_own.j3 c_law3_mod picks1 thieves2 who3 go11 s9 () h21) ∧
    (s20.1 = false →
    law3_own.j1 Q (s9.1, ()) h21))
def law3_own.l5 (c_law3_mod : Int → Int → Heap → (Int → Heap → Prop) → Prop) (picks1 : Sl) (thieves2 : Int) (who3 : Int) (hi5 : Int) (Q : Int → Heap → Prop) (go11 : Den kapiTodo → Heap → Prop) (s9 : Den kapiTodo) (h10 : Heap) : Prop :=
    (((decide (s9.2.1 < (picks1.len : Int))) = true →
    (((decide (s9.2.1 ≤ hi5)) = true →
    law3_own.j4 c_law3_mod picks1 thieves2 who3 Q go11 s9 (true, ()) h10) ∧
    ((decide (s9.2.1 ≤ hi5)) = false →
    law3_own.j4 c_law3_mod picks1 thieves2 who3 Q go11 s9 ((decide (hi5 < 0)), ()) h10))) ∧
    ((decide (s9.2.1 < (picks1.len : Int))) = false →
    law3_own.j4 c_law3_mod picks1 thieves2 who3 Q go11 s9 (false, ()) h10))
def law3_own.M (c_law3_mod : Int → Int → Heap → (Int → Heap → Prop) → Prop) (picks1 : Sl) (thieves2 : Int) (who3 : Int) (lo4 : Int) (hi5 : Int) (h6 : Heap) (Q : Int → Heap → Prop) : Prop :=
    Loop (law3_own.l5 c_law3_mod picks1 thieves2 who3 hi5 Q) (0, (if lo4 < 0 then 0 else lo4), ()) h6
def law3_own.mk : Mk := (.s .d (.s .d (.j [.slot 11 (.int .i64)] (.s .d (.b (.l [.slot 11 (.int .i64), .slot 12 (.int .i64)] (.j [] (.j [.slot 27 .bool] .d (.c .d .d)) (.j [.slot 11 (.int .i64)] (.b (.s .d (.c .d .d))) .d))))) (.s .d .d))))

def law4_has.j1 (go7 : (Int × Unit) → Heap → Prop) (s5 : (Int × Unit)) (s8 : Unit) (h9 : Heap) : Prop :=
    go7 ((w64 (s5.1 + 1)), ()) h9
def law4_has.j2 (Q : Bool → Heap → Prop) (go7 : (Int × Unit) → Heap → Prop) (s5 : (Int × Unit)) (s10 : (Bool × Unit)) (h11 : Heap) : Prop :=
    ((s10.1 = true →
    Q true h11) ∧
    (s10.1 = false →
    law4_has.j1 go7 s5 () h11))
def law4_has.l3 (calls1 : Sl) (who2 : Int) (at_3 : Int) (Q : Bool → Heap → Prop) (go7 : (Int × Unit) → Heap → Prop) (s5 : (Int × Unit)) (h6 : Heap) : Prop :=
    (((decide (s5.1 < (calls1.len : Int))) = true →
    (0 ≤ s5.1 ∧ s5.1 < (calls1.len : Int)) ∧
    deref calls1.a fun a12 =>
    ld ((.int .i64) : Kd) h6 ((a12.add ((s5.1 : Int).toNat * 7)).add 0) fun t13 =>
    (((decide (t13 = who2)) = true →
    (0 ≤ s5.1 ∧ s5.1 < (calls1.len : Int)) ∧
    deref calls1.a fun a14 =>
    ld ((.int .i64) : Kd) h6 ((a14.add ((s5.1 : Int).toNat * 7)).add 3) fun t15 =>
    law4_has.j2 Q go7 s5 ((decide (t15 = at_3)), ()) h6) ∧
    ((decide (t13 = who2)) = false →
    law4_has.j2 Q go7 s5 (false, ()) h6))) ∧
    ((decide (s5.1 < (calls1.len : Int))) = false →
    Q false h6))
def law4_has.M  (calls1 : Sl) (who2 : Int) (at_3 : Int) (h4 : Heap) (Q : Bool → Heap → Prop) : Prop :=
    Loop (law4_has.l3 calls1 who2 at_3 Q) (0, ()) h4
def law4_has.mk : Mk := (.s .d (.s (.s .d (.b (.l [.slot 7 (.int .i64)] (.s (.s .d (.c .d .d)) (.j [] (.b (.j [.slot 29 .bool] .d (.c (.s .d .d) .d))) .d))))) (.s .d .d)))

def hist_goodMost.M  (most1 : Int) (h2 : Heap) (Q : Bool → Heap → Prop) : Prop :=
    (((decide ((1 : Int) ≤ most1)) = true →
    Q (decide (most1 ≤ 4096)) h2) ∧
    ((decide ((1 : Int) ≤ most1)) = false →
    Q false h2))
def hist_goodMost.mk : Mk := (.s .d (.s .d .d))

def hist_row_does.j1 (r1 : Sl) (c2 : Den kapiCall) (Q : (Sl × (Bool × Unit)) → Heap → Prop) (s5 : Sl) (s9 : Unit) (h10 : Heap) : Prop :=
    (0 ≤ (1 : Int) ∧ (1 : Int) ≤ (s5.len : Int)) ∧
    (((decide (c2.2.2.2.2.2.1 ≠ 4)) = true →
    Q ((s5.cut (((1 : Int) : Int).toNat) s5.len 1), true, ()) h10) ∧
    ((decide (c2.2.2.2.2.2.1 ≠ 4)) = false →
    (0 ≤ (0 : Int) ∧ (0 : Int) < (r1.len : Int)) ∧
    deref r1.a fun a11 =>
    ld ((.int .i64) : Kd) h10 (a11.add (((0 : Int) : Int).toNat * 1)) fun t12 =>
    Q ((s5.cut (((1 : Int) : Int).toNat) s5.len 1), (decide (t12 = c2.2.2.2.2.2.2.1)), ()) h10))
def hist_row_does.j2 (r1 : Sl) (c2 : Den kapiCall) (most3 : Int) (Q : (Sl × (Bool × Unit)) → Heap → Prop) (s5 : Sl) (s13 : (Bool × Unit)) (h14 : Heap) : Prop :=
    ((s13.1 = true →
    Q (s5, (decide ((r1.len : Int) = most3)), ()) h14) ∧
    (s13.1 = false →
    (((decide (c2.2.1 = 0)) = true →
    new h14 (([c2.2.2.1] : List (Den ((.int .i64) : Kd))).flatMap (Kd.cells ((.int .i64) : Kd))) fun p15 h16 =>
    appendM 1 8 h16 s5 ⟨some p15, 1, 1⟩ fun t17 h18 =>
    Q (t17, (decide ((r1.len : Int) < most3)), ()) h18) ∧
    ((decide (c2.2.1 = 0)) = false →
    (((decide (c2.2.2.2.2.2.1 = 6)) = true →
    Q (s5, true, ()) h14) ∧
    ((decide (c2.2.2.2.2.2.1 = 6)) = false →
    (((decide (c2.2.2.2.2.2.1 = 5)) = true →
    Q (s5, (decide ((r1.len : Int) = 0)), ()) h14) ∧
    ((decide (c2.2.2.2.2.2.1 = 5)) = false →
    (((decide ((r1.len : Int) = 0)) = true →
    Q (s5, false, ()) h14) ∧
    ((decide ((r1.len : Int) = 0)) = false →
    (((decide (c2.2.1 = 1)) = true →
    (0 ≤ (w64 ((s5.len : Int) - 1)) ∧ (w64 ((s5.len : Int) - 1)) ≤ (s5.cap : Int)) ∧
    (((decide (c2.2.2.2.2.2.1 ≠ 4)) = true →
    Q ((s5.cut 0 (((w64 ((s5.len : Int) - 1)) : Int).toNat) 1), true, ()) h14) ∧
    ((decide (c2.2.2.2.2.2.1 ≠ 4)) = false →
    (0 ≤ (w64 ((r1.len : Int) - 1)) ∧ (w64 ((r1.len : Int) - 1)) < (r1.len : Int)) ∧
    deref r1.a fun a19 =>
    ld ((.int .i64) : Kd) h14 (a19.add (((w64 ((r1.len : Int) - 1)) : Int).toNat * 1)) fun t20 =>
    Q ((s5.cut 0 (((w64 ((s5.len : Int) - 1)) : Int).toNat) 1), (decide (t20 = c2.2.2.2.2.2.2.1)), ()) h14))) ∧
    ((decide (c2.2.1 = 1)) = false →
    hist_row_does.j1 r1 c2 Q s5 () h14))))))))))))
def hist_row_does.M  (r1 : Sl) (c2 : Den kapiCall) (most3 : Int) (h4 : Heap) (Q : (Sl × (Bool × Unit)) → Heap → Prop) : Prop :=
    makeM ((.int .i64) : Kd) 8 h4 (r1.len : Int) (w64 ((r1.len : Int) + 1)) fun s5 h6 =>
    copyM 1 h6 s5 r1 fun n7 h8 =>
    (((decide (c2.2.1 = 0)) = true →
    hist_row_does.j2 r1 c2 most3 Q s5 ((decide (c2.2.2.2.2.2.1 = 3)), ()) h8) ∧
    ((decide (c2.2.1 = 0)) = false →
    hist_row_does.j2 r1 c2 most3 Q s5 (false, ()) h8))
def hist_row_does.mk : Mk := (.s (.r [0]) (.s .d (.s .d (.j [] (.b (.j [.slot 18 .bool] .d (.c (.s .d .d) (.s .d (.c (.s .d .d) (.s .d (.c (.s .d .d) (.s .d (.c (.s .d .d) (.s .d (.c (.s .d .d) (.s .d (.c (.s (.q [] [] [.p 0, .p 1, .p 2, .p 3, .p 4, .p 5, .w 6 [6, 7, 8, 9, 10, 11, 12, 13, 14, 15, 16, 17, 18, 19, 20], .p 7, .p 8, .p 9, .p 10, .p 11, .p 12, .p 13, .p 15, .p 19, .w 14 [14, 17, 18, 20], .w 16 [16, 17, 18, 20], .p 17, .p 18, .p 20]) .d) .d))))))))))))) (.s (.q [] [] [.p 0, .p 1, .p 2, .w 3 [3, 4, 5, 6, 7, 8, 9, 10, 11, 12, 13, 14], .p 4, .p 5, .p 6, .p 7, .p 9, .p 13, .w 8 [8, 11, 12, 14], .w 10 [10, 11, 12, 14], .p 11, .p 12, .p 14]) .d)))))

def slices_Clone_int64_int64.M  (s1 : Sl) (h2 : Heap) (Q : Sl → Heap → Prop) : Prop :=
    ((s1.a.isNone = true →
    Q ⟨none, 0, 0⟩ h2) ∧
    (s1.a.isNone = false →
    new h2 (([] : List (Den ((.int .i64) : Kd))).flatMap (Kd.cells ((.int .i64) : Kd))) fun p3 h4 =>
    appendM 1 8 h4 ⟨some p3, 0, 0⟩ s1 fun t5 h6 =>
    Q t5 h6))
def slices_Clone_int64_int64.mk : Mk := (.s .d (.s (.s .d (.c (.s .d .d) .d)) (.s .d .d)))

def hist_history.j1 (go8 : (Int × (((Fin 4 → Int) × Unit) × Unit)) → Heap → Prop) (s6 : (Int × (((Fin 4 → Int) × Unit) × Unit))) (s9 : (((Fin 4 → Int) × Unit) × Unit)) (h10 : Heap) : Prop :=
    go8 ((w64 (s6.1 + 1)), (s9.1.1, ()), ()) h10
def hist_history.j2 (go8 : (Int × (((Fin 4 → Int) × Unit) × Unit)) → Heap → Prop) (s6 : (Int × (((Fin 4 → Int) × Unit) × Unit))) (t12 : Den kapiCall) (s15 : Unit) (h16 : Heap) : Prop :=
    (0 ≤ t12.1 ∧ t12.1 < (4 : Int)) ∧
    hist_history.j1 go8 s6 (((aset (n := 4) (a := ((.int .i64) : Kd)) s6.2.1.1 (t12.1 : Int).toNat s6.1), ()), ()) h16
def hist_history.j3 (Q : Bool → Heap → Prop) (go8 : (Int × (((Fin 4 → Int) × Unit) × Unit)) → Heap → Prop) (s6 : (Int × (((Fin 4 → Int) × Unit) × Unit))) (t12 : Den kapiCall) (s17 : (Bool × Unit)) (h18 : Heap) : Prop :=
    ((s17.1 = true →
    Q false h18) ∧
    (s17.1 = false →
    hist_history.j2 go8 s6 t12 () h18))
def hist_history.l4 (c_hist_sound : Den kapiCall → Heap → (Bool → Heap → Prop) → Prop) (calls1 : Sl) (Q : Bool → Heap → Prop) (go8 : (Int × (((Fin 4 → Int) × Unit) × Unit)) → Heap → Prop) (s6 : (Int × (((Fin 4 → Int) × Unit) × Unit))) (h7 : Heap) : Prop :=
    (((decide (s6.1 < (calls1.len : Int))) = true →
    (0 ≤ s6.1 ∧ s6.1 < (calls1.len : Int)) ∧
    deref calls1.a fun a11 =>
    ld kapiCall h7 (a11.add ((s6.1 : Int).toNat * 7)) fun t12 =>
    c_hist_sound (t12.1, (t12.2.1, (t12.2.2.1, (t12.2.2.2.1, (t12.2.2.2.2.1, (t12.2.2.2.2.2.1, (t12.2.2.2.2.2.2.1, ()))))))) h7 fun r13 h14 =>
    (((!r13) = true →
    Q false h14) ∧
    ((!r13) = false →
    (0 ≤ t12.1 ∧ t12.1 < (4 : Int)) ∧
    (((decide ((0 : Int) ≤ (aget (n := 4) (a := ((.int .i64) : Kd)) s6.2.1.1 (t12.1 : Int).toNat))) = true →
    (0 ≤ (aget (n := 4) (a := ((.int .i64) : Kd)) s6.2.1.1 (t12.1 : Int).toNat) ∧ (aget (n := 4) (a := ((.int .i64) : Kd)) s6.2.1.1 (t12.1 : Int).toNat) < (calls1.len : Int)) ∧
    deref calls1.a fun a19 =>
    ld ((.int .i64) : Kd) h14 ((a19.add (((aget (n := 4) (a := ((.int .i64) : Kd)) s6.2.1.1 (t12.1 : Int).toNat) : Int).toNat * 7)).add 5) fun t20 =>
    (((decide (t20 = 0)) = true →
    hist_history.j3 Q go8 s6 t12 (true, ()) h14) ∧
    ((decide (t20 = 0)) = false →
    (0 ≤ (aget (n := 4) (a := ((.int .i64) : Kd)) s6.2.1.1 (t12.1 : Int).toNat) ∧ (aget (n := 4) (a := ((.int .i64) : Kd)) s6.2.1.1 (t12.1 : Int).toNat) < (calls1.len : Int)) ∧
    deref calls1.a fun a21 =>
    ld ((.int .i64) : Kd) h14 ((a21.add (((aget (n := 4) (a := ((.int .i64) : Kd)) s6.2.1.1 (t12.1 : Int).toNat) : Int).toNat * 7)).add 4) fun t22 =>
    hist_history.j3 Q go8 s6 t12 ((decide (t12.2.2.2.1 ≤ t22)), ()) h14))) ∧
    ((decide ((0 : Int) ≤ (aget (n := 4) (a := ((.int .i64) : Kd)) s6.2.1.1 (t12.1 : Int).toNat))) = false →
    hist_history.j3 Q go8 s6 t12 (false, ()) h14))))) ∧
    ((decide (s6.1 < (calls1.len : Int))) = false →
    Q true h7))
def hist_history.l5 (c_hist_sound : Den kapiCall → Heap → (Bool → Heap → Prop) → Prop) (calls1 : Sl) (Q : Bool → Heap → Prop) (go5 : (Int × (((Fin 4 → Int) × Unit) × Unit)) → Heap → Prop) (s3 : (Int × (((Fin 4 → Int) × Unit) × Unit))) (h4 : Heap) : Prop :=
    (((decide (s3.1 < 4)) = true →
    (0 ≤ s3.1 ∧ s3.1 < (4 : Int)) ∧
    go5 ((w64 (s3.1 + 1)), ((aset (n := 4) (a := ((.int .i64) : Kd)) s3.2.1.1 (s3.1 : Int).toNat (-1)), ()), ()) h4) ∧
    ((decide (s3.1 < 4)) = false →
    Loop (hist_history.l4 c_hist_sound calls1 Q) (0, (s3.2.1.1, ()), ()) h4))
def hist_history.M (c_hist_sound : Den kapiCall → Heap → (Bool → Heap → Prop) → Prop) (calls1 : Sl) (h2 : Heap) (Q : Bool → Heap → Prop) : Prop :=
    Loop (hist_history.l5 c_hist_sound calls1 Q) (0, ((fun _ => 0), ()), ()) h2
def hist_history.mk : Mk := (.s .d (.s (.r [0]) (.s (.s .d (.b (.l [.slot 8 (.int .i64), .box 3 (.pair (.arr 4 (.int .i64)) .nil)] (.s .d (.s (.c .d .d) (.s (.b (.s .d .d)) .d)))))) (.s (.s .d (.b (.l [.slot 16 (.int .i64), .box 3 (.pair (.arr 4 (.int .i64)) .nil)] (.s .d (.s (.c .d .d) (.j [.box 3 (.pair (.arr 4 (.int .i64)) .nil)] (.b (.s (.r [3]) (.s (.s .d (.c (.s .d .d) .d)) (.j [] (.s .d (.j [.slot 47 .bool] (.q [] [] [.p 0, .p 1, .p 2, .p 3, .p 4, .p 5, .p 6, .w 7 [7, 8, 9, 10, 11, 12, 13, 14, 15, 16, 17, 18, 19], .p 8, .p 9, .p 10, .p 11, .p 12, .p 13, .p 15, .w 14 [14, 17, 18, 19], .w 16 [16, 17, 18, 19], .p 17, .p 18, .p 19]) (.c (.s .d .d) .d))) .d)))) .d)))))) (.s .d .d)))))

def hist_search_from.j1 (go18 : (Int × Unit) → Heap → Prop) (s16 : (Int × Unit)) (s19 : Unit) (h20 : Heap) : Prop :=
    go18 ((w64 (s16.1 + 1)), ()) h20
def hist_search_from.j2 (c_hist_search_from : Option Addr → (Fin 4 → Int) → Sl → Heap → (Bool → Heap → Prop) → Prop) (s1 : Option Addr) (taken2 : (Fin 4 → Int)) (Q : Bool → Heap → Prop) (go18 : (Int × Unit) → Heap → Prop) (s16 : (Int × Unit)) (t22 : Int) (r29 : (Sl × (Bool × Unit))) (s31 : Unit) (h32 : Heap) : Prop :=
    deref s1 fun a33 =>
    ld (.sl : Kd) h32 (a33.add 7) fun t34 =>
    new h32 (([t22] : List (Den ((.int .i64) : Kd))).flatMap (Kd.cells ((.int .i64) : Kd))) fun p35 h36 =>
    appendM 1 8 h36 t34 ⟨some p35, 1, 1⟩ fun t37 h38 =>
    deref s1 fun a39 =>
    st (.sl : Kd) h38 (a39.add 7) t37 fun h40 =>
    (0 ≤ s16.1 ∧ s16.1 < (4 : Int)) ∧
    (0 ≤ s16.1 ∧ s16.1 < (4 : Int)) ∧
    c_hist_search_from s1 (aset (n := 4) (a := ((.int .i64) : Kd)) taken2 (s16.1 : Int).toNat (w64 ((aget (n := 4) (a := ((.int .i64) : Kd)) taken2 (s16.1 : Int).toNat) + 1))) r29.1 h40 fun r41 h42 =>
    ((r41 = true →
    Q true h42) ∧
    (r41 = false →
    deref s1 fun a43 =>
    deref s1 fun a44 =>
    ld (.sl : Kd) h42 (a43.add 7) fun t45 =>
    ld (.sl : Kd) h42 (a44.add 7) fun t46 =>
    (0 ≤ (w64 ((t46.len : Int) - 1)) ∧ (w64 ((t46.len : Int) - 1)) ≤ (t45.cap : Int)) ∧
    deref s1 fun a47 =>
    st (.sl : Kd) h42 (a47.add 7) (t45.cut 0 (((w64 ((t46.len : Int) - 1)) : Int).toNat) 1) fun h48 =>
    hist_search_from.j1 go18 s16 () h48))
def hist_search_from.j3 (c_hist_search_from : Option Addr → (Fin 4 → Int) → Sl → Heap → (Bool → Heap → Prop) → Prop) (s1 : Option Addr) (taken2 : (Fin 4 → Int)) (Q : Bool → Heap → Prop) (go18 : (Int × Unit) → Heap → Prop) (s16 : (Int × Unit)) (t22 : Int) (r29 : (Sl × (Bool × Unit))) (s49 : (Bool × Unit)) (h50 : Heap) : Prop :=
    ((s49.1 = true →
    hist_search_from.j1 go18 s16 () h50) ∧
    (s49.1 = false →
    hist_search_from.j2 c_hist_search_from s1 taken2 Q go18 s16 t22 r29 () h50))
def hist_search_from.l4 (c_hist_row_does : Sl → Den kapiCall → Int → Heap → ((Sl × (Bool × Unit)) → Heap → Prop) → Prop) (c_hist_search_waits : Option Addr → (Fin 4 → Int) → Den kapiCall → Heap → (Bool → Heap → Prop) → Prop) (c_hist_search_from : Option Addr → (Fin 4 → Int) → Sl → Heap → (Bool → Heap → Prop) → Prop) (s1 : Option Addr) (taken2 : (Fin 4 → Int)) (held3 : Sl) (Q : Bool → Heap → Prop) (t15 : (Fin 4 → Sl)) (go18 : (Int × Unit) → Heap → Prop) (s16 : (Int × Unit)) (h17 : Heap) : Prop :=
    (((decide (s16.1 < 4)) = true →
    (0 ≤ s16.1 ∧ s16.1 < (4 : Int)) ∧
    (0 ≤ s16.1 ∧ s16.1 < (4 : Int)) ∧
    (((decide (((aget (n := 4) (a := (.sl : Kd)) t15 (s16.1 : Int).toNat).len : Int) ≤ (aget (n := 4) (a := ((.int .i64) : Kd)) taken2 (s16.1 : Int).toNat))) = true →
    hist_search_from.j1 go18 s16 () h17) ∧
    ((decide (((aget (n := 4) (a := (.sl : Kd)) t15 (s16.1 : Int).toNat).len : Int) ≤ (aget (n := 4) (a := ((.int .i64) : Kd)) taken2 (s16.1 : Int).toNat))) = false →
    (0 ≤ s16.1 ∧ s16.1 < (4 : Int)) ∧
    (0 ≤ (aget (n := 4) (a := ((.int .i64) : Kd)) taken2 (s16.1 : Int).toNat) ∧ (aget (n := 4) (a := ((.int .i64) : Kd)) taken2 (s16.1 : Int).toNat) < ((aget (n := 4) (a := (.sl : Kd)) t15 (s16.1 : Int).toNat).len : Int)) ∧
    deref (aget (n := 4) (a := (.sl : Kd)) t15 (s16.1 : Int).toNat).a fun a21 =>
    ld ((.int .i64) : Kd) h17 (a21.add (((aget (n := 4) (a := ((.int .i64) : Kd)) taken2 (s16.1 : Int).toNat) : Int).toNat * 1)) fun t22 =>
    deref s1 fun a23 =>
    ld (.sl : Kd) h17 (a23.add 0) fun t24 =>
    (0 ≤ t22 ∧ t22 < (t24.len : Int)) ∧
    deref t24.a fun a25 =>
    ld kapiCall h17 (a25.add ((t22 : Int).toNat * 7)) fun t26 =>
    deref s1 fun a27 =>
    ld ((.int .i64) : Kd) h17 (a27.add 1) fun t28 =>
    c_hist_row_does held3 (t26.1, (t26.2.1, (t26.2.2.1, (t26.2.2.2.1, (t26.2.2.2.2.1, (t26.2.2.2.2.2.1, (t26.2.2.2.2.2.2.1, ()))))))) t28 h17 fun r29 h30 =>
    (((!r29.2.1) = true →
    hist_search_from.j3 c_hist_search_from s1 taken2 Q go18 s16 t22 r29 (true, ()) h30) ∧
    ((!r29.2.1) = false →
    c_hist_search_waits s1 taken2 (t26.1, (t26.2.1, (t26.2.2.1, (t26.2.2.2.1, (t26.2.2.2.2.1, (t26.2.2.2.2.2.1, (t26.2.2.2.2.2.2.1, ()))))))) h30 fun r51 h52 =>
    hist_search_from.j3 c_hist_search_from s1 taken2 Q go18 s16 t22 r29 (r51, ()) h52))))) ∧
    ((decide (s16.1 < 4)) = false →
    Q false h17))
def hist_search_from.M (c_hist_search_done : Option Addr → (Fin 4 → Int) → Heap → (Bool → Heap → Prop) → Prop) (c_hist_row_does : Sl → Den kapiCall → Int → Heap → ((Sl × (Bool × Unit)) → Heap → Prop) → Prop) (c_hist_search_waits : Option Addr → (Fin 4 → Int) → Den kapiCall → Heap → (Bool → Heap → Prop) → Prop) (c_hist_search_from : Option Addr → (Fin 4 → Int) → Sl → Heap → (Bool → Heap → Prop) → Prop) (s1 : Option Addr) (taken2 : (Fin 4 → Int)) (held3 : Sl) (h4 : Heap) (Q : Bool → Heap → Prop) : Prop :=
    c_hist_search_done s1 taken2 h4 fun r5 h6 =>
    ((r5 = true →
    Q true h6) ∧
    (r5 = false →
    deref s1 fun a7 =>
    ld (.map : Kd) h6 (a7.add 6) fun t8 =>
    mapAt ((.arr 4 (.int .i64)) : Kd) ((.int .i64) : Kd) h6 t8 taken2 fun t9 b10 =>
    (((decide ((0 : Int) < t9)) = true →
    Q false h6) ∧
    ((decide ((0 : Int) < t9)) = false →
    deref s1 fun a11 =>
    ld (.map : Kd) h6 (a11.add 6) fun t12 =>
    mapPut ((.arr 4 (.int .i64)) : Kd) ((.int .i64) : Kd) h6 t12 taken2 1 fun h13 =>
    deref s1 fun a14 =>
    ld ((.arr 4 .sl) : Kd) h13 (a14.add 2) fun t15 =>
    Loop (hist_search_from.l4 c_hist_row_does c_hist_search_waits c_hist_search_from s1 taken2 held3 Q t15) (0, ()) h13))))
def hist_search_from.mk : Mk := (.s (.r [0]) (.s (.s .d (.c (.s .d .d) .d)) (.s (.s (.q [] [] [.p 0, .p 1, .p 2, .w 3 [3, 5, 6], .w 4 [4, 5, 6], .o 5, .p 6]) (.c (.s .d .d) .d)) (.s (.q [] [] [.p 0, .p 1, .p 2, .w 3 [3, 5], .w 4 [4, 5], .o 5]) (.s (.s .d (.b (.l [.slot 33 (.int .i64)] (.s .d (.s (.c .d .d) (.j [] (.b (.s .d (.s (.s .d (.c .d .d)) (.s .d (.s (.r [7]) (.s (.q [] [] [.p 0, .p 2, .p 3, .p 4, .w 1 [1, 6, 7, 8, 9, 10, 11], .w 5 [5, 6, 7, 8, 9, 10, 11], .o 6, .p 7, .p 8, .p 9, .p 10, .p 11]) (.j [] (.j [.slot 73 .bool] .d (.c .d .d)) (.s .d (.s (.r [1]) (.s .d (.s (.s .d (.c (.s .d .d) .d)) (.q [] [] [.p 0, .p 1, .p 2, .p 3, .p 5, .p 6, .p 7, .w 4 [4, 11, 12, 13, 14], .w 8 [8, 9, 10, 11, 12, 13, 14], .p 9, .p 10, .p 11, .p 12, .p 13, .o 14])))))))))))) .d)))))) (.s .d .d))))))

def slices_Clone_int_int.M  (s1 : Sl) (h2 : Heap) (Q : Sl → Heap → Prop) : Prop :=
    ((s1.a.isNone = true →
    Q ⟨none, 0, 0⟩ h2) ∧
    (s1.a.isNone = false →
    new h2 (([] : List (Den ((.int .i64) : Kd))).flatMap (Kd.cells ((.int .i64) : Kd))) fun p3 h4 =>
    appendM 1 8 h4 ⟨some p3, 0, 0⟩ s1 fun t5 h6 =>
    Q t5 h6))
def slices_Clone_int_int.mk : Mk := (.s .d (.s (.s .d (.c (.s .d .d) .d)) (.s .d .d)))

def ref4_Bad.j1 (c_ref4_History : Sl → Heap → (Bool → Heap → Prop) → Prop) (calls1 : Sl) (Q : Int → Heap → Prop) (s4 : Unit) (h5 : Heap) : Prop :=
    c_ref4_History calls1 h5 fun r6 h7 =>
    (((!r6) = true →
    Q 40 h7) ∧
    ((!r6) = false →
    Q 0 h7))
def ref4_Bad.j2 (c_ref4_History : Sl → Heap → (Bool → Heap → Prop) → Prop) (calls1 : Sl) (Q : Int → Heap → Prop) (s8 : (Bool × Unit)) (h9 : Heap) : Prop :=
    ((s8.1 = true →
    Q 3 h9) ∧
    (s8.1 = false →
    ref4_Bad.j1 c_ref4_History calls1 Q () h9))
def ref4_Bad.M (c_ref4_History : Sl → Heap → (Bool → Heap → Prop) → Prop) (calls1 : Sl) (most2 : Int) (h3 : Heap) (Q : Int → Heap → Prop) : Prop :=
    (((decide ((40 : Int) < (calls1.len : Int))) = true →
    Q 2 h3) ∧
    ((decide ((40 : Int) < (calls1.len : Int))) = false →
    (((decide (most2 < 1)) = true →
    ref4_Bad.j2 c_ref4_History calls1 Q (true, ()) h3) ∧
    ((decide (most2 < 1)) = false →
    ref4_Bad.j2 c_ref4_History calls1 Q ((decide ((4096 : Int) < most2)), ()) h3))))
def ref4_Bad.mk : Mk := (.s .d (.s (.s .d (.c (.s .d .d) .d)) (.j [] (.j [.slot 13 .bool] .d (.c (.s .d .d) .d)) (.s (.s .d (.c (.s .d .d) .d)) (.s .d .d)))))

def ref4_ahead.M  (x1 : Den kapiCall) (y2 : Den kapiCall) (h3 : Heap) (Q : Bool → Heap → Prop) : Prop :=
    (((decide ((0 : Int) ≤ x1.2.2.2.2.1)) = true →
    Q (decide (x1.2.2.2.2.1 < y2.2.2.2.1)) h3) ∧
    ((decide ((0 : Int) ≤ x1.2.2.2.2.1)) = false →
    Q false h3))
def ref4_ahead.mk : Mk := (.s (.r [0, 1]) (.s .d .d))

def ref4_Do.M  (row1 : Sl) (c2 : Den kapiCall) (most3 : Int) (h4 : Heap) (Q : (Sl × (Bool × Unit)) → Heap → Prop) : Prop :=
    (((decide (c2.2.2.2.2.2.1 = 3)) = true →
    Q (row1, (decide ((row1.len : Int) = most3)), ()) h4) ∧
    ((decide (c2.2.2.2.2.2.1 = 3)) = false →
    (((decide (c2.2.2.2.2.2.1 = 5)) = true →
    Q (row1, (decide ((row1.len : Int) = 0)), ()) h4) ∧
    ((decide (c2.2.2.2.2.2.1 = 5)) = false →
    (((decide (c2.2.2.2.2.2.1 = 6)) = true →
    Q (row1, true, ()) h4) ∧
    ((decide (c2.2.2.2.2.2.1 = 6)) = false →
    (((decide (c2.2.1 = 0)) = true →
    (((decide (most3 ≤ (row1.len : Int))) = true →
    Q (row1, false, ()) h4) ∧
    ((decide (most3 ≤ (row1.len : Int))) = false →
    new h4 (([] : List (Den ((.int .i64) : Kd))).flatMap (Kd.cells ((.int .i64) : Kd))) fun p5 h6 =>
    appendM 1 8 h6 ⟨some p5, 0, 0⟩ row1 fun t7 h8 =>
    new h8 (([c2.2.2.1] : List (Den ((.int .i64) : Kd))).flatMap (Kd.cells ((.int .i64) : Kd))) fun p9 h10 =>
    appendM 1 8 h10 t7 ⟨some p9, 1, 1⟩ fun t11 h12 =>
    Q (t11, true, ()) h12))) ∧
    ((decide (c2.2.1 = 0)) = false →
    (((decide ((row1.len : Int) = 0)) = true →
    Q (row1, false, ()) h4) ∧
    ((decide ((row1.len : Int) = 0)) = false →
    (((decide (c2.2.1 = 1)) = true →
    (0 ≤ (w64 ((row1.len : Int) - 1)) ∧ (w64 ((row1.len : Int) - 1)) ≤ (row1.cap : Int)) ∧
    (((decide (c2.2.2.2.2.2.1 = 0)) = true →
    Q ((row1.cut 0 (((w64 ((row1.len : Int) - 1)) : Int).toNat) 1), true, ()) h4) ∧
    ((decide (c2.2.2.2.2.2.1 = 0)) = false →
    (0 ≤ (w64 ((row1.len : Int) - 1)) ∧ (w64 ((row1.len : Int) - 1)) < (row1.len : Int)) ∧
    deref row1.a fun a13 =>
    ld ((.int .i64) : Kd) h4 (a13.add (((w64 ((row1.len : Int) - 1)) : Int).toNat * 1)) fun t14 =>
    Q ((row1.cut 0 (((w64 ((row1.len : Int) - 1)) : Int).toNat) 1), (decide (t14 = c2.2.2.2.2.2.2.1)), ()) h4))) ∧
    ((decide (c2.2.1 = 1)) = false →
    (0 ≤ (1 : Int) ∧ (1 : Int) ≤ (row1.len : Int)) ∧
    (((decide (c2.2.2.2.2.2.1 = 0)) = true →
    Q ((row1.cut (((1 : Int) : Int).toNat) row1.len 1), true, ()) h4) ∧
    ((decide (c2.2.2.2.2.2.1 = 0)) = false →
    (0 ≤ (0 : Int) ∧ (0 : Int) < (row1.len : Int)) ∧
    deref row1.a fun a15 =>
    ld ((.int .i64) : Kd) h4 (a15.add (((0 : Int) : Int).toNat * 1)) fun t16 =>
    Q ((row1.cut (((1 : Int) : Int).toNat) row1.len 1), (decide (t16 = c2.2.2.2.2.2.2.1)), ()) h4))))))))))))))
def ref4_Do.mk : Mk := (.s (.r [0]) (.s .d (.s (.s .d (.b (.s .d (.c (.s .d .d) (.s .d (.c (.s .d .d) (.s .d (.c (.s .d .d) .d)))))))) (.s (.s .d (.c (.s (.s .d (.c (.s .d .d) .d)) (.s .d (.s .d (.s .d .d)))) .d)) (.s (.s .d (.c (.s .d .d) .d)) (.s (.s .d (.c (.s (.q [] [] [.p 0, .p 1, .p 2, .p 3, .p 4, .w 5 [5, 6, 7, 8, 9, 10, 11, 12, 13, 14, 15, 16, 17, 18], .p 6, .p 7, .p 8, .p 9, .p 10, .p 11, .p 13, .p 17, .w 12 [12, 15, 16, 18], .w 14 [14, 15, 16, 18], .p 15, .p 16, .p 18]) .d) .d)) (.s (.q [] [] [.p 0, .p 1, .p 2, .w 3 [3, 4, 5, 6, 7, 8, 9, 10, 11, 12, 13, 14], .p 4, .p 5, .p 6, .p 7, .p 9, .p 13, .w 8 [8, 11, 12, 14], .w 10 [10, 11, 12, 14], .p 11, .p 12, .p 14]) .d)))))))

def deque_capsOK.M  (low1 : Int) (most2 : Int) (h3 : Heap) (Q : Bool → Heap → Prop) : Prop :=
    (((decide ((1 : Int) ≤ low1)) = true →
    (((decide (low1 ≤ most2)) = true →
    Q (decide (most2 ≤ 4096)) h3) ∧
    ((decide (low1 ≤ most2)) = false →
    Q false h3))) ∧
    ((decide ((1 : Int) ≤ low1)) = false →
    Q false h3))
def deque_capsOK.mk : Mk := (.s .d (.s .d .d))

def cells_good.M  (size1 : Int) (h2 : Heap) (Q : Bool → Heap → Prop) : Prop :=
    (((decide ((0 : Int) ≤ size1)) = true →
    Q (decide (size1 ≤ 1048576)) h2) ∧
    ((decide ((0 : Int) ≤ size1)) = false →
    Q false h2))
def cells_good.mk : Mk := (.s .d (.s .d .d))

def deque_game_begin.j1 (g1 : Option Addr) (who3 : Int) (Q : Bool → Heap → Prop) (s9 : (Den kapiCall × ((Int × (Int × (Int × (Int × (Int × (Int × (Int × (Int × (Int × (Int × (Int × (Int × (Int × (Bool × Den kapiTodo)))))))))))))) × Unit))) (h10 : Heap) : Prop :=
    deref g1 fun a11 =>
    deref g1 fun a12 =>
    ld (.sl : Kd) h10 (a11.add 4) fun t13 =>
    ld (.sl : Kd) h10 (a12.add 5) fun t14 =>
    (0 ≤ who3 ∧ who3 < (t13.len : Int)) ∧
    deref t13.a fun a15 =>
    st kdequeactor h10 (a15.add ((who3 : Int).toNat * 17)) ((s9.2.1.1, (s9.2.1.2.1, ((s9.2.1.2.2.1, (s9.2.1.2.2.2.1, ())), (s9.2.1.2.2.2.2.1, (s9.2.1.2.2.2.2.2.1, (s9.2.1.2.2.2.2.2.2.1, (s9.2.1.2.2.2.2.2.2.2.1, (s9.2.1.2.2.2.2.2.2.2.2.1, (s9.2.1.2.2.2.2.2.2.2.2.2.1, (s9.2.1.2.2.2.2.2.2.2.2.2.2.1, (s9.2.1.2.2.2.2.2.2.2.2.2.2.2.1, (s9.2.1.2.2.2.2.2.2.2.2.2.2.2.2.1, (s9.2.1.2.2.2.2.2.2.2.2.2.2.2.2.2.1, (s9.2.1.2.2.2.2.2.2.2.2.2.2.2.2.2.2.1, (s9.2.1.2.2.2.2.2.2.2.2.2.2.2.2.2.2.2.1, ()))))))))))))))), ((t14.len : Int), ())) fun h16 =>
    deref g1 fun a17 =>
    ld (.sl : Kd) h16 (a17.add 5) fun t18 =>
    new h16 (([(s9.1.1, (s9.1.2.1, (s9.1.2.2.1, (s9.1.2.2.2.1, (s9.1.2.2.2.2.1, (s9.1.2.2.2.2.2.1, (s9.1.2.2.2.2.2.2.1, ())))))))] : List (Den kapiCall)).flatMap (Kd.cells kapiCall)) fun p19 h20 =>
    appendM 7 56 h20 t18 ⟨some p19, 1, 1⟩ fun t21 h22 =>
    deref g1 fun a23 =>
    st (.sl : Kd) h22 (a23.add 5) t21 fun h24 =>
    Q true h24
def deque_game_begin.M (c_deque_Steal : Den kapiTodo → Heap → (Den kdequeOp → Heap → Prop) → Prop) (c_deque_Push : Den kapiTodo → Int → Heap → (Den kdequeOp → Heap → Prop) → Prop) (c_deque_Pop : Den kapiTodo → Heap → (Den kdequeOp → Heap → Prop) → Prop) (g1 : Option Addr) (n2 : Int) (who3 : Int) (h4 : Heap) (Q : Bool → Heap → Prop) : Prop :=
    deref g1 fun a5 =>
    ld kapiTodo h4 (a5.add 1) fun t6 =>
    c_deque_Steal t6 h4 fun r7 h8 =>
    (((decide (who3 = 0)) = true →
    deref g1 fun a25 =>
    ld (.sl : Kd) h8 (a25.add 3) fun t26 =>
    (((decide ((t26.len : Int) = 0)) = true →
    Q false h8) ∧
    ((decide ((t26.len : Int) = 0)) = false →
    deref g1 fun a27 =>
    ld (.sl : Kd) h8 (a27.add 3) fun t28 =>
    (0 ≤ (0 : Int) ∧ (0 : Int) < (t28.len : Int)) ∧
    deref t28.a fun a29 =>
    ld kapiTodo h8 (a29.add (((0 : Int) : Int).toNat * 2)) fun t30 =>
    deref g1 fun a31 =>
    ld (.sl : Kd) h8 (a31.add 3) fun t32 =>
    (0 ≤ (1 : Int) ∧ (1 : Int) ≤ (t32.len : Int)) ∧
    deref g1 fun a33 =>
    st (.sl : Kd) h8 (a33.add 3) (t32.cut (((1 : Int) : Int).toNat) t32.len 2) fun h34 =>
    (((decide (t30.1 = 0)) = true →
    deref g1 fun a35 =>
    ld kapiTodo h34 (a35.add 1) fun t36 =>
    c_deque_Push t36 t30.2.1 h34 fun r37 h38 =>
    deque_game_begin.j1 g1 who3 Q ((who3, (t30.1, (t30.2.1, (n2, ((-1), (0, (0, ()))))))), (r37.1, (r37.2.1, (r37.2.2.1.1, (r37.2.2.1.2.1, (r37.2.2.2.1, (r37.2.2.2.2.1, (r37.2.2.2.2.2.1, (r37.2.2.2.2.2.2.1, (r37.2.2.2.2.2.2.2.1, (r37.2.2.2.2.2.2.2.2.1, (r37.2.2.2.2.2.2.2.2.2.1, (r37.2.2.2.2.2.2.2.2.2.2.1, (r37.2.2.2.2.2.2.2.2.2.2.2.1, (r37.2.2.2.2.2.2.2.2.2.2.2.2.1, (r37.2.2.2.2.2.2.2.2.2.2.2.2.2.1, (r37.2.2.2.2.2.2.2.2.2.2.2.2.2.2.1, ())))))))))))))))), ()) h38) ∧
    ((decide (t30.1 = 0)) = false →
    deref g1 fun a39 =>
    ld kapiTodo h34 (a39.add 1) fun t40 =>
    c_deque_Pop t40 h34 fun r41 h42 =>
    deque_game_begin.j1 g1 who3 Q ((who3, (t30.1, (0, (n2, ((-1), (0, (0, ()))))))), (r41.1, (r41.2.1, (r41.2.2.1.1, (r41.2.2.1.2.1, (r41.2.2.2.1, (r41.2.2.2.2.1, (r41.2.2.2.2.2.1, (r41.2.2.2.2.2.2.1, (r41.2.2.2.2.2.2.2.1, (r41.2.2.2.2.2.2.2.2.1, (r41.2.2.2.2.2.2.2.2.2.1, (r41.2.2.2.2.2.2.2.2.2.2.1, (r41.2.2.2.2.2.2.2.2.2.2.2.1, (r41.2.2.2.2.2.2.2.2.2.2.2.2.1, (r41.2.2.2.2.2.2.2.2.2.2.2.2.2.1, (r41.2.2.2.2.2.2.2.2.2.2.2.2.2.2.1, ())))))))))))))))), ()) h42))))) ∧
    ((decide (who3 = 0)) = false →
    deque_game_begin.j1 g1 who3 Q ((who3, (2, (0, (n2, ((-1), (0, (0, ()))))))), (r7.1, (r7.2.1, (r7.2.2.1.1, (r7.2.2.1.2.1, (r7.2.2.2.1, (r7.2.2.2.2.1, (r7.2.2.2.2.2.1, (r7.2.2.2.2.2.2.1, (r7.2.2.2.2.2.2.2.1, (r7.2.2.2.2.2.2.2.2.1, (r7.2.2.2.2.2.2.2.2.2.1, (r7.2.2.2.2.2.2.2.2.2.2.1, (r7.2.2.2.2.2.2.2.2.2.2.2.1, (r7.2.2.2.2.2.2.2.2.2.2.2.2.1, (r7.2.2.2.2.2.2.2.2.2.2.2.2.2.1, (r7.2.2.2.2.2.2.2.2.2.2.2.2.2.2.1, ())))))))))))))))), ()) h8))
def deque_game_begin.mk : Mk := (.s .d (.s (.r [3]) (.s (.r [5]) (.j [.box 7 kapiCall, .box 8 (.pair (.int .i64) (.pair (.int .i64) (.pair (.int .i64) (.pair (.int .i64) (.pair (.int .i64) (.pair (.int .i64) (.pair (.int .i64) (.pair (.int .i64) (.pair (.int .i64) (.pair (.int .i64) (.pair (.int .i64) (.pair (.int .i64) (.pair (.int .i64) (.pair .bool kapiTodo))))))))))))))] (.s .d (.c (.s (.s .d (.c (.s .d .d) .d)) (.s (.r [6]) (.s .d (.s .d (.s .d (.c (.s .d (.q [] [8] [.p 0, .p 1, .p 2, .p 4, .w 3 [3, 6, 7], .w 5 [5, 6, 7], .o 6, .o 7])) .d)))))) .d)) (.s (.q [] [] [.p 0, .p 1, .p 2, .p 4, .p 6, .p 7, .p 8, .w 3 [3, 12, 13], .w 5 [5, 11, 12, 13], .w 9 [9, 10, 11, 12, 13], .p 10, .p 11, .p 12, .o 13]) (.s (.q [] [] [.p 0, .p 1, .p 2, .p 3, .w 4 [4, 7, 8, 9, 10], .w 5 [5, 6, 7, 8, 9, 10], .o 6, .o 7, .p 8, .p 9, .o 10]) (.s .d .d)))))))

def cells_Arena_Who.M  (a1 : Option Addr) (actor2 : Int) (h3 : Heap) (Q : Unit → Heap → Prop) : Prop :=
    (((Option.isSome a1) = true →
    deref a1 fun a4 =>
    st ((.int .i64) : Kd) h3 (a4.add 4) actor2 fun h5 =>
    Q () h5) ∧
    ((Option.isSome a1) = false →
    Q () h3))
def cells_Arena_Who.mk : Mk := (.s .d (.c .d .d))

def deque_Step.j1 (c_deque_Op_over : Den kdequeOp → Int → Int → Heap → (Den kdequeOp → Heap → Prop) → Prop) (c_deque_Op_access : Den kdequeOp → Value → Heap → (Den kapiTodo → Heap → Prop) → Prop) (c_deque_Op_pushed : Den kdequeOp → Int → Heap → (Den kdequeOp → Heap → Prop) → Prop) (c_deque_Op_popped : Den kdequeOp → Int → Heap → (Den kdequeOp → Heap → Prop) → Prop) (c_deque_Op_stolen : Den kdequeOp → Int → Heap → (Den kdequeOp → Heap → Prop) → Prop) (c_deque_Op_looked : Den kdequeOp → Int → Heap → (Den kdequeOp → Heap → Prop) → Prop) (m1 : Value) (o2 : Den kdequeOp) (Q : Den kdequeOp → Heap → Prop) (s4 : ((Int × (Int × (Int × (Int × (Int × (Int × (Int × (Int × (Int × (Int × (Int × (Int × (Int × (Bool × Den kapiTodo)))))))))))))) × Unit)) (h5 : Heap) : Prop :=
    isI m1 ∧
    (((isNilI m1) = true →
    c_deque_Op_over (o2.1, (o2.2.1, ((o2.2.2.1.1, (o2.2.2.1.2.1, ())), (o2.2.2.2.1, (o2.2.2.2.2.1, (o2.2.2.2.2.2.1, (o2.2.2.2.2.2.2.1, (o2.2.2.2.2.2.2.2.1, (o2.2.2.2.2.2.2.2.2.1, (o2.2.2.2.2.2.2.2.2.2.1, (o2.2.2.2.2.2.2.2.2.2.2.1, (o2.2.2.2.2.2.2.2.2.2.2.2.1, (o2.2.2.2.2.2.2.2.2.2.2.2.2.1, (o2.2.2.2.2.2.2.2.2.2.2.2.2.2.1, (o2.2.2.2.2.2.2.2.2.2.2.2.2.2.2.1, ()))))))))))))))) 1 0 h5 fun r6 h7 =>
    Q (r6.1, (r6.2.1, ((r6.2.2.1.1, (r6.2.2.1.2.1, ())), (r6.2.2.2.1, (r6.2.2.2.2.1, (r6.2.2.2.2.2.1, (r6.2.2.2.2.2.2.1, (r6.2.2.2.2.2.2.2.1, (r6.2.2.2.2.2.2.2.2.1, (r6.2.2.2.2.2.2.2.2.2.1, (r6.2.2.2.2.2.2.2.2.2.2.1, (r6.2.2.2.2.2.2.2.2.2.2.2.1, (r6.2.2.2.2.2.2.2.2.2.2.2.2.1, (r6.2.2.2.2.2.2.2.2.2.2.2.2.2.1, (r6.2.2.2.2.2.2.2.2.2.2.2.2.2.2.1, ()))))))))))))))) h7) ∧
    ((isNilI m1) = false →
    c_deque_Op_access (o2.1, (o2.2.1, ((o2.2.2.1.1, (o2.2.2.1.2.1, ())), (o2.2.2.2.1, (o2.2.2.2.2.1, (o2.2.2.2.2.2.1, (o2.2.2.2.2.2.2.1, (o2.2.2.2.2.2.2.2.1, (o2.2.2.2.2.2.2.2.2.1, (o2.2.2.2.2.2.2.2.2.2.1, (o2.2.2.2.2.2.2.2.2.2.2.1, (o2.2.2.2.2.2.2.2.2.2.2.2.1, (o2.2.2.2.2.2.2.2.2.2.2.2.2.1, (o2.2.2.2.2.2.2.2.2.2.2.2.2.2.1, (o2.2.2.2.2.2.2.2.2.2.2.2.2.2.2.1, ()))))))))))))))) m1 h5 fun r8 h9 =>
    (((decide (r8.2.1 ≠ 0)) = true →
    c_deque_Op_over (o2.1, (o2.2.1, ((o2.2.2.1.1, (o2.2.2.1.2.1, ())), (o2.2.2.2.1, (o2.2.2.2.2.1, (o2.2.2.2.2.2.1, (o2.2.2.2.2.2.2.1, (o2.2.2.2.2.2.2.2.1, (o2.2.2.2.2.2.2.2.2.1, (o2.2.2.2.2.2.2.2.2.2.1, (o2.2.2.2.2.2.2.2.2.2.2.1, (o2.2.2.2.2.2.2.2.2.2.2.2.1, (o2.2.2.2.2.2.2.2.2.2.2.2.2.1, (o2.2.2.2.2.2.2.2.2.2.2.2.2.2.1, (o2.2.2.2.2.2.2.2.2.2.2.2.2.2.2.1, ()))))))))))))))) 1 0 h9 fun r10 h11 =>
    Q (r10.1, (r10.2.1, ((r10.2.2.1.1, (r10.2.2.1.2.1, ())), (r10.2.2.2.1, (r10.2.2.2.2.1, (r10.2.2.2.2.2.1, (r10.2.2.2.2.2.2.1, (r10.2.2.2.2.2.2.2.1, (r10.2.2.2.2.2.2.2.2.1, (r10.2.2.2.2.2.2.2.2.2.1, (r10.2.2.2.2.2.2.2.2.2.2.1, (r10.2.2.2.2.2.2.2.2.2.2.2.1, (r10.2.2.2.2.2.2.2.2.2.2.2.2.1, (r10.2.2.2.2.2.2.2.2.2.2.2.2.2.1, (r10.2.2.2.2.2.2.2.2.2.2.2.2.2.2.1, ()))))))))))))))) h11) ∧
    ((decide (r8.2.1 ≠ 0)) = false →
    (((decide (o2.1 = 1)) = true →
    c_deque_Op_pushed (o2.1, (o2.2.1, ((o2.2.2.1.1, (o2.2.2.1.2.1, ())), (o2.2.2.2.1, (o2.2.2.2.2.1, (o2.2.2.2.2.2.1, (o2.2.2.2.2.2.2.1, (o2.2.2.2.2.2.2.2.1, (o2.2.2.2.2.2.2.2.2.1, (o2.2.2.2.2.2.2.2.2.2.1, (o2.2.2.2.2.2.2.2.2.2.2.1, (o2.2.2.2.2.2.2.2.2.2.2.2.1, (o2.2.2.2.2.2.2.2.2.2.2.2.2.1, (o2.2.2.2.2.2.2.2.2.2.2.2.2.2.1, (o2.2.2.2.2.2.2.2.2.2.2.2.2.2.2.1, ()))))))))))))))) r8.1 h9 fun r12 h13 =>
    Q (r12.1, (r12.2.1, ((r12.2.2.1.1, (r12.2.2.1.2.1, ())), (r12.2.2.2.1, (r12.2.2.2.2.1, (r12.2.2.2.2.2.1, (r12.2.2.2.2.2.2.1, (r12.2.2.2.2.2.2.2.1, (r12.2.2.2.2.2.2.2.2.1, (r12.2.2.2.2.2.2.2.2.2.1, (r12.2.2.2.2.2.2.2.2.2.2.1, (r12.2.2.2.2.2.2.2.2.2.2.2.1, (r12.2.2.2.2.2.2.2.2.2.2.2.2.1, (r12.2.2.2.2.2.2.2.2.2.2.2.2.2.1, (r12.2.2.2.2.2.2.2.2.2.2.2.2.2.2.1, ()))))))))))))))) h13) ∧
    ((decide (o2.1 = 1)) = false →
    (((decide (o2.1 = 2)) = true →
    c_deque_Op_popped (o2.1, (o2.2.1, ((o2.2.2.1.1, (o2.2.2.1.2.1, ())), (o2.2.2.2.1, (o2.2.2.2.2.1, (o2.2.2.2.2.2.1, (o2.2.2.2.2.2.2.1, (o2.2.2.2.2.2.2.2.1, (o2.2.2.2.2.2.2.2.2.1, (o2.2.2.2.2.2.2.2.2.2.1, (o2.2.2.2.2.2.2.2.2.2.2.1, (o2.2.2.2.2.2.2.2.2.2.2.2.1, (o2.2.2.2.2.2.2.2.2.2.2.2.2.1, (o2.2.2.2.2.2.2.2.2.2.2.2.2.2.1, (o2.2.2.2.2.2.2.2.2.2.2.2.2.2.2.1, ()))))))))))))))) r8.1 h9 fun r14 h15 =>
    Q (r14.1, (r14.2.1, ((r14.2.2.1.1, (r14.2.2.1.2.1, ())), (r14.2.2.2.1, (r14.2.2.2.2.1, (r14.2.2.2.2.2.1, (r14.2.2.2.2.2.2.1, (r14.2.2.2.2.2.2.2.1, (r14.2.2.2.2.2.2.2.2.1, (r14.2.2.2.2.2.2.2.2.2.1, (r14.2.2.2.2.2.2.2.2.2.2.1, (r14.2.2.2.2.2.2.2.2.2.2.2.1, (r14.2.2.2.2.2.2.2.2.2.2.2.2.1, (r14.2.2.2.2.2.2.2.2.2.2.2.2.2.1, (r14.2.2.2.2.2.2.2.2.2.2.2.2.2.2.1, ()))))))))))))))) h15) ∧
    ((decide (o2.1 = 2)) = false →
    (((decide (o2.1 = 3)) = true →
    c_deque_Op_stolen (o2.1, (o2.2.1, ((o2.2.2.1.1, (o2.2.2.1.2.1, ())), (o2.2.2.2.1, (o2.2.2.2.2.1, (o2.2.2.2.2.2.1, (o2.2.2.2.2.2.2.1, (o2.2.2.2.2.2.2.2.1, (o2.2.2.2.2.2.2.2.2.1, (o2.2.2.2.2.2.2.2.2.2.1, (o2.2.2.2.2.2.2.2.2.2.2.1, (o2.2.2.2.2.2.2.2.2.2.2.2.1, (o2.2.2.2.2.2.2.2.2.2.2.2.2.1, (o2.2.2.2.2.2.2.2.2.2.2.2.2.2.1, (o2.2.2.2.2.2.2.2.2.2.2.2.2.2.2.1, ()))))))))))))))) r8.1 h9 fun r16 h17 =>
    Q (r16.1, (r16.2.1, ((r16.2.2.1.1, (r16.2.2.1.2.1, ())), (r16.2.2.2.1, (r16.2.2.2.2.1, (r16.2.2.2.2.2.1, (r16.2.2.2.2.2.2.1, (r16.2.2.2.2.2.2.2.1, (r16.2.2.2.2.2.2.2.2.1, (r16.2.2.2.2.2.2.2.2.2.1, (r16.2.2.2.2.2.2.2.2.2.2.1, (r16.2.2.2.2.2.2.2.2.2.2.2.1, (r16.2.2.2.2.2.2.2.2.2.2.2.2.1, (r16.2.2.2.2.2.2.2.2.2.2.2.2.2.1, (r16.2.2.2.2.2.2.2.2.2.2.2.2.2.2.1, ()))))))))))))))) h17) ∧
    ((decide (o2.1 = 3)) = false →
    c_deque_Op_looked (o2.1, (o2.2.1, ((o2.2.2.1.1, (o2.2.2.1.2.1, ())), (o2.2.2.2.1, (o2.2.2.2.2.1, (o2.2.2.2.2.2.1, (o2.2.2.2.2.2.2.1, (o2.2.2.2.2.2.2.2.1, (o2.2.2.2.2.2.2.2.2.1, (o2.2.2.2.2.2.2.2.2.2.1, (o2.2.2.2.2.2.2.2.2.2.2.1, (o2.2.2.2.2.2.2.2.2.2.2.2.1, (o2.2.2.2.2.2.2.2.2.2.2.2.2.1, (o2.2.2.2.2.2.2.2.2.2.2.2.2.2.1, (o2.2.2.2.2.2.2.2.2.2.2.2.2.2.2.1, ()))))))))))))))) r8.1 h9 fun r18 h19 =>
    Q (r18.1, (r18.2.1, ((r18.2.2.1.1, (r18.2.2.1.2.1, ())), (r18.2.2.2.1, (r18.2.2.2.2.1, (r18.2.2.2.2.2.1, (r18.2.2.2.2.2.2.1, (r18.2.2.2.2.2.2.2.1, (r18.2.2.2.2.2.2.2.2.1, (r18.2.2.2.2.2.2.2.2.2.1, (r18.2.2.2.2.2.2.2.2.2.2.1, (r18.2.2.2.2.2.2.2.2.2.2.2.1, (r18.2.2.2.2.2.2.2.2.2.2.2.2.1, (r18.2.2.2.2.2.2.2.2.2.2.2.2.2.1, (r18.2.2.2.2.2.2.2.2.2.2.2.2.2.2.1, ()))))))))))))))) h19))))))))))
def deque_Step.j2 (c_deque_Op_over : Den kdequeOp → Int → Int → Heap → (Den kdequeOp → Heap → Prop) → Prop) (c_deque_Op_access : Den kdequeOp → Value → Heap → (Den kapiTodo → Heap → Prop) → Prop) (c_deque_Op_pushed : Den kdequeOp → Int → Heap → (Den kdequeOp → Heap → Prop) → Prop) (c_deque_Op_popped : Den kdequeOp → Int → Heap → (Den kdequeOp → Heap → Prop) → Prop) (c_deque_Op_stolen : Den kdequeOp → Int → Heap → (Den kdequeOp → Heap → Prop) → Prop) (c_deque_Op_looked : Den kdequeOp → Int → Heap → (Den kdequeOp → Heap → Prop) → Prop) (m1 : Value) (o2 : Den kdequeOp) (Q : Den kdequeOp → Heap → Prop) (s20 : (Bool × Unit)) (h21 : Heap) : Prop :=
    ((s20.1 = true →
    Q (o2.1, (o2.2.1, ((o2.2.2.1.1, (o2.2.2.1.2.1, ())), (o2.2.2.2.1, (o2.2.2.2.2.1, (o2.2.2.2.2.2.1, (o2.2.2.2.2.2.2.1, (o2.2.2.2.2.2.2.2.1, (o2.2.2.2.2.2.2.2.2.1, (o2.2.2.2.2.2.2.2.2.2.1, (o2.2.2.2.2.2.2.2.2.2.2.1, (o2.2.2.2.2.2.2.2.2.2.2.2.1, (o2.2.2.2.2.2.2.2.2.2.2.2.2.1, (o2.2.2.2.2.2.2.2.2.2.2.2.2.2.1, (o2.2.2.2.2.2.2.2.2.2.2.2.2.2.2.1, ()))))))))))))))) h21) ∧
    (s20.1 = false →
    deque_Step.j1 c_deque_Op_over c_deque_Op_access c_deque_Op_pushed c_deque_Op_popped c_deque_Op_stolen c_deque_Op_looked m1 o2 Q ((0, (0, (0, (0, (0, (0, (0, (0, (0, (0, (0, (0, (0, (false, (0, (0, ())))))))))))))))), ()) h21))
def deque_Step.M (c_deque_Op_over : Den kdequeOp → Int → Int → Heap → (Den kdequeOp → Heap → Prop) → Prop) (c_deque_Op_access : Den kdequeOp → Value → Heap → (Den kapiTodo → Heap → Prop) → Prop) (c_deque_Op_pushed : Den kdequeOp → Int → Heap → (Den kdequeOp → Heap → Prop) → Prop) (c_deque_Op_popped : Den kdequeOp → Int → Heap → (Den kdequeOp → Heap → Prop) → Prop) (c_deque_Op_stolen : Den kdequeOp → Int → Heap → (Den kdequeOp → Heap → Prop) → Prop) (c_deque_Op_looked : Den kdequeOp → Int → Heap → (Den kdequeOp → Heap → Prop) → Prop) (m1 : Value) (o2 : Den kdequeOp) (h3 : Heap) (Q : Den kdequeOp → Heap → Prop) : Prop :=
    (((eqK kdequeOp (o2.1, (o2.2.1, ((o2.2.2.1.1, (o2.2.2.1.2.1, ())), (o2.2.2.2.1, (o2.2.2.2.2.1, (o2.2.2.2.2.2.1, (o2.2.2.2.2.2.2.1, (o2.2.2.2.2.2.2.2.1, (o2.2.2.2.2.2.2.2.2.1, (o2.2.2.2.2.2.2.2.2.2.1, (o2.2.2.2.2.2.2.2.2.2.2.1, (o2.2.2.2.2.2.2.2.2.2.2.2.1, (o2.2.2.2.2.2.2.2.2.2.2.2.2.1, (o2.2.2.2.2.2.2.2.2.2.2.2.2.2.1, (o2.2.2.2.2.2.2.2.2.2.2.2.2.2.2.1, ()))))))))))))))) (0, (0, ((0, (0, ())), (0, (0, (0, (0, (0, (0, (0, (0, (0, (false, (0, (0, ())))))))))))))))) = true →
    deque_Step.j2 c_deque_Op_over c_deque_Op_access c_deque_Op_pushed c_deque_Op_popped c_deque_Op_stolen c_deque_Op_looked m1 o2 Q (true, ()) h3) ∧
    ((eqK kdequeOp (o2.1, (o2.2.1, ((o2.2.2.1.1, (o2.2.2.1.2.1, ())), (o2.2.2.2.1, (o2.2.2.2.2.1, (o2.2.2.2.2.2.1, (o2.2.2.2.2.2.2.1, (o2.2.2.2.2.2.2.2.1, (o2.2.2.2.2.2.2.2.2.1, (o2.2.2.2.2.2.2.2.2.2.1, (o2.2.2.2.2.2.2.2.2.2.2.1, (o2.2.2.2.2.2.2.2.2.2.2.2.1, (o2.2.2.2.2.2.2.2.2.2.2.2.2.1, (o2.2.2.2.2.2.2.2.2.2.2.2.2.2.1, (o2.2.2.2.2.2.2.2.2.2.2.2.2.2.2.1, ()))))))))))))))) (0, (0, ((0, (0, ())), (0, (0, (0, (0, (0, (0, (0, (0, (0, (false, (0, (0, ())))))))))))))))) = false →
    deque_Step.j2 c_deque_Op_over c_deque_Op_access c_deque_Op_pushed c_deque_Op_popped c_deque_Op_stolen c_deque_Op_looked m1 o2 Q ((decide (o2.2.1 = 0)), ()) h3))
def deque_Step.mk : Mk := (.s (.r [0, 1]) (.j [.box 4 (.pair (.int .i64) (.pair (.int .i64) (.pair (.int .i64) (.pair (.int .i64) (.pair (.int .i64) (.pair (.int .i64) (.pair (.int .i64) (.pair (.int .i64) (.pair (.int .i64) (.pair (.int .i64) (.pair (.int .i64) (.pair (.int .i64) (.pair (.int .i64) (.pair .bool kapiTodo))))))))))))))] (.j [.slot 14 .bool] .d (.c (.s .d .d) .d)) (.s (.s .d (.c (.s .d .d) .d)) (.s .d (.s (.s .d (.c (.s .d .d) .d)) (.s (.s .d (.b (.s .d (.c (.s .d .d) (.s .d (.c (.s .d .d) (.s .d (.c (.s .d .d) .d)))))))) (.s .d .d)))))))

def deque_Answer.M  (o1 : Den kdequeOp) (h2 : Heap) (Q : Den kapiTodo → Heap → Prop) : Prop :=
    (((eqK kdequeOp (o1.1, (o1.2.1, ((o1.2.2.1.1, (o1.2.2.1.2.1, ())), (o1.2.2.2.1, (o1.2.2.2.2.1, (o1.2.2.2.2.2.1, (o1.2.2.2.2.2.2.1, (o1.2.2.2.2.2.2.2.1, (o1.2.2.2.2.2.2.2.2.1, (o1.2.2.2.2.2.2.2.2.2.1, (o1.2.2.2.2.2.2.2.2.2.2.1, (o1.2.2.2.2.2.2.2.2.2.2.2.1, (o1.2.2.2.2.2.2.2.2.2.2.2.2.1, (o1.2.2.2.2.2.2.2.2.2.2.2.2.2.1, (o1.2.2.2.2.2.2.2.2.2.2.2.2.2.2.1, ()))))))))))))))) (0, (0, ((0, (0, ())), (0, (0, (0, (0, (0, (0, (0, (0, (0, (false, (0, (0, ())))))))))))))))) = true →
    Q (1, 0, ()) h2) ∧
    ((eqK kdequeOp (o1.1, (o1.2.1, ((o1.2.2.1.1, (o1.2.2.1.2.1, ())), (o1.2.2.2.1, (o1.2.2.2.2.1, (o1.2.2.2.2.2.1, (o1.2.2.2.2.2.2.1, (o1.2.2.2.2.2.2.2.1, (o1.2.2.2.2.2.2.2.2.1, (o1.2.2.2.2.2.2.2.2.2.1, (o1.2.2.2.2.2.2.2.2.2.2.1, (o1.2.2.2.2.2.2.2.2.2.2.2.1, (o1.2.2.2.2.2.2.2.2.2.2.2.2.1, (o1.2.2.2.2.2.2.2.2.2.2.2.2.2.1, (o1.2.2.2.2.2.2.2.2.2.2.2.2.2.2.1, ()))))))))))))))) (0, (0, ((0, (0, ())), (0, (0, (0, (0, (0, (0, (0, (0, (0, (false, (0, (0, ())))))))))))))))) = false →
    (((decide (o1.2.1 ≠ 0)) = true →
    Q (0, 0, ()) h2) ∧
    ((decide (o1.2.1 ≠ 0)) = false →
    Q (o1.2.2.2.2.2.2.2.2.2.2.2.2.2.1, o1.2.2.2.2.2.2.2.2.2.2.2.2.2.2.1, ()) h2))))
def deque_Answer.mk : Mk := (.s (.r [0]) (.s (.b (.s .d (.c (.s .d .d) (.s .d (.c (.s .d .d) .d))))) (.s (.q [] [] [.p 0, .p 2, .w 1 [1, 4, 5], .p 4, .w 3 [3, 5], .p 5]) .d)))

def cells_Arena_Cells.M  (a1 : Option Addr) (h2 : Heap) (Q : Sl → Heap → Prop) : Prop :=
    (((Option.isNone a1) = true →
    Q ⟨none, 0, 0⟩ h2) ∧
    ((Option.isNone a1) = false →
    deref a1 fun a3 =>
    ld (.sl : Kd) h2 (a3.add 2) fun t4 =>
    makeM ((.int .i64) : Kd) 8 h2 (t4.len : Int) (t4.len : Int) fun s5 h6 =>
    deref a1 fun a7 =>
    ld (.sl : Kd) h6 (a7.add 2) fun t8 =>
    copyM 1 h6 s5 t8 fun n9 h10 =>
    Q s5 h10))
def cells_Arena_Cells.mk : Mk := (.s .d (.s (.s .d (.c (.s .d .d) .d)) (.s .d (.s .d (.s .d .d)))))

def deque_place.j1 (a1 : Int) (Q : Int → Heap → Prop) (s5 : (Int × Unit)) (h6 : Heap) : Prop :=
    Q (w64 ((w64 (a1 + 1)) + s5.1)) h6
def deque_place.M  (a1 : Int) (c2 : Int) (i3 : Int) (h4 : Heap) (Q : Int → Heap → Prop) : Prop :=
    c2 ≠ 0 ∧
    (((decide ((Int.tmod i3 c2) < 0)) = true →
    deque_place.j1 a1 Q ((w64 ((Int.tmod i3 c2) + c2)), ()) h4) ∧
    ((decide ((Int.tmod i3 c2) < 0)) = false →
    deque_place.j1 a1 Q ((Int.tmod i3 c2), ()) h4))
def deque_place.mk : Mk := (.s .d (.s .d (.j [.slot 7 (.int .i64)] (.s .d (.c .d .d)) (.s .d .d))))

def hist_sound.j1 (c_hist_may : Int → Int → Heap → (Bool → Heap → Prop) → Prop) (c1 : Den kapiCall) (Q : Bool → Heap → Prop) (s7 : Unit) (h8 : Heap) : Prop :=
    (((decide (c1.2.2.2.2.2.1 = 0)) = true →
    Q (decide (c1.2.2.2.2.1 = (-1))) h8) ∧
    ((decide (c1.2.2.2.2.2.1 = 0)) = false →
    (((decide (c1.2.2.2.1 ≤ c1.2.2.2.2.1)) = true →
    c_hist_may c1.2.1 c1.2.2.2.2.2.1 h8 fun r9 h10 =>
    Q r9 h10) ∧
    ((decide (c1.2.2.2.1 ≤ c1.2.2.2.2.1)) = false →
    Q false h8))))
def hist_sound.j2 (c_hist_may : Int → Int → Heap → (Bool → Heap → Prop) → Prop) (c1 : Den kapiCall) (Q : Bool → Heap → Prop) (s11 : (Bool × Unit)) (h12 : Heap) : Prop :=
    ((s11.1 = true →
    Q false h12) ∧
    (s11.1 = false →
    hist_sound.j1 c_hist_may c1 Q () h12))
def hist_sound.j3 (c_hist_may : Int → Int → Heap → (Bool → Heap → Prop) → Prop) (c1 : Den kapiCall) (Q : Bool → Heap → Prop) (s5 : Unit) (h6 : Heap) : Prop :=
    (((decide ((0 : Int) < c1.1)) = true →
    hist_sound.j2 c_hist_may c1 Q ((decide (c1.2.1 ≠ 2)), ()) h6) ∧
    ((decide ((0 : Int) < c1.1)) = false →
    hist_sound.j2 c_hist_may c1 Q (false, ()) h6))
def hist_sound.j4 (c_hist_may : Int → Int → Heap → (Bool → Heap → Prop) → Prop) (c1 : Den kapiCall) (Q : Bool → Heap → Prop) (s13 : (Bool × Unit)) (h14 : Heap) : Prop :=
    ((s13.1 = true →
    Q false h14) ∧
    (s13.1 = false →
    hist_sound.j3 c_hist_may c1 Q () h14))
def hist_sound.j5 (c_hist_may : Int → Int → Heap → (Bool → Heap → Prop) → Prop) (c1 : Den kapiCall) (Q : Bool → Heap → Prop) (s3 : Unit) (h4 : Heap) : Prop :=
    (((decide (c1.1 = 0)) = true →
    (((decide (c1.2.1 ≠ 0)) = true →
    hist_sound.j4 c_hist_may c1 Q ((decide (c1.2.1 ≠ 1)), ()) h4) ∧
    ((decide (c1.2.1 ≠ 0)) = false →
    hist_sound.j4 c_hist_may c1 Q (false, ()) h4))) ∧
    ((decide (c1.1 = 0)) = false →
    hist_sound.j4 c_hist_may c1 Q (false, ()) h4))
def hist_sound.j6 (c_hist_may : Int → Int → Heap → (Bool → Heap → Prop) → Prop) (c1 : Den kapiCall) (Q : Bool → Heap → Prop) (s15 : (Bool × Unit)) (h16 : Heap) : Prop :=
    ((s15.1 = true →
    Q false h16) ∧
    (s15.1 = false →
    hist_sound.j5 c_hist_may c1 Q () h16))
def hist_sound.M (c_hist_may : Int → Int → Heap → (Bool → Heap → Prop) → Prop) (c1 : Den kapiCall) (h2 : Heap) (Q : Bool → Heap → Prop) : Prop :=
    (((decide (c1.1 < 0)) = true →
    hist_sound.j6 c_hist_may c1 Q (true, ()) h2) ∧
    ((decide (c1.1 < 0)) = false →
    (((decide ((4 : Int) ≤ c1.1)) = true →
    hist_sound.j6 c_hist_may c1 Q (true, ()) h2) ∧
    ((decide ((4 : Int) ≤ c1.1)) = false →
    hist_sound.j6 c_hist_may c1 Q ((decide (c1.2.2.2.1 < 0)), ()) h2))))
def hist_sound.mk : Mk := (.s (.r [0]) (.j [] (.j [.slot 15 .bool] .d (.c (.s .d .d) .d)) (.j [] (.j [.slot 28 .bool] .d (.c (.s .d .d) .d)) (.j [] (.j [.slot 36 .bool] .d (.c (.s .d .d) .d)) (.s (.s .d (.c (.s .d .d) .d)) (.s .d .d))))))

def hist_search_done.l1 (s1 : Option Addr) (taken2 : (Fin 4 → Int)) (Q : Bool → Heap → Prop) (t5 : (Fin 4 → Sl)) (go8 : (Int × Unit) → Heap → Prop) (s6 : (Int × Unit)) (go11 : (Int × Unit) → Heap → Prop) (s9 : (Int × Unit)) (h10 : Heap) : Prop :=
    (((decide (s9.1 < (((aget (n := 4) (a := (.sl : Kd)) t5 (s6.1 : Int).toNat).cut (((aget (n := 4) (a := ((.int .i64) : Kd)) taken2 (s6.1 : Int).toNat) : Int).toNat) ((aget (n := 4) (a := (.sl : Kd)) t5 (s6.1 : Int).toNat).len) 1).len : Int))) = true →
    (0 ≤ s9.1 ∧ s9.1 < (((aget (n := 4) (a := (.sl : Kd)) t5 (s6.1 : Int).toNat).cut (((aget (n := 4) (a := ((.int .i64) : Kd)) taken2 (s6.1 : Int).toNat) : Int).toNat) ((aget (n := 4) (a := (.sl : Kd)) t5 (s6.1 : Int).toNat).len) 1).len : Int)) ∧
    deref ((aget (n := 4) (a := (.sl : Kd)) t5 (s6.1 : Int).toNat).cut (((aget (n := 4) (a := ((.int .i64) : Kd)) taken2 (s6.1 : Int).toNat) : Int).toNat) ((aget (n := 4) (a := (.sl : Kd)) t5 (s6.1 : Int).toNat).len) 1).a fun a12 =>
    ld ((.int .i64) : Kd) h10 (a12.add ((s9.1 : Int).toNat * 1)) fun t13 =>
    deref s1 fun a14 =>
    ld (.sl : Kd) h10 (a14.add 0) fun t15 =>
    (0 ≤ t13 ∧ t13 < (t15.len : Int)) ∧
    deref t15.a fun a16 =>
    ld ((.int .i64) : Kd) h10 ((a16.add ((t13 : Int).toNat * 7)).add 5) fun t17 =>
    (((decide (t17 ≠ 0)) = true →
    Q false h10) ∧
    ((decide (t17 ≠ 0)) = false →
    go11 ((w64 (s9.1 + 1)), ()) h10))) ∧
    ((decide (s9.1 < (((aget (n := 4) (a := (.sl : Kd)) t5 (s6.1 : Int).toNat).cut (((aget (n := 4) (a := ((.int .i64) : Kd)) taken2 (s6.1 : Int).toNat) : Int).toNat) ((aget (n := 4) (a := (.sl : Kd)) t5 (s6.1 : Int).toNat).len) 1).len : Int))) = false →
    go8 ((w64 (s6.1 + 1)), ()) h10))
def hist_search_done.l2 (s1 : Option Addr) (taken2 : (Fin 4 → Int)) (Q : Bool → Heap → Prop) (t5 : (Fin 4 → Sl)) (go8 : (Int × Unit) → Heap → Prop) (s6 : (Int × Unit)) (h7 : Heap) : Prop :=
    (((decide (s6.1 < 4)) = true →
    (0 ≤ s6.1 ∧ s6.1 < (4 : Int)) ∧
    (0 ≤ s6.1 ∧ s6.1 < (4 : Int)) ∧
    (0 ≤ (aget (n := 4) (a := ((.int .i64) : Kd)) taken2 (s6.1 : Int).toNat) ∧ (aget (n := 4) (a := ((.int .i64) : Kd)) taken2 (s6.1 : Int).toNat) ≤ ((aget (n := 4) (a := (.sl : Kd)) t5 (s6.1 : Int).toNat).len : Int)) ∧
    Loop (hist_search_done.l1 s1 taken2 Q t5 go8 s6) (0, ()) h7) ∧
    ((decide (s6.1 < 4)) = false →
    Q true h7))
def hist_search_done.M  (s1 : Option Addr) (taken2 : (Fin 4 → Int)) (h3 : Heap) (Q : Bool → Heap → Prop) : Prop :=
    deref s1 fun a4 =>
    ld ((.arr 4 .sl) : Kd) h3 (a4.add 2) fun t5 =>
    Loop (hist_search_done.l2 s1 taken2 Q t5) (0, ()) h3
def hist_search_done.mk : Mk := (.s (.r [0]) (.s (.s .d (.b (.l [.slot 13 (.int .i64)] (.s .d (.s (.c .d .d) (.s (.b (.s .d (.s .d (.b (.l [.slot 23 (.int .i64)] (.s .d (.s (.c .d .d) (.s (.b (.s .d (.s .d (.c (.s .d .d) .d)))) .d)))))))) .d)))))) (.s .d .d)))

def hist_search_waits.j1 (go12 : (Int × Unit) → Heap → Prop) (s10 : (Int × Unit)) (s13 : Unit) (h14 : Heap) : Prop :=
    go12 ((w64 (s10.1 + 1)), ()) h14
def hist_search_waits.j2 (Q : Bool → Heap → Prop) (go12 : (Int × Unit) → Heap → Prop) (s10 : (Int × Unit)) (s21 : (Bool × Unit)) (h22 : Heap) : Prop :=
    ((s21.1 = true →
    Q true h22) ∧
    (s21.1 = false →
    hist_search_waits.j1 go12 s10 () h22))
def hist_search_waits.l3 (s1 : Option Addr) (taken2 : (Fin 4 → Int)) (c3 : Den kapiCall) (Q : Bool → Heap → Prop) (t6 : (Fin 4 → Sl)) (go9 : (Int × Unit) → Heap → Prop) (s7 : (Int × Unit)) (go12 : (Int × Unit) → Heap → Prop) (s10 : (Int × Unit)) (h11 : Heap) : Prop :=
    (((decide (s10.1 < (((aget (n := 4) (a := (.sl : Kd)) t6 (s7.1 : Int).toNat).cut (((aget (n := 4) (a := ((.int .i64) : Kd)) taken2 (s7.1 : Int).toNat) : Int).toNat) ((aget (n := 4) (a := (.sl : Kd)) t6 (s7.1 : Int).toNat).len) 1).len : Int))) = true →
    (0 ≤ s10.1 ∧ s10.1 < (((aget (n := 4) (a := (.sl : Kd)) t6 (s7.1 : Int).toNat).cut (((aget (n := 4) (a := ((.int .i64) : Kd)) taken2 (s7.1 : Int).toNat) : Int).toNat) ((aget (n := 4) (a := (.sl : Kd)) t6 (s7.1 : Int).toNat).len) 1).len : Int)) ∧
    deref ((aget (n := 4) (a := (.sl : Kd)) t6 (s7.1 : Int).toNat).cut (((aget (n := 4) (a := ((.int .i64) : Kd)) taken2 (s7.1 : Int).toNat) : Int).toNat) ((aget (n := 4) (a := (.sl : Kd)) t6 (s7.1 : Int).toNat).len) 1).a fun a15 =>
    ld ((.int .i64) : Kd) h11 (a15.add ((s10.1 : Int).toNat * 1)) fun t16 =>
    deref s1 fun a17 =>
    ld (.sl : Kd) h11 (a17.add 0) fun t18 =>
    (0 ≤ t16 ∧ t16 < (t18.len : Int)) ∧
    deref t18.a fun a19 =>
    ld kapiCall h11 (a19.add ((t16 : Int).toNat * 7)) fun t20 =>
    (((decide (t20.2.2.2.2.2.1 ≠ 0)) = true →
    hist_search_waits.j2 Q go12 s10 ((decide (t20.2.2.2.2.1 < c3.2.2.2.1)), ()) h11) ∧
    ((decide (t20.2.2.2.2.2.1 ≠ 0)) = false →
    hist_search_waits.j2 Q go12 s10 (false, ()) h11))) ∧
    ((decide (s10.1 < (((aget (n := 4) (a := (.sl : Kd)) t6 (s7.1 : Int).toNat).cut (((aget (n := 4) (a := ((.int .i64) : Kd)) taken2 (s7.1 : Int).toNat) : Int).toNat) ((aget (n := 4) (a := (.sl : Kd)) t6 (s7.1 : Int).toNat).len) 1).len : Int))) = false →
    go9 ((w64 (s7.1 + 1)), ()) h11))
def hist_search_waits.l4 (s1 : Option Addr) (taken2 : (Fin 4 → Int)) (c3 : Den kapiCall) (Q : Bool → Heap → Prop) (t6 : (Fin 4 → Sl)) (go9 : (Int × Unit) → Heap → Prop) (s7 : (Int × Unit)) (h8 : Heap) : Prop :=
    (((decide (s7.1 < 4)) = true →
    (0 ≤ s7.1 ∧ s7.1 < (4 : Int)) ∧
    (0 ≤ s7.1 ∧ s7.1 < (4 : Int)) ∧
    (0 ≤ (aget (n := 4) (a := ((.int .i64) : Kd)) taken2 (s7.1 : Int).toNat) ∧ (aget (n := 4) (a := ((.int .i64) : Kd)) taken2 (s7.1 : Int).toNat) ≤ ((aget (n := 4) (a := (.sl : Kd)) t6 (s7.1 : Int).toNat).len : Int)) ∧
    Loop (hist_search_waits.l3 s1 taken2 c3 Q t6 go9 s7) (0, ()) h8) ∧
    ((decide (s7.1 < 4)) = false →
    Q false h8))
def hist_search_waits.M  (s1 : Option Addr) (taken2 : (Fin 4 → Int)) (c3 : Den kapiCall) (h4 : Heap) (Q : Bool → Heap → Prop) : Prop :=
    deref s1 fun a5 =>
    ld ((.arr 4 .sl) : Kd) h4 (a5.add 2) fun t6 =>
    Loop (hist_search_waits.l4 s1 taken2 c3 Q t6) (0, ()) h4
def hist_search_waits.mk : Mk := (.s (.r [0, 1]) (.s (.s .d (.b (.l [.slot 16 (.int .i64)] (.s .d (.s (.c .d .d) (.s (.b (.s .d (.s .d (.b (.l [.slot 26 (.int .i64)] (.s .d (.s (.c .d .d) (.j [] (.b (.s .d (.s (.r [7]) (.j [.slot 46 .bool] .d (.c (.s .d .d) .d))))) .d)))))))) .d)))))) (.s .d .d)))

def ref4_History.j1 (go12 : (Int × Unit) → Heap → Prop) (s10 : (Int × Unit)) (s13 : Unit) (h14 : Heap) : Prop :=
    go12 ((w64 (s10.1 + 1)), ()) h14
def ref4_History.j2 (Q : Bool → Heap → Prop) (go12 : (Int × Unit) → Heap → Prop) (s10 : (Int × Unit)) (s15 : (Bool × Unit)) (h16 : Heap) : Prop :=
    ((s15.1 = true →
    Q false h16) ∧
    (s15.1 = false →
    ref4_History.j1 go12 s10 () h16))
def ref4_History.l3 (calls1 : Sl) (Q : Bool → Heap → Prop) (go5 : (Int × Unit) → Heap → Prop) (s3 : (Int × Unit)) (go12 : (Int × Unit) → Heap → Prop) (s10 : (Int × Unit)) (h11 : Heap) : Prop :=
    (((decide (s10.1 < s3.1)) = true →
    (0 ≤ s10.1 ∧ s10.1 < (calls1.len : Int)) ∧
    deref calls1.a fun a17 =>
    (0 ≤ s3.1 ∧ s3.1 < (calls1.len : Int)) ∧
    deref calls1.a fun a18 =>
    ld ((.int .i64) : Kd) h11 ((a17.add ((s10.1 : Int).toNat * 7)).add 0) fun t19 =>
    ld ((.int .i64) : Kd) h11 ((a18.add ((s3.1 : Int).toNat * 7)).add 0) fun t20 =>
    (((decide (t19 = t20)) = true →
    (0 ≤ s10.1 ∧ s10.1 < (calls1.len : Int)) ∧
    deref calls1.a fun a21 =>
    ld ((.int .i64) : Kd) h11 ((a21.add ((s10.1 : Int).toNat * 7)).add 4) fun t22 =>
    (((decide (t22 = (-1))) = true →
    ref4_History.j2 Q go12 s10 (true, ()) h11) ∧
    ((decide (t22 = (-1))) = false →
    (0 ≤ s10.1 ∧ s10.1 < (calls1.len : Int)) ∧
    deref calls1.a fun a23 =>
    (0 ≤ s3.1 ∧ s3.1 < (calls1.len : Int)) ∧
    deref calls1.a fun a24 =>
    ld ((.int .i64) : Kd) h11 ((a23.add ((s10.1 : Int).toNat * 7)).add 4) fun t25 =>
    ld ((.int .i64) : Kd) h11 ((a24.add ((s3.1 : Int).toNat * 7)).add 3) fun t26 =>
    ref4_History.j2 Q go12 s10 ((decide (t26 ≤ t25)), ()) h11))) ∧
    ((decide (t19 = t20)) = false →
    ref4_History.j2 Q go12 s10 (false, ()) h11))) ∧
    ((decide (s10.1 < s3.1)) = false →
    go5 ((w64 (s3.1 + 1)), ()) h11))
def ref4_History.l4 (c_ref4_single : Den kapiCall → Heap → (Bool → Heap → Prop) → Prop) (calls1 : Sl) (Q : Bool → Heap → Prop) (go5 : (Int × Unit) → Heap → Prop) (s3 : (Int × Unit)) (h4 : Heap) : Prop :=
    (((decide (s3.1 < (calls1.len : Int))) = true →
    (0 ≤ s3.1 ∧ s3.1 < (calls1.len : Int)) ∧
    deref calls1.a fun a6 =>
    ld kapiCall h4 (a6.add ((s3.1 : Int).toNat * 7)) fun t7 =>
    c_ref4_single t7 h4 fun r8 h9 =>
    (((!r8) = true →
    Q false h9) ∧
    ((!r8) = false →
    Loop (ref4_History.l3 calls1 Q go5 s3) (0, ()) h9))) ∧
    ((decide (s3.1 < (calls1.len : Int))) = false →
    Q true h4))
def ref4_History.M (c_ref4_single : Den kapiCall → Heap → (Bool → Heap → Prop) → Prop) (calls1 : Sl) (h2 : Heap) (Q : Bool → Heap → Prop) : Prop :=
    Loop (ref4_History.l4 c_ref4_single calls1 Q) (0, ()) h2
def ref4_History.mk : Mk := (.s .d (.s (.s .d (.b (.l [.slot 3 (.int .i64)] (.s (.s .d (.c .d .d)) (.s (.b (.s (.s .d (.c (.s .d .d) .d)) (.s .d (.b (.l [.slot 4 (.int .i64)] (.s (.s .d (.c .d .d)) (.j [] (.b (.j [.slot 53 .bool] (.q [] [] [.p 0, .p 1, .p 2, .p 3, .p 5, .p 6, .p 7, .p 8, .w 4 [4, 10, 11, 12, 13, 14, 15, 16, 17, 18, 19, 20, 21, 22, 23, 24, 25, 26, 27, 28, 29, 30, 31], .w 9 [9, 10, 11, 12, 13, 14, 15, 16, 17, 18, 19, 20, 21, 22, 23, 24, 25, 26, 27, 28, 29, 30, 31], .p 10, .p 11, .p 12, .p 13, .p 14, .p 15, .w 16 [16, 17, 18, 19, 20, 21, 22, 23, 24, 25, 26, 27, 28, 29, 30, 31], .p 17, .p 18, .p 19, .p 20, .p 21, .p 22, .p 24, .p 25, .p 26, .p 27, .w 23 [23, 29, 30, 31], .w 28 [28, 29, 30, 31], .p 29, .p 30, .p 31]) (.c (.s .d .d) .d))) .d))))))) .d))))) (.s .d .d)))

def deque_Steal.M (c_deque_begin : Int → Int → Den kapiTodo → Int → Heap → (Den kdequeOp → Heap → Prop) → Prop) (d1 : Den kapiTodo) (h2 : Heap) (Q : Den kdequeOp → Heap → Prop) : Prop :=
    c_deque_begin 3 2 (d1.1, (d1.2.1, ())) 0 h2 fun r3 h4 =>
    Q (r3.1, (r3.2.1, ((r3.2.2.1.1, (r3.2.2.1.2.1, ())), (r3.2.2.2.1, (r3.2.2.2.2.1, (r3.2.2.2.2.2.1, (r3.2.2.2.2.2.2.1, (r3.2.2.2.2.2.2.2.1, (r3.2.2.2.2.2.2.2.2.1, (r3.2.2.2.2.2.2.2.2.2.1, (r3.2.2.2.2.2.2.2.2.2.2.1, (r3.2.2.2.2.2.2.2.2.2.2.2.1, (r3.2.2.2.2.2.2.2.2.2.2.2.2.1, (r3.2.2.2.2.2.2.2.2.2.2.2.2.2.1, (r3.2.2.2.2.2.2.2.2.2.2.2.2.2.2.1, ()))))))))))))))) h4
def deque_Steal.mk : Mk := (.s (.r [0, 1]) (.s .d .d))

def deque_Push.M (c_deque_begin : Int → Int → Den kapiTodo → Int → Heap → (Den kdequeOp → Heap → Prop) → Prop) (d1 : Den kapiTodo) (v2 : Int) (h3 : Heap) (Q : Den kdequeOp → Heap → Prop) : Prop :=
    c_deque_begin 1 1 (d1.1, (d1.2.1, ())) v2 h3 fun r4 h5 =>
    Q (r4.1, (r4.2.1, ((r4.2.2.1.1, (r4.2.2.1.2.1, ())), (r4.2.2.2.1, (r4.2.2.2.2.1, (r4.2.2.2.2.2.1, (r4.2.2.2.2.2.2.1, (r4.2.2.2.2.2.2.2.1, (r4.2.2.2.2.2.2.2.2.1, (r4.2.2.2.2.2.2.2.2.2.1, (r4.2.2.2.2.2.2.2.2.2.2.1, (r4.2.2.2.2.2.2.2.2.2.2.2.1, (r4.2.2.2.2.2.2.2.2.2.2.2.2.1, (r4.2.2.2.2.2.2.2.2.2.2.2.2.2.1, (r4.2.2.2.2.2.2.2.2.2.2.2.2.2.2.1, ()))))))))))))))) h5
def deque_Push.mk : Mk := (.s (.r [0, 1]) (.s .d .d))

def deque_Pop.M (c_deque_begin : Int → Int → Den kapiTodo → Int → Heap → (Den kdequeOp → Heap → Prop) → Prop) (d1 : Den kapiTodo) (h2 : Heap) (Q : Den kdequeOp → Heap → Prop) : Prop :=
    c_deque_begin 2 1 (d1.1, (d1.2.1, ())) 0 h2 fun r3 h4 =>
    Q (r3.1, (r3.2.1, ((r3.2.2.1.1, (r3.2.2.1.2.1, ())), (r3.2.2.2.1, (r3.2.2.2.2.1, (r3.2.2.2.2.2.1, (r3.2.2.2.2.2.2.1, (r3.2.2.2.2.2.2.2.1, (r3.2.2.2.2.2.2.2.2.1, (r3.2.2.2.2.2.2.2.2.2.1, (r3.2.2.2.2.2.2.2.2.2.2.1, (r3.2.2.2.2.2.2.2.2.2.2.2.1, (r3.2.2.2.2.2.2.2.2.2.2.2.2.1, (r3.2.2.2.2.2.2.2.2.2.2.2.2.2.1, (r3.2.2.2.2.2.2.2.2.2.2.2.2.2.2.1, ()))))))))))))))) h4
def deque_Pop.mk : Mk := (.s (.r [0, 1]) (.s .d .d))

def deque_Op_over.M  (o1 : Den kdequeOp) (code2 : Int) (v3 : Int) (h4 : Heap) (Q : Den kdequeOp → Heap → Prop) : Prop :=
    Q (o1.1, (0, ((o1.2.2.1.1, (o1.2.2.1.2.1, ())), (o1.2.2.2.1, (o1.2.2.2.2.1, (o1.2.2.2.2.2.1, (o1.2.2.2.2.2.2.1, (o1.2.2.2.2.2.2.2.1, (o1.2.2.2.2.2.2.2.2.1, (o1.2.2.2.2.2.2.2.2.2.1, (o1.2.2.2.2.2.2.2.2.2.2.1, (o1.2.2.2.2.2.2.2.2.2.2.2.1, (o1.2.2.2.2.2.2.2.2.2.2.2.2.1, (code2, (v3, ()))))))))))))))) h4
def deque_Op_over.mk : Mk := (.s (.r [0, 1]) (.s .d (.s .d .d)))

def deque_Op_access.j1 (c_inv_Load : Value → Int → Heap → (Den kapiTodo → Heap → Prop) → Prop) (c_deque_place : Int → Int → Int → Heap → (Int → Heap → Prop) → Prop) (c_nil : Value → Prop) (o1 : Den kdequeOp) (m2 : Value) (Q : Den kapiTodo → Heap → Prop) (s34 : (Int × Unit)) (h35 : Heap) : Prop :=
    c_nil (Value.func (.method "Load") (List.toArray [Kd.val (.iface : Kd) m2]) (List.toArray [])) ∧
    c_deque_place o1.2.2.2.2.2.2.1 o1.2.2.2.2.2.2.2.1 s34.1 h35 fun r36 h37 =>
    c_inv_Load m2 r36 h37 fun r38 h39 =>
    Q (r38.1, r38.2.1, ()) h39
def deque_Op_access.M (c_inv_Load : Value → Int → Heap → (Den kapiTodo → Heap → Prop) → Prop) (c_inv_Reserve : Value → Int → Heap → (Den kapiTodo → Heap → Prop) → Prop) (c_inv_Store : Value → Int → Int → Heap → (Int → Heap → Prop) → Prop) (c_deque_place : Int → Int → Int → Heap → (Int → Heap → Prop) → Prop) (c_deque_Op_next : Den kdequeOp → Heap → (Int → Heap → Prop) → Prop) (c_inv_CAS : Value → Int → Int → Int → Heap → ((Bool × (Int × Unit)) → Heap → Prop) → Prop) (c_nil : Value → Prop) (o1 : Den kdequeOp) (m2 : Value) (h3 : Heap) (Q : Den kapiTodo → Heap → Prop) : Prop :=
    (((decide (o1.2.1 = 1)) = true →
    c_inv_Load m2 (w64 (o1.2.2.1.1 + 1)) h3 fun r4 h5 =>
    Q (r4.1, r4.2.1, ()) h5) ∧
    ((decide (o1.2.1 = 1)) = false →
    (((decide (o1.2.1 = 2)) = true →
    c_inv_Load m2 (w64 (o1.2.2.1.1 + 0)) h3 fun r6 h7 =>
    Q (r6.1, r6.2.1, ()) h7) ∧
    ((decide (o1.2.1 = 2)) = false →
    (((decide (o1.2.1 = 3)) = true →
    c_inv_Load m2 (w64 (o1.2.2.1.1 + 2)) h3 fun r8 h9 =>
    Q (r8.1, r8.2.1, ()) h9) ∧
    ((decide (o1.2.1 = 3)) = false →
    (((decide (o1.2.1 = 4)) = true →
    c_inv_Load m2 o1.2.2.2.2.2.2.1 h3 fun r10 h11 =>
    Q (r10.1, r10.2.1, ()) h11) ∧
    ((decide (o1.2.1 = 4)) = false →
    (((decide (o1.2.1 = 5)) = true →
    c_inv_Reserve m2 (w64 (1 + o1.2.2.2.2.2.2.2.2.2.1)) h3 fun r12 h13 =>
    Q (r12.1, r12.2.1, ()) h13) ∧
    ((decide (o1.2.1 = 5)) = false →
    (((decide (o1.2.1 = 6)) = true →
    c_inv_Store m2 o1.2.2.2.2.2.2.2.2.1 o1.2.2.2.2.2.2.2.2.2.1 h3 fun r14 h15 =>
    Q (0, r14, ()) h15) ∧
    ((decide (o1.2.1 = 6)) = false →
    (((decide (o1.2.1 = 7)) = true →
    c_nil (Value.func (.method "Load") (List.toArray [Kd.val (.iface : Kd) m2]) (List.toArray [])) ∧
    c_deque_place o1.2.2.2.2.2.2.1 o1.2.2.2.2.2.2.2.1 o1.2.2.2.2.2.2.2.2.2.2.1 h3 fun r16 h17 =>
    c_inv_Load m2 r16 h17 fun r18 h19 =>
    Q (r18.1, r18.2.1, ()) h19) ∧
    ((decide (o1.2.1 = 7)) = false →
    (((decide (o1.2.1 = 8)) = true →
    c_nil (Value.func (.method "Store") (List.toArray [Kd.val (.iface : Kd) m2]) (List.toArray [])) ∧
    c_deque_place o1.2.2.2.2.2.2.2.2.1 o1.2.2.2.2.2.2.2.2.2.1 o1.2.2.2.2.2.2.2.2.2.2.1 h3 fun r20 h21 =>
    c_inv_Store m2 r20 o1.2.2.2.2.2.2.2.2.2.2.2.1 h21 fun r22 h23 =>
    Q (0, r22, ()) h23) ∧
    ((decide (o1.2.1 = 8)) = false →
    (((decide (o1.2.1 = 9)) = true →
    c_inv_Store m2 (w64 (o1.2.2.1.1 + 2)) o1.2.2.2.2.2.2.2.2.1 h3 fun r24 h25 =>
    Q (0, r24, ()) h25) ∧
    ((decide (o1.2.1 = 9)) = false →
    (((decide (o1.2.1 = 10)) = true →
    c_nil (Value.func (.method "Store") (List.toArray [Kd.val (.iface : Kd) m2]) (List.toArray [])) ∧
    c_deque_place o1.2.2.2.2.2.2.1 o1.2.2.2.2.2.2.2.1 o1.2.2.2.2.2.1 h3 fun r26 h27 =>
    c_inv_Store m2 r26 o1.2.2.2.1 h27 fun r28 h29 =>
    Q (0, r28, ()) h29) ∧
    ((decide (o1.2.1 = 10)) = false →
    (((decide (o1.2.1 = 11)) = true →
    c_nil (Value.func (.method "Store") (List.toArray [Kd.val (.iface : Kd) m2]) (List.toArray [])) ∧
    c_deque_Op_next (o1.1, (o1.2.1, ((o1.2.2.1.1, (o1.2.2.1.2.1, ())), (o1.2.2.2.1, (o1.2.2.2.2.1, (o1.2.2.2.2.2.1, (o1.2.2.2.2.2.2.1, (o1.2.2.2.2.2.2.2.1, (o1.2.2.2.2.2.2.2.2.1, (o1.2.2.2.2.2.2.2.2.2.1, (o1.2.2.2.2.2.2.2.2.2.2.1, (o1.2.2.2.2.2.2.2.2.2.2.2.1, (o1.2.2.2.2.2.2.2.2.2.2.2.2.1, (o1.2.2.2.2.2.2.2.2.2.2.2.2.2.1, (o1.2.2.2.2.2.2.2.2.2.2.2.2.2.2.1, ()))))))))))))))) h3 fun r30 h31 =>
    c_inv_Store m2 (w64 (o1.2.2.1.1 + 1)) r30 h31 fun r32 h33 =>
    Q (0, r32, ()) h33) ∧
    ((decide (o1.2.1 = 11)) = false →
    (((decide (o1.2.1 = 12)) = true →
    (((decide (o1.1 = 2)) = true →
    deque_Op_access.j1 c_inv_Load c_deque_place c_nil o1 m2 Q (o1.2.2.2.2.2.1, ()) h3) ∧
    ((decide (o1.1 = 2)) = false →
    deque_Op_access.j1 c_inv_Load c_deque_place c_nil o1 m2 Q (o1.2.2.2.2.1, ()) h3))) ∧
    ((decide (o1.2.1 = 12)) = false →
    c_inv_CAS m2 (w64 (o1.2.2.1.1 + 0)) o1.2.2.2.2.1 (w64 (o1.2.2.2.2.1 + 1)) h3 fun r40 h41 =>
    ((r40.1 = true →
    Q (1, r40.2.1, ()) h41) ∧
    (r40.1 = false →
    Q (0, r40.2.1, ()) h41))))))))))))))))))))))))))
def deque_Op_access.mk : Mk := (.s (.r [0]) (.s .d (.s (.s .d (.b (.s .d (.c (.s .d .d) (.s .d (.c (.s .d .d) (.s .d (.c (.s .d .d) (.s .d (.c (.s .d .d) (.s .d (.c (.s .d (.s .d .d)) (.s .d (.c (.s .d .d) (.s .d (.c (.s (.q [] [] [.p 0, .p 1, .p 3, .p 5, .p 8, .p 9, .p 10, .w 2 [2, 7, 11, 12, 13, 14, 15], .w 4 [4, 7, 11, 12, 13, 14, 15], .w 6 [6, 7, 11, 12, 13, 14, 15], .o 7, .o 11, .p 12, .p 13, .p 14, .p 15]) .d) (.s .d (.c (.s (.q [] [] [.p 0, .p 1, .p 3, .p 5, .p 8, .p 10, .p 11, .p 12, .w 2 [2, 7, 13, 14, 15], .w 4 [4, 7, 13, 14, 15], .w 6 [6, 7, 13, 14, 15], .w 9 [9, 13, 14, 15], .o 7, .o 13, .p 14, .p 15]) .d) (.s .d (.c (.s .d .d) (.s .d (.c (.s (.q [] [] [.p 0, .p 1, .p 3, .p 5, .p 8, .p 10, .p 11, .p 12, .w 2 [2, 7, 13, 14, 15], .w 4 [4, 7, 13, 14, 15], .w 6 [6, 7, 13, 14, 15], .w 9 [9, 13, 14, 15], .o 7, .o 13, .p 14, .p 15]) .d) (.s .d (.c (.s (.q [] [] [.p 0, .p 1, .p 2, .p 5, .p 6, .p 7, .w 3 [3, 4, 8, 9, 10], .o 4, .o 8, .p 9, .p 10]) .d) (.s .d (.c (.s .d (.j [.slot 9 (.int .i64)] (.s .d (.c .d .d)) (.s (.q [] [] [.p 0, .p 1, .p 3, .p 5, .p 7, .p 8, .p 9, .w 2 [2, 6, 10, 11, 12, 13, 14], .w 4 [4, 6, 10, 11, 12, 13, 14], .o 6, .o 10, .p 11, .p 12, .p 13, .p 14]) .d))) .d)))))))))))))))))))))))))) (.s .d (.s (.s .d (.c (.s .d .d) .d)) (.s .d .d))))))

def deque_Op_pushed.j1 (Q : Den kdequeOp → Heap → Prop) (s4 : ((Int × (Int × (Int × (Int × (Int × (Int × (Int × (Int × (Int × (Int × (Int × (Int × (Int × (Bool × Den kapiTodo)))))))))))))) × ((Int × (Int × (Int × (Int × (Int × (Int × (Int × (Int × (Int × (Int × (Int × (Int × (Int × (Bool × Den kapiTodo)))))))))))))) × Unit))) (h5 : Heap) : Prop :=
    Q (s4.1.1, (s4.1.2.1, ((s4.1.2.2.1, (s4.1.2.2.2.1, ())), (s4.1.2.2.2.2.1, (s4.1.2.2.2.2.2.1, (s4.1.2.2.2.2.2.2.1, (s4.1.2.2.2.2.2.2.2.1, (s4.1.2.2.2.2.2.2.2.2.1, (s4.1.2.2.2.2.2.2.2.2.2.1, (s4.1.2.2.2.2.2.2.2.2.2.2.1, (s4.1.2.2.2.2.2.2.2.2.2.2.2.1, (s4.1.2.2.2.2.2.2.2.2.2.2.2.2.1, (s4.1.2.2.2.2.2.2.2.2.2.2.2.2.2.1, (s4.1.2.2.2.2.2.2.2.2.2.2.2.2.2.2.1, (s4.1.2.2.2.2.2.2.2.2.2.2.2.2.2.2.2.1, ()))))))))))))))) h5
def deque_Op_pushed.M (c_deque_Op_over : Den kdequeOp → Int → Int → Heap → (Den kdequeOp → Heap → Prop) → Prop) (o1 : Den kdequeOp) (got2 : Int) (h3 : Heap) (Q : Den kdequeOp → Heap → Prop) : Prop :=
    (((decide (o1.2.1 = 1)) = true →
    deque_Op_pushed.j1 Q ((o1.1, (2, (o1.2.2.1.1, (o1.2.2.1.2.1, (o1.2.2.2.1, (o1.2.2.2.2.1, (got2, (o1.2.2.2.2.2.2.1, (o1.2.2.2.2.2.2.2.1, (o1.2.2.2.2.2.2.2.2.1, (o1.2.2.2.2.2.2.2.2.2.1, (o1.2.2.2.2.2.2.2.2.2.2.1, (o1.2.2.2.2.2.2.2.2.2.2.2.1, (o1.2.2.2.2.2.2.2.2.2.2.2.2.1, (o1.2.2.2.2.2.2.2.2.2.2.2.2.2.1, (o1.2.2.2.2.2.2.2.2.2.2.2.2.2.2.1, ())))))))))))))))), (0, (0, (0, (0, (0, (0, (0, (0, (0, (0, (0, (0, (0, (false, (0, (0, ())))))))))))))))), ()) h3) ∧
    ((decide (o1.2.1 = 1)) = false →
    (((decide (o1.2.1 = 2)) = true →
    deque_Op_pushed.j1 Q ((o1.1, (3, (o1.2.2.1.1, (o1.2.2.1.2.1, (o1.2.2.2.1, (got2, (o1.2.2.2.2.2.1, (o1.2.2.2.2.2.2.1, (o1.2.2.2.2.2.2.2.1, (o1.2.2.2.2.2.2.2.2.1, (o1.2.2.2.2.2.2.2.2.2.1, (o1.2.2.2.2.2.2.2.2.2.2.1, (o1.2.2.2.2.2.2.2.2.2.2.2.1, (o1.2.2.2.2.2.2.2.2.2.2.2.2.1, (o1.2.2.2.2.2.2.2.2.2.2.2.2.2.1, (o1.2.2.2.2.2.2.2.2.2.2.2.2.2.2.1, ())))))))))))))))), (0, (0, (0, (0, (0, (0, (0, (0, (0, (0, (0, (0, (0, (false, (0, (0, ())))))))))))))))), ()) h3) ∧
    ((decide (o1.2.1 = 2)) = false →
    (((decide (o1.2.1 = 3)) = true →
    deque_Op_pushed.j1 Q ((o1.1, (4, (o1.2.2.1.1, (o1.2.2.1.2.1, (o1.2.2.2.1, (o1.2.2.2.2.1, (o1.2.2.2.2.2.1, (got2, (o1.2.2.2.2.2.2.2.1, (o1.2.2.2.2.2.2.2.2.1, (o1.2.2.2.2.2.2.2.2.2.1, (o1.2.2.2.2.2.2.2.2.2.2.1, (o1.2.2.2.2.2.2.2.2.2.2.2.1, (o1.2.2.2.2.2.2.2.2.2.2.2.2.1, (o1.2.2.2.2.2.2.2.2.2.2.2.2.2.1, (o1.2.2.2.2.2.2.2.2.2.2.2.2.2.2.1, ())))))))))))))))), (0, (0, (0, (0, (0, (0, (0, (0, (0, (0, (0, (0, (0, (false, (0, (0, ())))))))))))))))), ()) h3) ∧
    ((decide (o1.2.1 = 3)) = false →
    (((decide (o1.2.1 = 4)) = true →
    (((decide (got2 < 1)) = true →
    c_deque_Op_over (o1.1, (10, ((o1.2.2.1.1, (o1.2.2.1.2.1, ())), (o1.2.2.2.1, (o1.2.2.2.2.1, (o1.2.2.2.2.2.1, (o1.2.2.2.2.2.2.1, (got2, (o1.2.2.2.2.2.2.2.2.1, (o1.2.2.2.2.2.2.2.2.2.1, (o1.2.2.2.2.2.2.2.2.2.2.1, (o1.2.2.2.2.2.2.2.2.2.2.2.1, (o1.2.2.2.2.2.2.2.2.2.2.2.2.1, (o1.2.2.2.2.2.2.2.2.2.2.2.2.2.1, (o1.2.2.2.2.2.2.2.2.2.2.2.2.2.2.1, ()))))))))))))))) 1 0 h3 fun r6 h7 =>
    Q (r6.1, (r6.2.1, ((r6.2.2.1.1, (r6.2.2.1.2.1, ())), (r6.2.2.2.1, (r6.2.2.2.2.1, (r6.2.2.2.2.2.1, (r6.2.2.2.2.2.2.1, (r6.2.2.2.2.2.2.2.1, (r6.2.2.2.2.2.2.2.2.1, (r6.2.2.2.2.2.2.2.2.2.1, (r6.2.2.2.2.2.2.2.2.2.2.1, (r6.2.2.2.2.2.2.2.2.2.2.2.1, (r6.2.2.2.2.2.2.2.2.2.2.2.2.1, (r6.2.2.2.2.2.2.2.2.2.2.2.2.2.1, (r6.2.2.2.2.2.2.2.2.2.2.2.2.2.2.1, ()))))))))))))))) h7) ∧
    ((decide (got2 < 1)) = false →
    (((decide ((w64 (o1.2.2.2.2.2.1 - o1.2.2.2.2.1)) < got2)) = true →
    deque_Op_pushed.j1 Q ((o1.1, (10, (o1.2.2.1.1, (o1.2.2.1.2.1, (o1.2.2.2.1, (o1.2.2.2.2.1, (o1.2.2.2.2.2.1, (o1.2.2.2.2.2.2.1, (got2, (o1.2.2.2.2.2.2.2.2.1, (o1.2.2.2.2.2.2.2.2.2.1, (o1.2.2.2.2.2.2.2.2.2.2.1, (o1.2.2.2.2.2.2.2.2.2.2.2.1, (o1.2.2.2.2.2.2.2.2.2.2.2.2.1, (o1.2.2.2.2.2.2.2.2.2.2.2.2.2.1, (o1.2.2.2.2.2.2.2.2.2.2.2.2.2.2.1, ())))))))))))))))), (0, (0, (0, (0, (0, (0, (0, (0, (0, (0, (0, (0, (0, (false, (0, (0, ())))))))))))))))), ()) h3) ∧
    ((decide ((w64 (o1.2.2.2.2.2.1 - o1.2.2.2.2.1)) < got2)) = false →
    (((decide (o1.2.2.1.2.1 ≤ got2)) = true →
    c_deque_Op_over (o1.1, (10, ((o1.2.2.1.1, (o1.2.2.1.2.1, ())), (o1.2.2.2.1, (o1.2.2.2.2.1, (o1.2.2.2.2.2.1, (o1.2.2.2.2.2.2.1, (got2, (o1.2.2.2.2.2.2.2.2.1, (o1.2.2.2.2.2.2.2.2.2.1, (o1.2.2.2.2.2.2.2.2.2.2.1, (o1.2.2.2.2.2.2.2.2.2.2.2.1, (o1.2.2.2.2.2.2.2.2.2.2.2.2.1, (o1.2.2.2.2.2.2.2.2.2.2.2.2.2.1, (o1.2.2.2.2.2.2.2.2.2.2.2.2.2.2.1, ()))))))))))))))) 3 0 h3 fun r8 h9 =>
    Q (r8.1, (r8.2.1, ((r8.2.2.1.1, (r8.2.2.1.2.1, ())), (r8.2.2.2.1, (r8.2.2.2.2.1, (r8.2.2.2.2.2.1, (r8.2.2.2.2.2.2.1, (r8.2.2.2.2.2.2.2.1, (r8.2.2.2.2.2.2.2.2.1, (r8.2.2.2.2.2.2.2.2.2.1, (r8.2.2.2.2.2.2.2.2.2.2.1, (r8.2.2.2.2.2.2.2.2.2.2.2.1, (r8.2.2.2.2.2.2.2.2.2.2.2.2.1, (r8.2.2.2.2.2.2.2.2.2.2.2.2.2.1, (r8.2.2.2.2.2.2.2.2.2.2.2.2.2.2.1, ()))))))))))))))) h9) ∧
    ((decide (o1.2.2.1.2.1 ≤ got2)) = false →
    deque_Op_pushed.j1 Q ((o1.1, (5, (o1.2.2.1.1, (o1.2.2.1.2.1, (o1.2.2.2.1, (o1.2.2.2.2.1, (o1.2.2.2.2.2.1, (o1.2.2.2.2.2.2.1, (got2, (o1.2.2.2.2.2.2.2.2.1, ((if o1.2.2.1.2.1 < (w64 (2 * got2)) then o1.2.2.1.2.1 else (w64 (2 * got2))), (o1.2.2.2.2.2.2.2.2.2.2.1, (o1.2.2.2.2.2.2.2.2.2.2.2.1, (o1.2.2.2.2.2.2.2.2.2.2.2.2.1, (o1.2.2.2.2.2.2.2.2.2.2.2.2.2.1, (o1.2.2.2.2.2.2.2.2.2.2.2.2.2.2.1, ())))))))))))))))), (0, (0, (0, (0, (0, (0, (0, (0, (0, (0, (0, (0, (0, (false, (0, (0, ())))))))))))))))), ()) h3))))))) ∧
    ((decide (o1.2.1 = 4)) = false →
    (((decide (o1.2.1 = 5)) = true →
    deque_Op_pushed.j1 Q ((o1.1, (6, (o1.2.2.1.1, (o1.2.2.1.2.1, (o1.2.2.2.1, (o1.2.2.2.2.1, (o1.2.2.2.2.2.1, (o1.2.2.2.2.2.2.1, (o1.2.2.2.2.2.2.2.1, (got2, (o1.2.2.2.2.2.2.2.2.2.1, (o1.2.2.2.2.2.2.2.2.2.2.1, (o1.2.2.2.2.2.2.2.2.2.2.2.1, (o1.2.2.2.2.2.2.2.2.2.2.2.2.1, (o1.2.2.2.2.2.2.2.2.2.2.2.2.2.1, (o1.2.2.2.2.2.2.2.2.2.2.2.2.2.2.1, ())))))))))))))))), (0, (0, (0, (0, (0, (0, (0, (0, (0, (0, (0, (0, (0, (false, (0, (0, ())))))))))))))))), ()) h3) ∧
    ((decide (o1.2.1 = 5)) = false →
    (((decide (o1.2.1 = 6)) = true →
    deque_Op_pushed.j1 Q ((o1.1, (7, (o1.2.2.1.1, (o1.2.2.1.2.1, (o1.2.2.2.1, (o1.2.2.2.2.1, (o1.2.2.2.2.2.1, (o1.2.2.2.2.2.2.1, (o1.2.2.2.2.2.2.2.1, (o1.2.2.2.2.2.2.2.2.1, (o1.2.2.2.2.2.2.2.2.2.1, (o1.2.2.2.2.1, (o1.2.2.2.2.2.2.2.2.2.2.2.1, (o1.2.2.2.2.2.2.2.2.2.2.2.2.1, (o1.2.2.2.2.2.2.2.2.2.2.2.2.2.1, (o1.2.2.2.2.2.2.2.2.2.2.2.2.2.2.1, ())))))))))))))))), (0, (0, (0, (0, (0, (0, (0, (0, (0, (0, (0, (0, (0, (false, (0, (0, ())))))))))))))))), ()) h3) ∧
    ((decide (o1.2.1 = 6)) = false →
    (((decide (o1.2.1 = 7)) = true →
    deque_Op_pushed.j1 Q ((o1.1, (8, (o1.2.2.1.1, (o1.2.2.1.2.1, (o1.2.2.2.1, (o1.2.2.2.2.1, (o1.2.2.2.2.2.1, (o1.2.2.2.2.2.2.1, (o1.2.2.2.2.2.2.2.1, (o1.2.2.2.2.2.2.2.2.1, (o1.2.2.2.2.2.2.2.2.2.1, (o1.2.2.2.2.2.2.2.2.2.2.1, (got2, (o1.2.2.2.2.2.2.2.2.2.2.2.2.1, (o1.2.2.2.2.2.2.2.2.2.2.2.2.2.1, (o1.2.2.2.2.2.2.2.2.2.2.2.2.2.2.1, ())))))))))))))))), (0, (0, (0, (0, (0, (0, (0, (0, (0, (0, (0, (0, (0, (false, (0, (0, ())))))))))))))))), ()) h3) ∧
    ((decide (o1.2.1 = 7)) = false →
    (((decide (o1.2.1 = 8)) = true →
    (((decide ((w64 (o1.2.2.2.2.2.2.2.2.2.2.1 + 1)) = o1.2.2.2.2.2.1)) = true →
    deque_Op_pushed.j1 Q ((o1.1, (9, (o1.2.2.1.1, (o1.2.2.1.2.1, (o1.2.2.2.1, (o1.2.2.2.2.1, (o1.2.2.2.2.2.1, (o1.2.2.2.2.2.2.1, (o1.2.2.2.2.2.2.2.1, (o1.2.2.2.2.2.2.2.2.1, (o1.2.2.2.2.2.2.2.2.2.1, ((w64 (o1.2.2.2.2.2.2.2.2.2.2.1 + 1)), (o1.2.2.2.2.2.2.2.2.2.2.2.1, (o1.2.2.2.2.2.2.2.2.2.2.2.2.1, (o1.2.2.2.2.2.2.2.2.2.2.2.2.2.1, (o1.2.2.2.2.2.2.2.2.2.2.2.2.2.2.1, ())))))))))))))))), (0, (0, (0, (0, (0, (0, (0, (0, (0, (0, (0, (0, (0, (false, (0, (0, ())))))))))))))))), ()) h3) ∧
    ((decide ((w64 (o1.2.2.2.2.2.2.2.2.2.2.1 + 1)) = o1.2.2.2.2.2.1)) = false →
    deque_Op_pushed.j1 Q ((o1.1, (7, (o1.2.2.1.1, (o1.2.2.1.2.1, (o1.2.2.2.1, (o1.2.2.2.2.1, (o1.2.2.2.2.2.1, (o1.2.2.2.2.2.2.1, (o1.2.2.2.2.2.2.2.1, (o1.2.2.2.2.2.2.2.2.1, (o1.2.2.2.2.2.2.2.2.2.1, ((w64 (o1.2.2.2.2.2.2.2.2.2.2.1 + 1)), (o1.2.2.2.2.2.2.2.2.2.2.2.1, (o1.2.2.2.2.2.2.2.2.2.2.2.2.1, (o1.2.2.2.2.2.2.2.2.2.2.2.2.2.1, (o1.2.2.2.2.2.2.2.2.2.2.2.2.2.2.1, ())))))))))))))))), (0, (0, (0, (0, (0, (0, (0, (0, (0, (0, (0, (0, (0, (false, (0, (0, ())))))))))))))))), ()) h3))) ∧
    ((decide (o1.2.1 = 8)) = false →
    (((decide (o1.2.1 = 9)) = true →
    deque_Op_pushed.j1 Q ((o1.1, (10, (o1.2.2.1.1, (o1.2.2.1.2.1, (o1.2.2.2.1, (o1.2.2.2.2.1, (o1.2.2.2.2.2.1, (o1.2.2.2.2.2.2.2.2.1, (o1.2.2.2.2.2.2.2.2.2.1, (o1.2.2.2.2.2.2.2.2.1, (o1.2.2.2.2.2.2.2.2.2.1, (o1.2.2.2.2.2.2.2.2.2.2.1, (o1.2.2.2.2.2.2.2.2.2.2.2.1, (o1.2.2.2.2.2.2.2.2.2.2.2.2.1, (o1.2.2.2.2.2.2.2.2.2.2.2.2.2.1, (o1.2.2.2.2.2.2.2.2.2.2.2.2.2.2.1, ())))))))))))))))), (0, (0, (0, (0, (0, (0, (0, (0, (0, (0, (0, (0, (0, (false, (0, (0, ())))))))))))))))), ()) h3) ∧
    ((decide (o1.2.1 = 9)) = false →
    (((decide (o1.2.1 = 10)) = true →
    deque_Op_pushed.j1 Q ((o1.1, (11, (o1.2.2.1.1, (o1.2.2.1.2.1, (o1.2.2.2.1, (o1.2.2.2.2.1, (o1.2.2.2.2.2.1, (o1.2.2.2.2.2.2.1, (o1.2.2.2.2.2.2.2.1, (o1.2.2.2.2.2.2.2.2.1, (o1.2.2.2.2.2.2.2.2.2.1, (o1.2.2.2.2.2.2.2.2.2.2.1, (o1.2.2.2.2.2.2.2.2.2.2.2.1, (o1.2.2.2.2.2.2.2.2.2.2.2.2.1, (o1.2.2.2.2.2.2.2.2.2.2.2.2.2.1, (o1.2.2.2.2.2.2.2.2.2.2.2.2.2.2.1, ())))))))))))))))), (0, (0, (0, (0, (0, (0, (0, (0, (0, (0, (0, (0, (0, (false, (0, (0, ())))))))))))))))), ()) h3) ∧
    ((decide (o1.2.1 = 10)) = false →
    (((decide (o1.2.1 = 11)) = true →
    c_deque_Op_over (o1.1, (o1.2.1, ((o1.2.2.1.1, (o1.2.2.1.2.1, ())), (o1.2.2.2.1, (o1.2.2.2.2.1, (o1.2.2.2.2.2.1, (o1.2.2.2.2.2.2.1, (o1.2.2.2.2.2.2.2.1, (o1.2.2.2.2.2.2.2.2.1, (o1.2.2.2.2.2.2.2.2.2.1, (o1.2.2.2.2.2.2.2.2.2.2.1, (o1.2.2.2.2.2.2.2.2.2.2.2.1, (o1.2.2.2.2.2.2.2.2.2.2.2.2.1, (o1.2.2.2.2.2.2.2.2.2.2.2.2.2.1, (o1.2.2.2.2.2.2.2.2.2.2.2.2.2.2.1, ()))))))))))))))) 2 0 h3 fun r10 h11 =>
    Q (r10.1, (r10.2.1, ((r10.2.2.1.1, (r10.2.2.1.2.1, ())), (r10.2.2.2.1, (r10.2.2.2.2.1, (r10.2.2.2.2.2.1, (r10.2.2.2.2.2.2.1, (r10.2.2.2.2.2.2.2.1, (r10.2.2.2.2.2.2.2.2.1, (r10.2.2.2.2.2.2.2.2.2.1, (r10.2.2.2.2.2.2.2.2.2.2.1, (r10.2.2.2.2.2.2.2.2.2.2.2.1, (r10.2.2.2.2.2.2.2.2.2.2.2.2.1, (r10.2.2.2.2.2.2.2.2.2.2.2.2.2.1, (r10.2.2.2.2.2.2.2.2.2.2.2.2.2.2.1, ()))))))))))))))) h11) ∧
    ((decide (o1.2.1 = 11)) = false →
    deque_Op_pushed.j1 Q ((o1.1, (o1.2.1, (o1.2.2.1.1, (o1.2.2.1.2.1, (o1.2.2.2.1, (o1.2.2.2.2.1, (o1.2.2.2.2.2.1, (o1.2.2.2.2.2.2.1, (o1.2.2.2.2.2.2.2.1, (o1.2.2.2.2.2.2.2.2.1, (o1.2.2.2.2.2.2.2.2.2.1, (o1.2.2.2.2.2.2.2.2.2.2.1, (o1.2.2.2.2.2.2.2.2.2.2.2.1, (o1.2.2.2.2.2.2.2.2.2.2.2.2.1, (o1.2.2.2.2.2.2.2.2.2.2.2.2.2.1, (o1.2.2.2.2.2.2.2.2.2.2.2.2.2.2.1, ())))))))))))))))), (0, (0, (0, (0, (0, (0, (0, (0, (0, (0, (0, (0, (0, (false, (0, (0, ())))))))))))))))), ()) h3))))))))))))))))))))))
def deque_Op_pushed.mk : Mk := (.s (.r [0, 1]) (.j [.box 2 (.pair (.int .i64) (.pair (.int .i64) (.pair (.int .i64) (.pair (.int .i64) (.pair (.int .i64) (.pair (.int .i64) (.pair (.int .i64) (.pair (.int .i64) (.pair (.int .i64) (.pair (.int .i64) (.pair (.int .i64) (.pair (.int .i64) (.pair (.int .i64) (.pair .bool kapiTodo)))))))))))))), .box 4 (.pair (.int .i64) (.pair (.int .i64) (.pair (.int .i64) (.pair (.int .i64) (.pair (.int .i64) (.pair (.int .i64) (.pair (.int .i64) (.pair (.int .i64) (.pair (.int .i64) (.pair (.int .i64) (.pair (.int .i64) (.pair (.int .i64) (.pair (.int .i64) (.pair .bool kapiTodo))))))))))))))] (.s .d (.b (.s .d (.c .d (.s .d (.c .d (.s .d (.c .d (.s .d (.c (.s .d (.b (.s .d (.c (.s .d .d) (.s .d (.c .d (.s .d (.c (.s .d .d) .d)))))))) (.s .d (.c .d (.s .d (.c .d (.s .d (.c .d (.s .d (.c (.s .d (.s .d (.s .d (.c .d .d)))) (.s .d (.c .d (.s .d (.c .d (.s .d (.c (.s .d .d) .d)))))))))))))))))))))))) (.s .d .d)))

def deque_Op_popped.j1 (Q : Den kdequeOp → Heap → Prop) (s4 : ((Int × (Int × (Int × (Int × (Int × (Int × (Int × (Int × (Int × (Int × (Int × (Int × (Int × (Bool × Den kapiTodo)))))))))))))) × ((Int × (Int × (Int × (Int × (Int × (Int × (Int × (Int × (Int × (Int × (Int × (Int × (Int × (Bool × Den kapiTodo)))))))))))))) × Unit))) (h5 : Heap) : Prop :=
    Q (s4.1.1, (s4.1.2.1, ((s4.1.2.2.1, (s4.1.2.2.2.1, ())), (s4.1.2.2.2.2.1, (s4.1.2.2.2.2.2.1, (s4.1.2.2.2.2.2.2.1, (s4.1.2.2.2.2.2.2.2.1, (s4.1.2.2.2.2.2.2.2.2.1, (s4.1.2.2.2.2.2.2.2.2.2.1, (s4.1.2.2.2.2.2.2.2.2.2.2.1, (s4.1.2.2.2.2.2.2.2.2.2.2.2.1, (s4.1.2.2.2.2.2.2.2.2.2.2.2.2.1, (s4.1.2.2.2.2.2.2.2.2.2.2.2.2.2.1, (s4.1.2.2.2.2.2.2.2.2.2.2.2.2.2.2.1, (s4.1.2.2.2.2.2.2.2.2.2.2.2.2.2.2.2.1, ()))))))))))))))) h5
def deque_Op_popped.M (c_deque_Op_over : Den kdequeOp → Int → Int → Heap → (Den kdequeOp → Heap → Prop) → Prop) (o1 : Den kdequeOp) (got2 : Int) (h3 : Heap) (Q : Den kdequeOp → Heap → Prop) : Prop :=
    (((decide (o1.2.1 = 1)) = true →
    deque_Op_popped.j1 Q ((o1.1, (3, (o1.2.2.1.1, (o1.2.2.1.2.1, (o1.2.2.2.1, (o1.2.2.2.2.1, ((w64 (got2 - 1)), (o1.2.2.2.2.2.2.1, (o1.2.2.2.2.2.2.2.1, (o1.2.2.2.2.2.2.2.2.1, (o1.2.2.2.2.2.2.2.2.2.1, (o1.2.2.2.2.2.2.2.2.2.2.1, (o1.2.2.2.2.2.2.2.2.2.2.2.1, (o1.2.2.2.2.2.2.2.2.2.2.2.2.1, (o1.2.2.2.2.2.2.2.2.2.2.2.2.2.1, (o1.2.2.2.2.2.2.2.2.2.2.2.2.2.2.1, ())))))))))))))))), (0, (0, (0, (0, (0, (0, (0, (0, (0, (0, (0, (0, (0, (false, (0, (0, ())))))))))))))))), ()) h3) ∧
    ((decide (o1.2.1 = 1)) = false →
    (((decide (o1.2.1 = 3)) = true →
    deque_Op_popped.j1 Q ((o1.1, (11, (o1.2.2.1.1, (o1.2.2.1.2.1, (o1.2.2.2.1, (o1.2.2.2.2.1, (o1.2.2.2.2.2.1, (got2, (o1.2.2.2.2.2.2.2.1, (o1.2.2.2.2.2.2.2.2.1, (o1.2.2.2.2.2.2.2.2.2.1, (o1.2.2.2.2.2.2.2.2.2.2.1, (o1.2.2.2.2.2.2.2.2.2.2.2.1, (o1.2.2.2.2.2.2.2.2.2.2.2.2.1, (o1.2.2.2.2.2.2.2.2.2.2.2.2.2.1, (o1.2.2.2.2.2.2.2.2.2.2.2.2.2.2.1, ())))))))))))))))), (0, (0, (0, (0, (0, (0, (0, (0, (0, (0, (0, (0, (0, (false, (0, (0, ())))))))))))))))), ()) h3) ∧
    ((decide (o1.2.1 = 3)) = false →
    (((decide (o1.2.1 = 11)) = true →
    (((decide (o1.2.2.2.2.2.2.2.2.2.2.1 = 0)) = true →
    deque_Op_popped.j1 Q ((o1.1, (2, (o1.2.2.1.1, (o1.2.2.1.2.1, (o1.2.2.2.1, (o1.2.2.2.2.1, (o1.2.2.2.2.2.1, (o1.2.2.2.2.2.2.1, (o1.2.2.2.2.2.2.2.1, (o1.2.2.2.2.2.2.2.2.1, (o1.2.2.2.2.2.2.2.2.2.1, (o1.2.2.2.2.2.2.2.2.2.2.1, (o1.2.2.2.2.2.2.2.2.2.2.2.1, (o1.2.2.2.2.2.2.2.2.2.2.2.2.1, (o1.2.2.2.2.2.2.2.2.2.2.2.2.2.1, (o1.2.2.2.2.2.2.2.2.2.2.2.2.2.2.1, ())))))))))))))))), (0, (0, (0, (0, (0, (0, (0, (0, (0, (0, (0, (0, (0, (false, (0, (0, ())))))))))))))))), ()) h3) ∧
    ((decide (o1.2.2.2.2.2.2.2.2.2.2.1 = 0)) = false →
    ((o1.2.2.2.2.2.2.2.2.2.2.2.2.1 = true →
    c_deque_Op_over (o1.1, (o1.2.1, ((o1.2.2.1.1, (o1.2.2.1.2.1, ())), (o1.2.2.2.1, (o1.2.2.2.2.1, (o1.2.2.2.2.2.1, (o1.2.2.2.2.2.2.1, (o1.2.2.2.2.2.2.2.1, (o1.2.2.2.2.2.2.2.2.1, (o1.2.2.2.2.2.2.2.2.2.1, (o1.2.2.2.2.2.2.2.2.2.2.1, (o1.2.2.2.2.2.2.2.2.2.2.2.1, (o1.2.2.2.2.2.2.2.2.2.2.2.2.1, (o1.2.2.2.2.2.2.2.2.2.2.2.2.2.1, (o1.2.2.2.2.2.2.2.2.2.2.2.2.2.2.1, ()))))))))))))))) 4 o1.2.2.2.2.2.2.2.2.2.2.2.1 h3 fun r6 h7 =>
    Q (r6.1, (r6.2.1, ((r6.2.2.1.1, (r6.2.2.1.2.1, ())), (r6.2.2.2.1, (r6.2.2.2.2.1, (r6.2.2.2.2.2.1, (r6.2.2.2.2.2.2.1, (r6.2.2.2.2.2.2.2.1, (r6.2.2.2.2.2.2.2.2.1, (r6.2.2.2.2.2.2.2.2.2.1, (r6.2.2.2.2.2.2.2.2.2.2.1, (r6.2.2.2.2.2.2.2.2.2.2.2.1, (r6.2.2.2.2.2.2.2.2.2.2.2.2.1, (r6.2.2.2.2.2.2.2.2.2.2.2.2.2.1, (r6.2.2.2.2.2.2.2.2.2.2.2.2.2.2.1, ()))))))))))))))) h7) ∧
    (o1.2.2.2.2.2.2.2.2.2.2.2.2.1 = false →
    c_deque_Op_over (o1.1, (o1.2.1, ((o1.2.2.1.1, (o1.2.2.1.2.1, ())), (o1.2.2.2.1, (o1.2.2.2.2.1, (o1.2.2.2.2.2.1, (o1.2.2.2.2.2.2.1, (o1.2.2.2.2.2.2.2.1, (o1.2.2.2.2.2.2.2.2.1, (o1.2.2.2.2.2.2.2.2.2.1, (o1.2.2.2.2.2.2.2.2.2.2.1, (o1.2.2.2.2.2.2.2.2.2.2.2.1, (o1.2.2.2.2.2.2.2.2.2.2.2.2.1, (o1.2.2.2.2.2.2.2.2.2.2.2.2.2.1, (o1.2.2.2.2.2.2.2.2.2.2.2.2.2.2.1, ()))))))))))))))) 5 0 h3 fun r8 h9 =>
    Q (r8.1, (r8.2.1, ((r8.2.2.1.1, (r8.2.2.1.2.1, ())), (r8.2.2.2.1, (r8.2.2.2.2.1, (r8.2.2.2.2.2.1, (r8.2.2.2.2.2.2.1, (r8.2.2.2.2.2.2.2.1, (r8.2.2.2.2.2.2.2.2.1, (r8.2.2.2.2.2.2.2.2.2.1, (r8.2.2.2.2.2.2.2.2.2.2.1, (r8.2.2.2.2.2.2.2.2.2.2.2.1, (r8.2.2.2.2.2.2.2.2.2.2.2.2.1, (r8.2.2.2.2.2.2.2.2.2.2.2.2.2.1, (r8.2.2.2.2.2.2.2.2.2.2.2.2.2.2.1, ()))))))))))))))) h9))))) ∧
    ((decide (o1.2.1 = 11)) = false →
    (((decide (o1.2.1 = 2)) = true →
    (((decide (o1.2.2.2.2.2.1 < got2)) = true →
    deque_Op_popped.j1 Q ((o1.1, (11, (o1.2.2.1.1, (o1.2.2.1.2.1, (o1.2.2.2.1, (got2, (o1.2.2.2.2.2.1, (o1.2.2.2.2.2.2.1, (o1.2.2.2.2.2.2.2.1, (o1.2.2.2.2.2.2.2.2.1, (o1.2.2.2.2.2.2.2.2.2.1, (1, (o1.2.2.2.2.2.2.2.2.2.2.2.1, (o1.2.2.2.2.2.2.2.2.2.2.2.2.1, (o1.2.2.2.2.2.2.2.2.2.2.2.2.2.1, (o1.2.2.2.2.2.2.2.2.2.2.2.2.2.2.1, ())))))))))))))))), (0, (0, (0, (0, (0, (0, (0, (0, (0, (0, (0, (0, (0, (false, (0, (0, ())))))))))))))))), ()) h3) ∧
    ((decide (o1.2.2.2.2.2.1 < got2)) = false →
    deque_Op_popped.j1 Q ((o1.1, (4, (o1.2.2.1.1, (o1.2.2.1.2.1, (o1.2.2.2.1, (got2, (o1.2.2.2.2.2.1, (o1.2.2.2.2.2.2.1, (o1.2.2.2.2.2.2.2.1, (o1.2.2.2.2.2.2.2.2.1, (o1.2.2.2.2.2.2.2.2.2.1, (1, (o1.2.2.2.2.2.2.2.2.2.2.2.1, (o1.2.2.2.2.2.2.2.2.2.2.2.2.1, (o1.2.2.2.2.2.2.2.2.2.2.2.2.2.1, (o1.2.2.2.2.2.2.2.2.2.2.2.2.2.2.1, ())))))))))))))))), (0, (0, (0, (0, (0, (0, (0, (0, (0, (0, (0, (0, (0, (false, (0, (0, ())))))))))))))))), ()) h3))) ∧
    ((decide (o1.2.1 = 2)) = false →
    (((decide (o1.2.1 = 4)) = true →
    (((decide (got2 < 1)) = true →
    c_deque_Op_over (o1.1, (12, ((o1.2.2.1.1, (o1.2.2.1.2.1, ())), (o1.2.2.2.1, (o1.2.2.2.2.1, (o1.2.2.2.2.2.1, (o1.2.2.2.2.2.2.1, (got2, (o1.2.2.2.2.2.2.2.2.1, (o1.2.2.2.2.2.2.2.2.2.1, (o1.2.2.2.2.2.2.2.2.2.2.1, (o1.2.2.2.2.2.2.2.2.2.2.2.1, (o1.2.2.2.2.2.2.2.2.2.2.2.2.1, (o1.2.2.2.2.2.2.2.2.2.2.2.2.2.1, (o1.2.2.2.2.2.2.2.2.2.2.2.2.2.2.1, ()))))))))))))))) 1 0 h3 fun r10 h11 =>
    Q (r10.1, (r10.2.1, ((r10.2.2.1.1, (r10.2.2.1.2.1, ())), (r10.2.2.2.1, (r10.2.2.2.2.1, (r10.2.2.2.2.2.1, (r10.2.2.2.2.2.2.1, (r10.2.2.2.2.2.2.2.1, (r10.2.2.2.2.2.2.2.2.1, (r10.2.2.2.2.2.2.2.2.2.1, (r10.2.2.2.2.2.2.2.2.2.2.1, (r10.2.2.2.2.2.2.2.2.2.2.2.1, (r10.2.2.2.2.2.2.2.2.2.2.2.2.1, (r10.2.2.2.2.2.2.2.2.2.2.2.2.2.1, (r10.2.2.2.2.2.2.2.2.2.2.2.2.2.2.1, ()))))))))))))))) h11) ∧
    ((decide (got2 < 1)) = false →
    deque_Op_popped.j1 Q ((o1.1, (12, (o1.2.2.1.1, (o1.2.2.1.2.1, (o1.2.2.2.1, (o1.2.2.2.2.1, (o1.2.2.2.2.2.1, (o1.2.2.2.2.2.2.1, (got2, (o1.2.2.2.2.2.2.2.2.1, (o1.2.2.2.2.2.2.2.2.2.1, (o1.2.2.2.2.2.2.2.2.2.2.1, (o1.2.2.2.2.2.2.2.2.2.2.2.1, (o1.2.2.2.2.2.2.2.2.2.2.2.2.1, (o1.2.2.2.2.2.2.2.2.2.2.2.2.2.1, (o1.2.2.2.2.2.2.2.2.2.2.2.2.2.2.1, ())))))))))))))))), (0, (0, (0, (0, (0, (0, (0, (0, (0, (0, (0, (0, (0, (false, (0, (0, ())))))))))))))))), ()) h3))) ∧
    ((decide (o1.2.1 = 4)) = false →
    (((decide (o1.2.1 = 12)) = true →
    (((decide (o1.2.2.2.2.1 < o1.2.2.2.2.2.1)) = true →
    c_deque_Op_over (o1.1, (13, ((o1.2.2.1.1, (o1.2.2.1.2.1, ())), (o1.2.2.2.1, (o1.2.2.2.2.1, (o1.2.2.2.2.2.1, (o1.2.2.2.2.2.2.1, (o1.2.2.2.2.2.2.2.1, (o1.2.2.2.2.2.2.2.2.1, (o1.2.2.2.2.2.2.2.2.2.1, (o1.2.2.2.2.2.2.2.2.2.2.1, (got2, (o1.2.2.2.2.2.2.2.2.2.2.2.2.1, (o1.2.2.2.2.2.2.2.2.2.2.2.2.2.1, (o1.2.2.2.2.2.2.2.2.2.2.2.2.2.2.1, ()))))))))))))))) 4 got2 h3 fun r12 h13 =>
    Q (r12.1, (r12.2.1, ((r12.2.2.1.1, (r12.2.2.1.2.1, ())), (r12.2.2.2.1, (r12.2.2.2.2.1, (r12.2.2.2.2.2.1, (r12.2.2.2.2.2.2.1, (r12.2.2.2.2.2.2.2.1, (r12.2.2.2.2.2.2.2.2.1, (r12.2.2.2.2.2.2.2.2.2.1, (r12.2.2.2.2.2.2.2.2.2.2.1, (r12.2.2.2.2.2.2.2.2.2.2.2.1, (r12.2.2.2.2.2.2.2.2.2.2.2.2.1, (r12.2.2.2.2.2.2.2.2.2.2.2.2.2.1, (r12.2.2.2.2.2.2.2.2.2.2.2.2.2.2.1, ()))))))))))))))) h13) ∧
    ((decide (o1.2.2.2.2.1 < o1.2.2.2.2.2.1)) = false →
    deque_Op_popped.j1 Q ((o1.1, (13, (o1.2.2.1.1, (o1.2.2.1.2.1, (o1.2.2.2.1, (o1.2.2.2.2.1, (o1.2.2.2.2.2.1, (o1.2.2.2.2.2.2.1, (o1.2.2.2.2.2.2.2.1, (o1.2.2.2.2.2.2.2.2.1, (o1.2.2.2.2.2.2.2.2.2.1, (o1.2.2.2.2.2.2.2.2.2.2.1, (got2, (o1.2.2.2.2.2.2.2.2.2.2.2.2.1, (o1.2.2.2.2.2.2.2.2.2.2.2.2.2.1, (o1.2.2.2.2.2.2.2.2.2.2.2.2.2.2.1, ())))))))))))))))), (0, (0, (0, (0, (0, (0, (0, (0, (0, (0, (0, (0, (0, (false, (0, (0, ())))))))))))))))), ()) h3))) ∧
    ((decide (o1.2.1 = 12)) = false →
    (((decide (o1.2.1 = 13)) = true →
    deque_Op_popped.j1 Q ((o1.1, (11, (o1.2.2.1.1, (o1.2.2.1.2.1, (o1.2.2.2.1, (o1.2.2.2.2.1, (o1.2.2.2.2.2.1, (o1.2.2.2.2.2.2.1, (o1.2.2.2.2.2.2.2.1, (o1.2.2.2.2.2.2.2.2.1, (o1.2.2.2.2.2.2.2.2.2.1, (o1.2.2.2.2.2.2.2.2.2.2.1, (o1.2.2.2.2.2.2.2.2.2.2.2.1, ((decide (got2 = 1)), (o1.2.2.2.2.2.2.2.2.2.2.2.2.2.1, (o1.2.2.2.2.2.2.2.2.2.2.2.2.2.2.1, ())))))))))))))))), (0, (0, (0, (0, (0, (0, (0, (0, (0, (0, (0, (0, (0, (false, (0, (0, ())))))))))))))))), ()) h3) ∧
    ((decide (o1.2.1 = 13)) = false →
    deque_Op_popped.j1 Q ((o1.1, (o1.2.1, (o1.2.2.1.1, (o1.2.2.1.2.1, (o1.2.2.2.1, (o1.2.2.2.2.1, (o1.2.2.2.2.2.1, (o1.2.2.2.2.2.2.1, (o1.2.2.2.2.2.2.2.1, (o1.2.2.2.2.2.2.2.2.1, (o1.2.2.2.2.2.2.2.2.2.1, (o1.2.2.2.2.2.2.2.2.2.2.1, (o1.2.2.2.2.2.2.2.2.2.2.2.1, (o1.2.2.2.2.2.2.2.2.2.2.2.2.1, (o1.2.2.2.2.2.2.2.2.2.2.2.2.2.1, (o1.2.2.2.2.2.2.2.2.2.2.2.2.2.2.1, ())))))))))))))))), (0, (0, (0, (0, (0, (0, (0, (0, (0, (0, (0, (0, (0, (false, (0, (0, ())))))))))))))))), ()) h3))))))))))))))
def deque_Op_popped.mk : Mk := (.s (.r [0, 1]) (.j [.box 2 (.pair (.int .i64) (.pair (.int .i64) (.pair (.int .i64) (.pair (.int .i64) (.pair (.int .i64) (.pair (.int .i64) (.pair (.int .i64) (.pair (.int .i64) (.pair (.int .i64) (.pair (.int .i64) (.pair (.int .i64) (.pair (.int .i64) (.pair (.int .i64) (.pair .bool kapiTodo)))))))))))))), .box 4 (.pair (.int .i64) (.pair (.int .i64) (.pair (.int .i64) (.pair (.int .i64) (.pair (.int .i64) (.pair (.int .i64) (.pair (.int .i64) (.pair (.int .i64) (.pair (.int .i64) (.pair (.int .i64) (.pair (.int .i64) (.pair (.int .i64) (.pair (.int .i64) (.pair .bool kapiTodo))))))))))))))] (.s .d (.b (.s .d (.c .d (.s .d (.c .d (.s .d (.c (.b (.s .d (.c .d (.s .d (.c (.s .d .d) (.s .d .d)))))) (.s .d (.c (.s .d (.s .d (.c .d .d))) (.s .d (.c (.s .d (.s .d (.c (.s .d .d) .d))) (.s .d (.c (.s .d (.s .d (.c (.s .d .d) .d))) (.s .d (.c .d .d)))))))))))))))) (.s .d .d)))

def deque_Op_stolen.j1 (Q : Den kdequeOp → Heap → Prop) (s4 : ((Int × (Int × (Int × (Int × (Int × (Int × (Int × (Int × (Int × (Int × (Int × (Int × (Int × (Bool × Den kapiTodo)))))))))))))) × ((Int × (Int × (Int × (Int × (Int × (Int × (Int × (Int × (Int × (Int × (Int × (Int × (Int × (Bool × Den kapiTodo)))))))))))))) × Unit))) (h5 : Heap) : Prop :=
    Q (s4.1.1, (s4.1.2.1, ((s4.1.2.2.1, (s4.1.2.2.2.1, ())), (s4.1.2.2.2.2.1, (s4.1.2.2.2.2.2.1, (s4.1.2.2.2.2.2.2.1, (s4.1.2.2.2.2.2.2.2.1, (s4.1.2.2.2.2.2.2.2.2.1, (s4.1.2.2.2.2.2.2.2.2.2.1, (s4.1.2.2.2.2.2.2.2.2.2.2.1, (s4.1.2.2.2.2.2.2.2.2.2.2.2.1, (s4.1.2.2.2.2.2.2.2.2.2.2.2.2.1, (s4.1.2.2.2.2.2.2.2.2.2.2.2.2.2.1, (s4.1.2.2.2.2.2.2.2.2.2.2.2.2.2.2.1, (s4.1.2.2.2.2.2.2.2.2.2.2.2.2.2.2.2.1, ()))))))))))))))) h5
def deque_Op_stolen.M (c_deque_Op_over : Den kdequeOp → Int → Int → Heap → (Den kdequeOp → Heap → Prop) → Prop) (o1 : Den kdequeOp) (got2 : Int) (h3 : Heap) (Q : Den kdequeOp → Heap → Prop) : Prop :=
    (((decide (o1.2.1 = 2)) = true →
    deque_Op_stolen.j1 Q ((o1.1, (1, (o1.2.2.1.1, (o1.2.2.1.2.1, (o1.2.2.2.1, (got2, (o1.2.2.2.2.2.1, (o1.2.2.2.2.2.2.1, (o1.2.2.2.2.2.2.2.1, (o1.2.2.2.2.2.2.2.2.1, (o1.2.2.2.2.2.2.2.2.2.1, (o1.2.2.2.2.2.2.2.2.2.2.1, (o1.2.2.2.2.2.2.2.2.2.2.2.1, (o1.2.2.2.2.2.2.2.2.2.2.2.2.1, (o1.2.2.2.2.2.2.2.2.2.2.2.2.2.1, (o1.2.2.2.2.2.2.2.2.2.2.2.2.2.2.1, ())))))))))))))))), (0, (0, (0, (0, (0, (0, (0, (0, (0, (0, (0, (0, (0, (false, (0, (0, ())))))))))))))))), ()) h3) ∧
    ((decide (o1.2.1 = 2)) = false →
    (((decide (o1.2.1 = 1)) = true →
    (((decide (got2 ≤ o1.2.2.2.2.1)) = true →
    c_deque_Op_over (o1.1, (3, ((o1.2.2.1.1, (o1.2.2.1.2.1, ())), (o1.2.2.2.1, (o1.2.2.2.2.1, (got2, (o1.2.2.2.2.2.2.1, (o1.2.2.2.2.2.2.2.1, (o1.2.2.2.2.2.2.2.2.1, (o1.2.2.2.2.2.2.2.2.2.1, (o1.2.2.2.2.2.2.2.2.2.2.1, (o1.2.2.2.2.2.2.2.2.2.2.2.1, (o1.2.2.2.2.2.2.2.2.2.2.2.2.1, (o1.2.2.2.2.2.2.2.2.2.2.2.2.2.1, (o1.2.2.2.2.2.2.2.2.2.2.2.2.2.2.1, ()))))))))))))))) 5 0 h3 fun r6 h7 =>
    Q (r6.1, (r6.2.1, ((r6.2.2.1.1, (r6.2.2.1.2.1, ())), (r6.2.2.2.1, (r6.2.2.2.2.1, (r6.2.2.2.2.2.1, (r6.2.2.2.2.2.2.1, (r6.2.2.2.2.2.2.2.1, (r6.2.2.2.2.2.2.2.2.1, (r6.2.2.2.2.2.2.2.2.2.1, (r6.2.2.2.2.2.2.2.2.2.2.1, (r6.2.2.2.2.2.2.2.2.2.2.2.1, (r6.2.2.2.2.2.2.2.2.2.2.2.2.1, (r6.2.2.2.2.2.2.2.2.2.2.2.2.2.1, (r6.2.2.2.2.2.2.2.2.2.2.2.2.2.2.1, ()))))))))))))))) h7) ∧
    ((decide (got2 ≤ o1.2.2.2.2.1)) = false →
    deque_Op_stolen.j1 Q ((o1.1, (3, (o1.2.2.1.1, (o1.2.2.1.2.1, (o1.2.2.2.1, (o1.2.2.2.2.1, (got2, (o1.2.2.2.2.2.2.1, (o1.2.2.2.2.2.2.2.1, (o1.2.2.2.2.2.2.2.2.1, (o1.2.2.2.2.2.2.2.2.2.1, (o1.2.2.2.2.2.2.2.2.2.2.1, (o1.2.2.2.2.2.2.2.2.2.2.2.1, (o1.2.2.2.2.2.2.2.2.2.2.2.2.1, (o1.2.2.2.2.2.2.2.2.2.2.2.2.2.1, (o1.2.2.2.2.2.2.2.2.2.2.2.2.2.2.1, ())))))))))))))))), (0, (0, (0, (0, (0, (0, (0, (0, (0, (0, (0, (0, (0, (false, (0, (0, ())))))))))))))))), ()) h3))) ∧
    ((decide (o1.2.1 = 1)) = false →
    (((decide (o1.2.1 = 3)) = true →
    deque_Op_stolen.j1 Q ((o1.1, (4, (o1.2.2.1.1, (o1.2.2.1.2.1, (o1.2.2.2.1, (o1.2.2.2.2.1, (o1.2.2.2.2.2.1, (got2, (o1.2.2.2.2.2.2.2.1, (o1.2.2.2.2.2.2.2.2.1, (o1.2.2.2.2.2.2.2.2.2.1, (o1.2.2.2.2.2.2.2.2.2.2.1, (o1.2.2.2.2.2.2.2.2.2.2.2.1, (o1.2.2.2.2.2.2.2.2.2.2.2.2.1, (o1.2.2.2.2.2.2.2.2.2.2.2.2.2.1, (o1.2.2.2.2.2.2.2.2.2.2.2.2.2.2.1, ())))))))))))))))), (0, (0, (0, (0, (0, (0, (0, (0, (0, (0, (0, (0, (0, (false, (0, (0, ())))))))))))))))), ()) h3) ∧
    ((decide (o1.2.1 = 3)) = false →
    (((decide (o1.2.1 = 4)) = true →
    (((decide (got2 < 1)) = true →
    c_deque_Op_over (o1.1, (12, ((o1.2.2.1.1, (o1.2.2.1.2.1, ())), (o1.2.2.2.1, (o1.2.2.2.2.1, (o1.2.2.2.2.2.1, (o1.2.2.2.2.2.2.1, (got2, (o1.2.2.2.2.2.2.2.2.1, (o1.2.2.2.2.2.2.2.2.2.1, (o1.2.2.2.2.2.2.2.2.2.2.1, (o1.2.2.2.2.2.2.2.2.2.2.2.1, (o1.2.2.2.2.2.2.2.2.2.2.2.2.1, (o1.2.2.2.2.2.2.2.2.2.2.2.2.2.1, (o1.2.2.2.2.2.2.2.2.2.2.2.2.2.2.1, ()))))))))))))))) 1 0 h3 fun r8 h9 =>
    Q (r8.1, (r8.2.1, ((r8.2.2.1.1, (r8.2.2.1.2.1, ())), (r8.2.2.2.1, (r8.2.2.2.2.1, (r8.2.2.2.2.2.1, (r8.2.2.2.2.2.2.1, (r8.2.2.2.2.2.2.2.1, (r8.2.2.2.2.2.2.2.2.1, (r8.2.2.2.2.2.2.2.2.2.1, (r8.2.2.2.2.2.2.2.2.2.2.1, (r8.2.2.2.2.2.2.2.2.2.2.2.1, (r8.2.2.2.2.2.2.2.2.2.2.2.2.1, (r8.2.2.2.2.2.2.2.2.2.2.2.2.2.1, (r8.2.2.2.2.2.2.2.2.2.2.2.2.2.2.1, ()))))))))))))))) h9) ∧
    ((decide (got2 < 1)) = false →
    deque_Op_stolen.j1 Q ((o1.1, (12, (o1.2.2.1.1, (o1.2.2.1.2.1, (o1.2.2.2.1, (o1.2.2.2.2.1, (o1.2.2.2.2.2.1, (o1.2.2.2.2.2.2.1, (got2, (o1.2.2.2.2.2.2.2.2.1, (o1.2.2.2.2.2.2.2.2.2.1, (o1.2.2.2.2.2.2.2.2.2.2.1, (o1.2.2.2.2.2.2.2.2.2.2.2.1, (o1.2.2.2.2.2.2.2.2.2.2.2.2.1, (o1.2.2.2.2.2.2.2.2.2.2.2.2.2.1, (o1.2.2.2.2.2.2.2.2.2.2.2.2.2.2.1, ())))))))))))))))), (0, (0, (0, (0, (0, (0, (0, (0, (0, (0, (0, (0, (0, (false, (0, (0, ())))))))))))))))), ()) h3))) ∧
    ((decide (o1.2.1 = 4)) = false →
    (((decide (o1.2.1 = 12)) = true →
    deque_Op_stolen.j1 Q ((o1.1, (13, (o1.2.2.1.1, (o1.2.2.1.2.1, (o1.2.2.2.1, (o1.2.2.2.2.1, (o1.2.2.2.2.2.1, (o1.2.2.2.2.2.2.1, (o1.2.2.2.2.2.2.2.1, (o1.2.2.2.2.2.2.2.2.1, (o1.2.2.2.2.2.2.2.2.2.1, (o1.2.2.2.2.2.2.2.2.2.2.1, (got2, (o1.2.2.2.2.2.2.2.2.2.2.2.2.1, (o1.2.2.2.2.2.2.2.2.2.2.2.2.2.1, (o1.2.2.2.2.2.2.2.2.2.2.2.2.2.2.1, ())))))))))))))))), (0, (0, (0, (0, (0, (0, (0, (0, (0, (0, (0, (0, (0, (false, (0, (0, ())))))))))))))))), ()) h3) ∧
    ((decide (o1.2.1 = 12)) = false →
    (((decide (o1.2.1 = 13)) = true →
    (((decide (got2 = 1)) = true →
    c_deque_Op_over (o1.1, (o1.2.1, ((o1.2.2.1.1, (o1.2.2.1.2.1, ())), (o1.2.2.2.1, (o1.2.2.2.2.1, (o1.2.2.2.2.2.1, (o1.2.2.2.2.2.2.1, (o1.2.2.2.2.2.2.2.1, (o1.2.2.2.2.2.2.2.2.1, (o1.2.2.2.2.2.2.2.2.2.1, (o1.2.2.2.2.2.2.2.2.2.2.1, (o1.2.2.2.2.2.2.2.2.2.2.2.1, (o1.2.2.2.2.2.2.2.2.2.2.2.2.1, (o1.2.2.2.2.2.2.2.2.2.2.2.2.2.1, (o1.2.2.2.2.2.2.2.2.2.2.2.2.2.2.1, ()))))))))))))))) 4 o1.2.2.2.2.2.2.2.2.2.2.2.1 h3 fun r10 h11 =>
    Q (r10.1, (r10.2.1, ((r10.2.2.1.1, (r10.2.2.1.2.1, ())), (r10.2.2.2.1, (r10.2.2.2.2.1, (r10.2.2.2.2.2.1, (r10.2.2.2.2.2.2.1, (r10.2.2.2.2.2.2.2.1, (r10.2.2.2.2.2.2.2.2.1, (r10.2.2.2.2.2.2.2.2.2.1, (r10.2.2.2.2.2.2.2.2.2.2.1, (r10.2.2.2.2.2.2.2.2.2.2.2.1, (r10.2.2.2.2.2.2.2.2.2.2.2.2.1, (r10.2.2.2.2.2.2.2.2.2.2.2.2.2.1, (r10.2.2.2.2.2.2.2.2.2.2.2.2.2.2.1, ()))))))))))))))) h11) ∧
    ((decide (got2 = 1)) = false →
    c_deque_Op_over (o1.1, (o1.2.1, ((o1.2.2.1.1, (o1.2.2.1.2.1, ())), (o1.2.2.2.1, (o1.2.2.2.2.1, (o1.2.2.2.2.2.1, (o1.2.2.2.2.2.2.1, (o1.2.2.2.2.2.2.2.1, (o1.2.2.2.2.2.2.2.2.1, (o1.2.2.2.2.2.2.2.2.2.1, (o1.2.2.2.2.2.2.2.2.2.2.1, (o1.2.2.2.2.2.2.2.2.2.2.2.1, (o1.2.2.2.2.2.2.2.2.2.2.2.2.1, (o1.2.2.2.2.2.2.2.2.2.2.2.2.2.1, (o1.2.2.2.2.2.2.2.2.2.2.2.2.2.2.1, ()))))))))))))))) 6 0 h3 fun r12 h13 =>
    Q (r12.1, (r12.2.1, ((r12.2.2.1.1, (r12.2.2.1.2.1, ())), (r12.2.2.2.1, (r12.2.2.2.2.1, (r12.2.2.2.2.2.1, (r12.2.2.2.2.2.2.1, (r12.2.2.2.2.2.2.2.1, (r12.2.2.2.2.2.2.2.2.1, (r12.2.2.2.2.2.2.2.2.2.1, (r12.2.2.2.2.2.2.2.2.2.2.1, (r12.2.2.2.2.2.2.2.2.2.2.2.1, (r12.2.2.2.2.2.2.2.2.2.2.2.2.1, (r12.2.2.2.2.2.2.2.2.2.2.2.2.2.1, (r12.2.2.2.2.2.2.2.2.2.2.2.2.2.2.1, ()))))))))))))))) h13))) ∧
    ((decide (o1.2.1 = 13)) = false →
    deque_Op_stolen.j1 Q ((o1.1, (o1.2.1, (o1.2.2.1.1, (o1.2.2.1.2.1, (o1.2.2.2.1, (o1.2.2.2.2.1, (o1.2.2.2.2.2.1, (o1.2.2.2.2.2.2.1, (o1.2.2.2.2.2.2.2.1, (o1.2.2.2.2.2.2.2.2.1, (o1.2.2.2.2.2.2.2.2.2.1, (o1.2.2.2.2.2.2.2.2.2.2.1, (o1.2.2.2.2.2.2.2.2.2.2.2.1, (o1.2.2.2.2.2.2.2.2.2.2.2.2.1, (o1.2.2.2.2.2.2.2.2.2.2.2.2.2.1, (o1.2.2.2.2.2.2.2.2.2.2.2.2.2.2.1, ())))))))))))))))), (0, (0, (0, (0, (0, (0, (0, (0, (0, (0, (0, (0, (0, (false, (0, (0, ())))))))))))))))), ()) h3))))))))))))
def deque_Op_stolen.mk : Mk := (.s (.r [0, 1]) (.j [.box 2 (.pair (.int .i64) (.pair (.int .i64) (.pair (.int .i64) (.pair (.int .i64) (.pair (.int .i64) (.pair (.int .i64) (.pair (.int .i64) (.pair (.int .i64) (.pair (.int .i64) (.pair (.int .i64) (.pair (.int .i64) (.pair (.int .i64) (.pair (.int .i64) (.pair .bool kapiTodo)))))))))))))), .box 4 (.pair (.int .i64) (.pair (.int .i64) (.pair (.int .i64) (.pair (.int .i64) (.pair (.int .i64) (.pair (.int .i64) (.pair (.int .i64) (.pair (.int .i64) (.pair (.int .i64) (.pair (.int .i64) (.pair (.int .i64) (.pair (.int .i64) (.pair (.int .i64) (.pair .bool kapiTodo))))))))))))))] (.s .d (.b (.s .d (.c .d (.s .d (.c (.s .d (.s .d (.c (.s .d .d) .d))) (.s .d (.c .d (.s .d (.c (.s .d (.s .d (.c (.s .d .d) .d))) (.s .d (.c .d (.s .d (.c (.s (.s .d (.c (.s .d .d) .d)) (.s .d .d)) .d)))))))))))))) (.s .d .d)))

def deque_Op_looked.M (c_deque_Op_over : Den kdequeOp → Int → Int → Heap → (Den kdequeOp → Heap → Prop) → Prop) (o1 : Den kdequeOp) (got2 : Int) (h3 : Heap) (Q : Den kdequeOp → Heap → Prop) : Prop :=
    (((decide (o1.2.1 = 2)) = true →
    Q (o1.1, (1, ((o1.2.2.1.1, (o1.2.2.1.2.1, ())), (o1.2.2.2.1, (got2, (o1.2.2.2.2.2.1, (o1.2.2.2.2.2.2.1, (o1.2.2.2.2.2.2.2.1, (o1.2.2.2.2.2.2.2.2.1, (o1.2.2.2.2.2.2.2.2.2.1, (o1.2.2.2.2.2.2.2.2.2.2.1, (o1.2.2.2.2.2.2.2.2.2.2.2.1, (o1.2.2.2.2.2.2.2.2.2.2.2.2.1, (o1.2.2.2.2.2.2.2.2.2.2.2.2.2.1, (o1.2.2.2.2.2.2.2.2.2.2.2.2.2.2.1, ()))))))))))))))) h3) ∧
    ((decide (o1.2.1 = 2)) = false →
    (((decide (o1.2.2.2.2.1 < got2)) = true →
    c_deque_Op_over (o1.1, (o1.2.1, ((o1.2.2.1.1, (o1.2.2.1.2.1, ())), (o1.2.2.2.1, (o1.2.2.2.2.1, (o1.2.2.2.2.2.1, (o1.2.2.2.2.2.2.1, (o1.2.2.2.2.2.2.2.1, (o1.2.2.2.2.2.2.2.2.1, (o1.2.2.2.2.2.2.2.2.2.1, (o1.2.2.2.2.2.2.2.2.2.2.1, (o1.2.2.2.2.2.2.2.2.2.2.2.1, (o1.2.2.2.2.2.2.2.2.2.2.2.2.1, (o1.2.2.2.2.2.2.2.2.2.2.2.2.2.1, (o1.2.2.2.2.2.2.2.2.2.2.2.2.2.2.1, ()))))))))))))))) 7 0 h3 fun r4 h5 =>
    Q (r4.1, (r4.2.1, ((r4.2.2.1.1, (r4.2.2.1.2.1, ())), (r4.2.2.2.1, (r4.2.2.2.2.1, (r4.2.2.2.2.2.1, (r4.2.2.2.2.2.2.1, (r4.2.2.2.2.2.2.2.1, (r4.2.2.2.2.2.2.2.2.1, (r4.2.2.2.2.2.2.2.2.2.1, (r4.2.2.2.2.2.2.2.2.2.2.1, (r4.2.2.2.2.2.2.2.2.2.2.2.1, (r4.2.2.2.2.2.2.2.2.2.2.2.2.1, (r4.2.2.2.2.2.2.2.2.2.2.2.2.2.1, (r4.2.2.2.2.2.2.2.2.2.2.2.2.2.2.1, ()))))))))))))))) h5) ∧
    ((decide (o1.2.2.2.2.1 < got2)) = false →
    c_deque_Op_over (o1.1, (o1.2.1, ((o1.2.2.1.1, (o1.2.2.1.2.1, ())), (o1.2.2.2.1, (o1.2.2.2.2.1, (o1.2.2.2.2.2.1, (o1.2.2.2.2.2.2.1, (o1.2.2.2.2.2.2.2.1, (o1.2.2.2.2.2.2.2.2.1, (o1.2.2.2.2.2.2.2.2.2.1, (o1.2.2.2.2.2.2.2.2.2.2.1, (o1.2.2.2.2.2.2.2.2.2.2.2.1, (o1.2.2.2.2.2.2.2.2.2.2.2.2.1, (o1.2.2.2.2.2.2.2.2.2.2.2.2.2.1, (o1.2.2.2.2.2.2.2.2.2.2.2.2.2.2.1, ()))))))))))))))) 8 0 h3 fun r6 h7 =>
    Q (r6.1, (r6.2.1, ((r6.2.2.1.1, (r6.2.2.1.2.1, ())), (r6.2.2.2.1, (r6.2.2.2.2.1, (r6.2.2.2.2.2.1, (r6.2.2.2.2.2.2.1, (r6.2.2.2.2.2.2.2.1, (r6.2.2.2.2.2.2.2.2.1, (r6.2.2.2.2.2.2.2.2.2.1, (r6.2.2.2.2.2.2.2.2.2.2.1, (r6.2.2.2.2.2.2.2.2.2.2.2.1, (r6.2.2.2.2.2.2.2.2.2.2.2.2.1, (r6.2.2.2.2.2.2.2.2.2.2.2.2.2.1, (r6.2.2.2.2.2.2.2.2.2.2.2.2.2.2.1, ()))))))))))))))) h7))))
def deque_Op_looked.mk : Mk := (.s (.r [0, 1]) (.s (.s .d (.c (.s .d (.s .d .d)) .d)) (.s (.s .d (.c (.s .d .d) .d)) (.s .d .d))))

def hist_may.M  (kind1 : Int) (code2 : Int) (h3 : Heap) (Q : Bool → Heap → Prop) : Prop :=
    (((decide (kind1 = 0)) = true →
    (((decide (code2 = 2)) = true →
    Q true h3) ∧
    ((decide (code2 = 2)) = false →
    Q (decide (code2 = 3)) h3))) ∧
    ((decide (kind1 = 0)) = false →
    (((decide (kind1 = 1)) = true →
    (((decide (code2 = 4)) = true →
    Q true h3) ∧
    ((decide (code2 = 4)) = false →
    Q (decide (code2 = 5)) h3))) ∧
    ((decide (kind1 = 1)) = false →
    (((decide (code2 = 4)) = true →
    Q true h3) ∧
    ((decide (code2 = 4)) = false →
    (((decide (code2 = 5)) = true →
    Q true h3) ∧
    ((decide (code2 = 5)) = false →
    Q (decide (code2 = 6)) h3))))))))
def hist_may.mk : Mk := (.s .d (.s (.s .d (.b (.s .d (.c (.s .d .d) (.s .d (.c (.s .d .d) .d)))))) (.s .d .d)))

def ref4_single.j1 (c_ref4_mayAnswer : Int → Int → Heap → (Bool → Heap → Prop) → Prop) (c1 : Den kapiCall) (Q : Bool → Heap → Prop) (s5 : Unit) (h6 : Heap) : Prop :=
    (((decide (c1.2.2.2.2.1 = (-1))) = true →
    Q (decide (c1.2.2.2.2.2.1 = 0)) h6) ∧
    ((decide (c1.2.2.2.2.1 = (-1))) = false →
    (((decide (c1.2.2.2.1 ≤ c1.2.2.2.2.1)) = true →
    c_ref4_mayAnswer c1.2.1 c1.2.2.2.2.2.1 h6 fun r7 h8 =>
    Q r7 h8) ∧
    ((decide (c1.2.2.2.1 ≤ c1.2.2.2.2.1)) = false →
    Q false h6))))
def ref4_single.j2 (c_ref4_mayAnswer : Int → Int → Heap → (Bool → Heap → Prop) → Prop) (c1 : Den kapiCall) (Q : Bool → Heap → Prop) (s9 : (Bool × Unit)) (h10 : Heap) : Prop :=
    ((s9.1 = true →
    Q false h10) ∧
    (s9.1 = false →
    ref4_single.j1 c_ref4_mayAnswer c1 Q () h10))
def ref4_single.j3 (c_ref4_mayAnswer : Int → Int → Heap → (Bool → Heap → Prop) → Prop) (c1 : Den kapiCall) (Q : Bool → Heap → Prop) (s3 : Unit) (h4 : Heap) : Prop :=
    (((decide (c1.1 = 0)) = true →
    (((decide (c1.2.1 ≠ 0)) = true →
    (((decide (c1.2.1 ≠ 1)) = true →
    ref4_single.j2 c_ref4_mayAnswer c1 Q (true, ()) h4) ∧
    ((decide (c1.2.1 ≠ 1)) = false →
    (((decide ((0 : Int) < c1.1)) = true →
    ref4_single.j2 c_ref4_mayAnswer c1 Q ((decide (c1.2.1 ≠ 2)), ()) h4) ∧
    ((decide ((0 : Int) < c1.1)) = false →
    ref4_single.j2 c_ref4_mayAnswer c1 Q (false, ()) h4))))) ∧
    ((decide (c1.2.1 ≠ 0)) = false →
    (((decide ((0 : Int) < c1.1)) = true →
    ref4_single.j2 c_ref4_mayAnswer c1 Q ((decide (c1.2.1 ≠ 2)), ()) h4) ∧
    ((decide ((0 : Int) < c1.1)) = false →
    ref4_single.j2 c_ref4_mayAnswer c1 Q (false, ()) h4))))) ∧
    ((decide (c1.1 = 0)) = false →
    (((decide ((0 : Int) < c1.1)) = true →
    ref4_single.j2 c_ref4_mayAnswer c1 Q ((decide (c1.2.1 ≠ 2)), ()) h4) ∧
    ((decide ((0 : Int) < c1.1)) = false →
    ref4_single.j2 c_ref4_mayAnswer c1 Q (false, ()) h4))))
def ref4_single.j4 (c_ref4_mayAnswer : Int → Int → Heap → (Bool → Heap → Prop) → Prop) (c1 : Den kapiCall) (Q : Bool → Heap → Prop) (s11 : (Bool × Unit)) (h12 : Heap) : Prop :=
    ((s11.1 = true →
    Q false h12) ∧
    (s11.1 = false →
    ref4_single.j3 c_ref4_mayAnswer c1 Q () h12))
def ref4_single.M (c_ref4_mayAnswer : Int → Int → Heap → (Bool → Heap → Prop) → Prop) (c1 : Den kapiCall) (h2 : Heap) (Q : Bool → Heap → Prop) : Prop :=
    (((decide (c1.1 < 0)) = true →
    ref4_single.j4 c_ref4_mayAnswer c1 Q (true, ()) h2) ∧
    ((decide (c1.1 < 0)) = false →
    (((decide ((3 : Int) < c1.1)) = true →
    ref4_single.j4 c_ref4_mayAnswer c1 Q (true, ()) h2) ∧
    ((decide ((3 : Int) < c1.1)) = false →
    ref4_single.j4 c_ref4_mayAnswer c1 Q ((decide (c1.2.2.2.1 < 0)), ()) h2))))
def ref4_single.mk : Mk := (.s (.r [0]) (.j [] (.j [.slot 15 .bool] .d (.c (.s .d .d) .d)) (.j [] (.j [.slot 38 .bool] .d (.c (.s .d .d) .d)) (.s (.s .d (.c (.s .d .d) .d)) (.s .d .d)))))

def deque_begin.j1 (kind1 : Int) (at_2 : Int) (d3 : Den kapiTodo) (v4 : Int) (Q : Den kdequeOp → Heap → Prop) (s6 : ((Int × (Int × (Int × (Int × (Int × (Int × (Int × (Int × (Int × (Int × (Int × (Int × (Int × (Bool × Den kapiTodo)))))))))))))) × Unit)) (h7 : Heap) : Prop :=
    Q (kind1, (at_2, ((d3.1, (d3.2.1, ())), (v4, (0, (0, (0, (0, (0, (0, (0, (0, (false, (0, (0, ()))))))))))))))) h7
def deque_begin.j2 (kind1 : Int) (at_2 : Int) (d3 : Den kapiTodo) (v4 : Int) (Q : Den kdequeOp → Heap → Prop) (s8 : (Bool × Unit)) (h9 : Heap) : Prop :=
    ((s8.1 = true →
    Q (0, (0, ((0, (0, ())), (0, (0, (0, (0, (0, (0, (0, (0, (0, (false, (0, (0, ()))))))))))))))) h9) ∧
    (s8.1 = false →
    deque_begin.j1 kind1 at_2 d3 v4 Q ((0, (0, (0, (0, (0, (0, (0, (0, (0, (0, (0, (0, (0, (false, (0, (0, ())))))))))))))))), ()) h9))
def deque_begin.M  (kind1 : Int) (at_2 : Int) (d3 : Den kapiTodo) (v4 : Int) (h5 : Heap) (Q : Den kdequeOp → Heap → Prop) : Prop :=
    (((decide (d3.2.1 < 1)) = true →
    deque_begin.j2 kind1 at_2 d3 v4 Q (true, ()) h5) ∧
    ((decide (d3.2.1 < 1)) = false →
    deque_begin.j2 kind1 at_2 d3 v4 Q ((decide ((4096 : Int) < d3.2.1)), ()) h5))
def deque_begin.mk : Mk := (.s (.r [0, 1]) (.j [.box 8 (.pair (.int .i64) (.pair (.int .i64) (.pair (.int .i64) (.pair (.int .i64) (.pair (.int .i64) (.pair (.int .i64) (.pair (.int .i64) (.pair (.int .i64) (.pair (.int .i64) (.pair (.int .i64) (.pair (.int .i64) (.pair (.int .i64) (.pair (.int .i64) (.pair .bool kapiTodo))))))))))))))] (.j [.slot 16 .bool] .d (.c (.s .d .d) .d)) (.s .d .d)))

def deque_Op_next.M  (o1 : Den kdequeOp) (h2 : Heap) (Q : Int → Heap → Prop) : Prop :=
    (((decide (o1.1 = 1)) = true →
    Q (w64 (o1.2.2.2.2.2.1 + 1)) h2) ∧
    ((decide (o1.1 = 1)) = false →
    (((decide (o1.2.2.2.2.2.2.2.2.2.2.1 = 0)) = true →
    Q o1.2.2.2.2.2.1 h2) ∧
    ((decide (o1.2.2.2.2.2.2.2.2.2.2.1 = 0)) = false →
    (((decide (o1.2.2.2.2.2.1 < o1.2.2.2.2.1)) = true →
    Q o1.2.2.2.2.1 h2) ∧
    ((decide (o1.2.2.2.2.2.1 < o1.2.2.2.2.1)) = false →
    Q (w64 (o1.2.2.2.2.1 + 1)) h2))))))
def deque_Op_next.mk : Mk := (.s (.r [0]) (.s (.b (.s .d (.c (.s .d .d) (.s .d (.c (.s .d .d) (.s .d (.c (.s .d .d) .d))))))) (.s .d .d)))

def ref4_mayAnswer.M  (kind1 : Int) (code2 : Int) (h3 : Heap) (Q : Bool → Heap → Prop) : Prop :=
    (((decide (kind1 = 0)) = true →
    (((decide (code2 = 2)) = true →
    Q true h3) ∧
    ((decide (code2 = 2)) = false →
    Q (decide (code2 = 3)) h3))) ∧
    ((decide (kind1 = 0)) = false →
    (((decide (kind1 = 1)) = true →
    (((decide (code2 = 4)) = true →
    Q true h3) ∧
    ((decide (code2 = 4)) = false →
    Q (decide (code2 = 5)) h3))) ∧
    ((decide (kind1 = 1)) = false →
    (((decide (code2 = 4)) = true →
    Q true h3) ∧
    ((decide (code2 = 4)) = false →
    (((decide (code2 = 5)) = true →
    Q true h3) ∧
    ((decide (code2 = 5)) = false →
    Q (decide (code2 = 6)) h3))))))))
def ref4_mayAnswer.mk : Mk := (.s .d (.s (.s .d (.b (.s .d (.c (.s .d .d) (.s .d (.c (.s .d .d) .d)))))) (.s .d .d)))

def cells_Arena_CAS.j1 (c_cells_Arena_note : Option Addr → Int → Int → Int → Int → Bool → Heap → (Unit → Heap → Prop) → Prop) (a1 : Option Addr) (addr2 : Int) (old3 : Int) (next4 : Int) (Q : (Bool × (Int × Unit)) → Heap → Prop) (t11 : Int) (s12 : Unit) (h13 : Heap) : Prop :=
    c_cells_Arena_note a1 2 addr2 old3 next4 (decide (t11 = old3)) h13 fun r14 h15 =>
    Q ((decide (t11 = old3)), 0, ()) h15
def cells_Arena_CAS.M (c_cells_Arena_outside : Option Addr → Int → Heap → (Bool → Heap → Prop) → Prop) (c_cells_Arena_note : Option Addr → Int → Int → Int → Int → Bool → Heap → (Unit → Heap → Prop) → Prop) (a1 : Option Addr) (addr2 : Int) (old3 : Int) (next4 : Int) (h5 : Heap) (Q : (Bool × (Int × Unit)) → Heap → Prop) : Prop :=
    c_cells_Arena_outside a1 addr2 h5 fun r6 h7 =>
    ((r6 = true →
    Q (false, 20, ()) h7) ∧
    (r6 = false →
    deref a1 fun a8 =>
    ld (.sl : Kd) h7 (a8.add 2) fun t9 =>
    (0 ≤ addr2 ∧ addr2 < (t9.len : Int)) ∧
    deref t9.a fun a10 =>
    ld ((.int .i64) : Kd) h7 (a10.add ((addr2 : Int).toNat * 1)) fun t11 =>
    (((decide (t11 = old3)) = true →
    deref a1 fun a16 =>
    ld (.sl : Kd) h7 (a16.add 2) fun t17 =>
    (0 ≤ addr2 ∧ addr2 < (t17.len : Int)) ∧
    deref t17.a fun a18 =>
    st ((.int .i64) : Kd) h7 (a18.add ((addr2 : Int).toNat * 1)) next4 fun h19 =>
    cells_Arena_CAS.j1 c_cells_Arena_note a1 addr2 old3 next4 Q t11 () h19) ∧
    ((decide (t11 = old3)) = false →
    cells_Arena_CAS.j1 c_cells_Arena_note a1 addr2 old3 next4 Q t11 () h7))))
def cells_Arena_CAS.mk : Mk := (.s .d (.s (.s .d (.c (.s .d .d) .d)) (.s .d (.j [] (.s .d (.c .d .d)) (.s .d (.s .d .d))))))

def cells_Arena_Load.M (c_cells_Arena_outside : Option Addr → Int → Heap → (Bool → Heap → Prop) → Prop) (c_cells_Arena_note : Option Addr → Int → Int → Int → Int → Bool → Heap → (Unit → Heap → Prop) → Prop) (a1 : Option Addr) (addr2 : Int) (h3 : Heap) (Q : Den kapiTodo → Heap → Prop) : Prop :=
    c_cells_Arena_outside a1 addr2 h3 fun r4 h5 =>
    ((r4 = true →
    Q (0, 20, ()) h5) ∧
    (r4 = false →
    deref a1 fun a6 =>
    ld (.sl : Kd) h5 (a6.add 2) fun t7 =>
    (0 ≤ addr2 ∧ addr2 < (t7.len : Int)) ∧
    deref t7.a fun a8 =>
    ld ((.int .i64) : Kd) h5 (a8.add ((addr2 : Int).toNat * 1)) fun t9 =>
    c_cells_Arena_note a1 0 addr2 t9 0 true h5 fun r10 h11 =>
    Q (t9, 0, ()) h11))
def cells_Arena_Load.mk : Mk := (.s .d (.s (.s .d (.c (.s .d .d) .d)) (.s .d (.s .d (.s .d .d)))))

def cells_Arena_Reserve.j1 (c_cells_ledger_refuse : Option Addr → Int → Heap → (Int → Heap → Prop) → Prop) (c_cells_ledger_take : Option Addr → Int → Heap → (Int → Heap → Prop) → Prop) (c_cells_Arena_note : Option Addr → Int → Int → Int → Int → Bool → Heap → (Unit → Heap → Prop) → Prop) (a1 : Option Addr) (n2 : Int) (Q : Den kapiTodo → Heap → Prop) (s4 : (Option Addr × Unit)) (h5 : Heap) : Prop :=
    c_cells_ledger_refuse s4.1 n2 h5 fun r6 h7 =>
    (((decide (r6 ≠ 0)) = true →
    Q (0, r6, ()) h7) ∧
    ((decide (r6 ≠ 0)) = false →
    c_cells_ledger_take s4.1 n2 h7 fun r8 h9 =>
    deref a1 fun a10 =>
    ld (.sl : Kd) h9 (a10.add 2) fun t11 =>
    appendZM ((.int .i64) : Kd) 8 h9 t11 n2 fun t12 h13 =>
    deref a1 fun a14 =>
    st (.sl : Kd) h13 (a14.add 2) t12 fun h15 =>
    c_cells_Arena_note a1 4 r8 n2 0 true h15 fun r16 h17 =>
    Q (r8, 0, ()) h17))
def cells_Arena_Reserve.M (c_cells_ledger_refuse : Option Addr → Int → Heap → (Int → Heap → Prop) → Prop) (c_cells_ledger_take : Option Addr → Int → Heap → (Int → Heap → Prop) → Prop) (c_cells_Arena_note : Option Addr → Int → Int → Int → Int → Bool → Heap → (Unit → Heap → Prop) → Prop) (a1 : Option Addr) (n2 : Int) (h3 : Heap) (Q : Den kapiTodo → Heap → Prop) : Prop :=
    (((Option.isSome a1) = true →
    deref a1 fun a18 =>
    cells_Arena_Reserve.j1 c_cells_ledger_refuse c_cells_ledger_take c_cells_Arena_note a1 n2 Q ((some (a18.add 0)), ()) h3) ∧
    ((Option.isSome a1) = false →
    cells_Arena_Reserve.j1 c_cells_ledger_refuse c_cells_ledger_take c_cells_Arena_note a1 n2 Q (none, ()) h3))
def cells_Arena_Reserve.mk : Mk := (.s .d (.s .d (.j [.slot 6 .ptr] (.s .d (.c .d .d)) (.s (.s .d (.s .d (.c (.s .d .d) .d))) (.s .d (.s .d (.s .d (.s .d .d))))))))

def cells_Arena_Store.M (c_cells_Arena_outside : Option Addr → Int → Heap → (Bool → Heap → Prop) → Prop) (c_cells_Arena_note : Option Addr → Int → Int → Int → Int → Bool → Heap → (Unit → Heap → Prop) → Prop) (a1 : Option Addr) (addr2 : Int) (v3 : Int) (h4 : Heap) (Q : Int → Heap → Prop) : Prop :=
    c_cells_Arena_outside a1 addr2 h4 fun r5 h6 =>
    ((r5 = true →
    Q 20 h6) ∧
    (r5 = false →
    deref a1 fun a7 =>
    ld (.sl : Kd) h6 (a7.add 2) fun t8 =>
    (0 ≤ addr2 ∧ addr2 < (t8.len : Int)) ∧
    deref t8.a fun a9 =>
    st ((.int .i64) : Kd) h6 (a9.add ((addr2 : Int).toNat * 1)) v3 fun h10 =>
    c_cells_Arena_note a1 1 addr2 v3 0 true h10 fun r11 h12 =>
    Q 0 h12))
def cells_Arena_Store.mk : Mk := (.s .d (.s (.s .d (.c (.s .d .d) .d)) (.s .d (.s .d (.s .d .d)))))

def cells_Arena_outside.M (c_cells_ledger_has : Option Addr → Int → Heap → (Bool → Heap → Prop) → Prop) (a1 : Option Addr) (addr2 : Int) (h3 : Heap) (Q : Bool → Heap → Prop) : Prop :=
    (((Option.isNone a1) = true →
    Q true h3) ∧
    ((Option.isNone a1) = false →
    deref a1 fun a4 =>
    c_cells_ledger_has (some (a4.add 0)) addr2 h3 fun r5 h6 =>
    Q (!r5) h6))
def cells_Arena_outside.mk : Mk := (.s .d (.s .d .d))

def cells_Arena_note.M  (a1 : Option Addr) (kind2 : Int) (addr3 : Int) (x4 : Int) (y5 : Int) (ok6 : Bool) (h7 : Heap) (Q : Unit → Heap → Prop) : Prop :=
    deref a1 fun a8 =>
    ld (.bool : Kd) h7 (a8.add 5) fun t9 =>
    ((t9 = true →
    deref a1 fun a10 =>
    deref a1 fun a11 =>
    ld (.sl : Kd) h7 (a10.add 3) fun t12 =>
    ld ((.int .i64) : Kd) h7 (a11.add 4) fun t13 =>
    new h7 (([(t13, (kind2, (addr3, (x4, (y5, (ok6, ()))))))] : List (Den kapiAccess)).flatMap (Kd.cells kapiAccess)) fun p14 h15 =>
    appendM 6 48 h15 t12 ⟨some p14, 1, 1⟩ fun t16 h17 =>
    deref a1 fun a18 =>
    st (.sl : Kd) h17 (a18.add 3) t16 fun h19 =>
    Q () h19) ∧
    (t9 = false →
    Q () h7))
def cells_Arena_note.mk : Mk := (.s .d (.c (.q [] [] [.p 0, .p 1, .p 2, .p 3, .p 5, .p 6, .p 7, .p 9, .p 10, .p 11, .p 12, .p 13, .w 4 [4, 16, 17, 18, 19], .w 8 [8, 14, 15, 16, 17, 18, 19], .p 14, .o 15, .o 16, .p 17, .p 18, .o 19]) .d))

def cells_ledger_refuse.j1 (Q : Int → Heap → Prop) (s4 : Unit) (h5 : Heap) : Prop :=
    Q 0 h5
def cells_ledger_refuse.j2 (Q : Int → Heap → Prop) (s6 : (Bool × Unit)) (h7 : Heap) : Prop :=
    ((s6.1 = true →
    Q 22 h7) ∧
    (s6.1 = false →
    cells_ledger_refuse.j1 Q () h7))
def cells_ledger_refuse.M  (l1 : Option Addr) (n2 : Int) (h3 : Heap) (Q : Int → Heap → Prop) : Prop :=
    (((decide (n2 < 1)) = true →
    Q 21 h3) ∧
    ((decide (n2 < 1)) = false →
    (((Option.isNone l1) = true →
    cells_ledger_refuse.j2 Q (true, ()) h3) ∧
    ((Option.isNone l1) = false →
    deref l1 fun a8 =>
    deref l1 fun a9 =>
    ld ((.int .i64) : Kd) h3 (a8.add 0) fun t10 =>
    ld ((.int .i64) : Kd) h3 (a9.add 1) fun t11 =>
    cells_ledger_refuse.j2 Q ((decide ((w64 (t10 - t11)) < n2)), ()) h3))))
def cells_ledger_refuse.mk : Mk := (.s .d (.s (.s .d (.c (.s .d .d) .d)) (.j [] (.j [.slot 21 .bool] (.q [] [] [.p 0, .p 1, .p 2, .p 3, .p 4, .p 5, .p 6, .p 8, .p 9, .p 10, .w 7 [7, 12, 13, 14], .w 11 [11, 12, 13, 14], .p 12, .p 13, .p 14]) (.c (.s .d .d) .d)) (.s .d .d))))

def cells_ledger_take.M  (l1 : Option Addr) (n2 : Int) (h3 : Heap) (Q : Int → Heap → Prop) : Prop :=
    deref l1 fun a4 =>
    ld ((.int .i64) : Kd) h3 (a4.add 1) fun t5 =>
    deref l1 fun a6 =>
    ld ((.int .i64) : Kd) h3 (a6.add 1) fun t7 =>
    deref l1 fun a8 =>
    st ((.int .i64) : Kd) h3 (a8.add 1) (w64 (t7 + n2)) fun h9 =>
    Q t5 h9
def cells_ledger_take.mk : Mk := (.s .d (.s .d (.s .d (.s .d .d))))

def cells_ledger_has.M  (l1 : Option Addr) (addr2 : Int) (h3 : Heap) (Q : Bool → Heap → Prop) : Prop :=
    (((decide ((0 : Int) ≤ addr2)) = true →
    deref l1 fun a4 =>
    ld ((.int .i64) : Kd) h3 (a4.add 1) fun t5 =>
    Q (decide (addr2 < t5)) h3) ∧
    ((decide ((0 : Int) ≤ addr2)) = false →
    Q false h3))
def cells_ledger_has.mk : Mk := (.s .d (.s .d .d))

end Go.Mx
