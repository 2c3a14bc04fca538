/-
  What the functions of this seat come to over abstract heaps: printed by a program of this workplace.
-/
import Derived.Test.YtppehoailhjdfabMxN
set_option linter.unusedVariables false
namespace Go.Mx
abbrev kbuffersplace : Kd := (.pair .ptr (.pair (.int .i64) .nil))
abbrev kbuffersView : Kd := (.pair kbuffersplace .nil)
abbrev kbuffersMemory : Kd := (.pair .ptr (.pair (.int .i64) (.pair (.int .i64) (.pair (.arr 8 .sl) (.pair (.arr 8 kbuffersView) .nil)))))
abbrev klaw21shelf : Kd := (.pair .sl (.pair .sl (.pair .sl .nil)))
abbrev klaw21Move : Kd := (.pair (.int .i64) (.pair (.int .i64) (.pair (.int .i64) (.pair (.int .i64) (.pair (.int .i64) .nil)))))
abbrev kref2Arena : Kd := (.pair (.int .i64) (.pair .sl (.pair .bool (.pair (.int .i64) (.pair .sl .nil)))))
abbrev kref21Memory : Kd := (.pair .ptr (.pair (.int .i64) (.pair .sl .nil)))
abbrev kapiBufferRun : Kd := (.pair .sl (.pair .sl (.pair .sl (.pair .sl (.pair .bool .nil)))))
abbrev klaw21gift : Kd := (.pair .sl (.pair .sl .nil))
abbrev kapiEffect : Kd := (.pair (.int .i64) (.pair .bool (.pair (.int .i64) .nil)))
abbrev kapiWait : Kd := (.pair (.int .i64) (.pair (.int .i64) .nil))
abbrev kapiAccess : Kd := (.pair (.int .i64) (.pair (.int .i64) (.pair (.int .i64) (.pair (.int .i64) (.pair (.int .i64) (.pair .bool .nil))))))
abbrev klaw21Kept : Kd := (.pair .sl (.pair .sl (.pair .sl (.pair .sl (.pair .sl (.pair .sl (.pair (.int .i64) .nil)))))))
abbrev kcellsArena : Kd := (.pair kapiWait (.pair .sl (.pair .sl (.pair (.int .i64) (.pair .bool .nil)))))

def law21_BuffersPlay.j1 (c_law21_gift_untouched : Den klaw21gift → Sl → Heap → (Bool → Heap → Prop) → Prop) (c_law21_sameInts : Sl → Sl → Heap → (Bool → Heap → Prop) → Prop) (c_law21_playPlaced : Int → Int → Int → Sl → Sl → Heap → (Bool → Heap → Prop) → Prop) (size1 : Int) (used2 : Int) (room3 : Int) (lists4 : Sl) (picks5 : Sl) (Q : Bool → Heap → Prop) (r9 : Den klaw21gift) (r11 : Sl) (s17 : Unit) (h18 : Heap) : Prop :=
    c_law21_gift_untouched (r9.1, (r9.2.1, ())) lists4 h18 fun r19 h20 =>
    ((r19 = true →
    (0 ≤ (picks5.len : Int) ∧ (picks5.len : Int) ≤ (r11.cap : Int)) ∧
    c_law21_sameInts (r11.cut 0 (((picks5.len : Int) : Int).toNat) 1) picks5 h20 fun r21 h22 =>
    ((r21 = true →
    (0 ≤ (picks5.len : Int) ∧ (picks5.len : Int) < (r11.len : Int)) ∧
    deref r11.a fun a23 =>
    ld ((.int .i64) : Kd) h22 (a23.add (((picks5.len : Int) : Int).toNat * 1)) fun t24 =>
    (((decide (t24 = (-4711))) = true →
    c_law21_playPlaced size1 used2 room3 lists4 picks5 h22 fun r25 h26 =>
    Q r25 h26) ∧
    ((decide (t24 = (-4711))) = false →
    Q false h22))) ∧
    (r21 = false →
    Q false h22))) ∧
    (r19 = false →
    Q false h20))
def law21_BuffersPlay.j2 (c_law21_gift_untouched : Den klaw21gift → Sl → Heap → (Bool → Heap → Prop) → Prop) (c_law21_sameInts : Sl → Sl → Heap → (Bool → Heap → Prop) → Prop) (c_law21_playPlaced : Int → Int → Int → Sl → Sl → Heap → (Bool → Heap → Prop) → Prop) (size1 : Int) (used2 : Int) (room3 : Int) (lists4 : Sl) (picks5 : Sl) (Q : Bool → Heap → Prop) (r9 : Den klaw21gift) (r11 : Sl) (s27 : (Bool × Unit)) (h28 : Heap) : Prop :=
    ((s27.1 = true →
    Q false h28) ∧
    (s27.1 = false →
    law21_BuffersPlay.j1 c_law21_gift_untouched c_law21_sameInts c_law21_playPlaced size1 used2 room3 lists4 picks5 Q r9 r11 () h28))
def law21_BuffersPlay.M (c_ref21_Play : Int → Int → Int → Sl → Sl → Heap → ((Den kapiBufferRun × (Int × Unit)) → Heap → Prop) → Prop) (c_law21_wrap : Sl → Heap → (Den klaw21gift → Heap → Prop) → Prop) (c_law21_spare : Sl → Heap → (Sl → Heap → Prop) → Prop) (c_buffers_Play : Int → Int → Int → Sl → Sl → Heap → ((Den kapiBufferRun × (Int × Unit)) → Heap → Prop) → Prop) (c_law21_sameRun : Den kapiBufferRun → Den kapiBufferRun → Heap → (Bool → Heap → Prop) → Prop) (c_law21_spoil : Den kapiBufferRun → Heap → (Bool → Heap → Prop) → Prop) (c_law21_gift_untouched : Den klaw21gift → Sl → Heap → (Bool → Heap → Prop) → Prop) (c_law21_sameInts : Sl → Sl → Heap → (Bool → Heap → Prop) → Prop) (c_law21_playPlaced : Int → Int → Int → Sl → Sl → Heap → (Bool → Heap → Prop) → Prop) (size1 : Int) (used2 : Int) (room3 : Int) (lists4 : Sl) (picks5 : Sl) (h6 : Heap) (Q : Bool → Heap → Prop) : Prop :=
    c_ref21_Play size1 used2 room3 lists4 picks5 h6 fun r7 h8 =>
    c_law21_wrap lists4 h8 fun r9 h10 =>
    c_law21_spare picks5 h10 fun r11 h12 =>
    (0 ≤ (picks5.len : Int) ∧ (picks5.len : Int) ≤ (r11.cap : Int)) ∧
    c_buffers_Play size1 used2 room3 r9.2.1 (r11.cut 0 (((picks5.len : Int) : Int).toNat) 1) h12 fun r13 h14 =>
    (0 ≤ (picks5.len : Int) ∧ (picks5.len : Int) ≤ (r11.cap : Int)) ∧
    c_buffers_Play size1 used2 room3 r9.2.1 (r11.cut 0 (((picks5.len : Int) : Int).toNat) 1) h14 fun r15 h16 =>
    (((decide (r13.2.1 ≠ r7.2.1)) = true →
    law21_BuffersPlay.j2 c_law21_gift_untouched c_law21_sameInts c_law21_playPlaced size1 used2 room3 lists4 picks5 Q r9 r11 (true, ()) h16) ∧
    ((decide (r13.2.1 ≠ r7.2.1)) = false →
    (((decide (r15.2.1 ≠ r7.2.1)) = true →
    law21_BuffersPlay.j2 c_law21_gift_untouched c_law21_sameInts c_law21_playPlaced size1 used2 room3 lists4 picks5 Q r9 r11 (true, ()) h16) ∧
    ((decide (r15.2.1 ≠ r7.2.1)) = false →
    c_law21_sameRun (r13.1.1, (r13.1.2.1, (r13.1.2.2.1, (r13.1.2.2.2.1, (r13.1.2.2.2.2.1, ()))))) (r7.1.1, (r7.1.2.1, (r7.1.2.2.1, (r7.1.2.2.2.1, (r7.1.2.2.2.2.1, ()))))) h16 fun r29 h30 =>
    (((!r29) = true →
    law21_BuffersPlay.j2 c_law21_gift_untouched c_law21_sameInts c_law21_playPlaced size1 used2 room3 lists4 picks5 Q r9 r11 (true, ()) h30) ∧
    ((!r29) = false →
    c_law21_spoil (r13.1.1, (r13.1.2.1, (r13.1.2.2.1, (r13.1.2.2.2.1, (r13.1.2.2.2.2.1, ()))))) h30 fun r31 h32 =>
    (((!r31) = true →
    law21_BuffersPlay.j2 c_law21_gift_untouched c_law21_sameInts c_law21_playPlaced size1 used2 room3 lists4 picks5 Q r9 r11 (true, ()) h32) ∧
    ((!r31) = false →
    c_law21_sameRun (r15.1.1, (r15.1.2.1, (r15.1.2.2.1, (r15.1.2.2.2.1, (r15.1.2.2.2.2.1, ()))))) (r7.1.1, (r7.1.2.1, (r7.1.2.2.1, (r7.1.2.2.2.1, (r7.1.2.2.2.2.1, ()))))) h32 fun r33 h34 =>
    law21_BuffersPlay.j2 c_law21_gift_untouched c_law21_sameInts c_law21_playPlaced size1 used2 room3 lists4 picks5 Q r9 r11 ((!r33), ()) h34))))))))
def law21_BuffersPlay.mk : Mk := (.s .d (.s (.r [9]) (.s (.r [2]) (.s .d (.s (.q [13] [15] [.p 0, .p 1, .p 2, .p 3, .p 5, .p 6, .p 7, .p 8, .w 4 [4, 9, 10, 11, 12, 14, 15], .o 9, .p 10, .p 11, .p 12, .a 13, .o 14, .p 15]) (.s (.q [13] [17] [.p 0, .p 1, .p 2, .p 3, .p 5, .p 6, .p 7, .p 8, .w 4 [4, 9, 10, 11, 12, 14, 15], .o 9, .p 10, .p 11, .p 12, .a 13, .o 14, .p 15]) (.j [] (.j [.slot 82 .bool] .d (.c (.s .d .d) .d)) (.s .d .d))))))))

def ref21_New.j1 (actors2 : Int) (room3 : Int) (Q : Den kbuffersplace → Heap → Prop) (r5 : Den kbuffersplace) (s9 : Unit) (h10 : Heap) : Prop :=
    deref r5.1 fun a11 =>
    st (.bool : Kd) h10 (a11.add 2) true fun h12 =>
    makeM (.sl : Kd) 24 h12 actors2 actors2 fun s13 h14 =>
    new h14 (kref21Memory.cells (r5.1, (room3, (s13, ())))) fun p15 h16 =>
    Q ((some p15), 0, ()) h16
def ref21_New.j2 (actors2 : Int) (room3 : Int) (Q : Den kbuffersplace → Heap → Prop) (r5 : Den kbuffersplace) (s17 : (Bool × Unit)) (h18 : Heap) : Prop :=
    ((s17.1 = true →
    new h18 (kref2Arena.cells (0, (Sl.none, (false, (0, (Sl.none, ())))))) fun p19 h20 =>
    new h20 (kref21Memory.cells ((some p19), (0, (Sl.none, ())))) fun p21 h22 =>
    Q ((some p21), 210, ()) h22) ∧
    (s17.1 = false →
    ref21_New.j1 actors2 room3 Q r5 () h18))
def ref21_New.M (c_ref2_New : Int → Heap → (Den kbuffersplace → Heap → Prop) → Prop) (size1 : Int) (actors2 : Int) (room3 : Int) (h4 : Heap) (Q : Den kbuffersplace → Heap → Prop) : Prop :=
    c_ref2_New size1 h4 fun r5 h6 =>
    (((decide (r5.2.1 ≠ 0)) = true →
    new h6 (kref21Memory.cells (r5.1, (0, (Sl.none, ())))) fun p7 h8 =>
    Q ((some p7), r5.2.1, ()) h8) ∧
    ((decide (r5.2.1 ≠ 0)) = false →
    (((decide (actors2 < 1)) = true →
    ref21_New.j2 actors2 room3 Q r5 (true, ()) h6) ∧
    ((decide (actors2 < 1)) = false →
    (((decide ((8 : Int) < actors2)) = true →
    ref21_New.j2 actors2 room3 Q r5 (true, ()) h6) ∧
    ((decide ((8 : Int) < actors2)) = false →
    (((decide (room3 < 1)) = true →
    ref21_New.j2 actors2 room3 Q r5 (true, ()) h6) ∧
    ((decide (room3 < 1)) = false →
    ref21_New.j2 actors2 room3 Q r5 ((decide ((64 : Int) < room3)), ()) h6))))))))
def ref21_New.mk : Mk := (.s .d (.s .d (.s (.s .d (.c (.s .d .d) .d)) (.j [] (.j [.slot 34 .bool] .d (.c (.s .d .d) .d)) (.s .d (.s .d .d))))))

def buffers_New.l1 (actors2 : Int) (Q : Den kbuffersplace → Heap → Prop) (p11 : Addr) (go15 : (Int × Unit) → Heap → Prop) (s13 : (Int × Unit)) (h14 : Heap) : Prop :=
    (((decide (s13.1 < actors2)) = true →
    (0 ≤ s13.1 ∧ s13.1 < (8 : Int)) ∧
    st kbuffersView h14 ((p11.add 11).add ((s13.1 : Int).toNat * 2)) (((some p11), (s13.1, ())), ()) fun h16 =>
    go15 ((w64 (s13.1 + 1)), ()) h16) ∧
    ((decide (s13.1 < actors2)) = false →
    Q ((some p11), 0, ()) h14))
def buffers_New.j2 (c_cells_Arena_Watch : Option Addr → Bool → Heap → (Unit → Heap → Prop) → Prop) (actors2 : Int) (room3 : Int) (Q : Den kbuffersplace → Heap → Prop) (r5 : Den kbuffersplace) (s7 : Unit) (h8 : Heap) : Prop :=
    c_cells_Arena_Watch r5.1 true h8 fun r9 h10 =>
    new h10 (kbuffersMemory.cells (r5.1, (actors2, (room3, ((fun _ => Sl.none), ((fun _ => ((none, (0, ())), ())), ())))))) fun p11 h12 =>
    Loop (buffers_New.l1 actors2 Q p11) (0, ()) h12
def buffers_New.j3 (c_cells_Arena_Watch : Option Addr → Bool → Heap → (Unit → Heap → Prop) → Prop) (actors2 : Int) (room3 : Int) (Q : Den kbuffersplace → Heap → Prop) (r5 : Den kbuffersplace) (s17 : (Bool × Unit)) (h18 : Heap) : Prop :=
    ((s17.1 = true →
    Q (none, 210, ()) h18) ∧
    (s17.1 = false →
    buffers_New.j2 c_cells_Arena_Watch actors2 room3 Q r5 () h18))
def buffers_New.M (c_cells_New : Int → Heap → (Den kbuffersplace → Heap → Prop) → Prop) (c_cells_Arena_Watch : Option Addr → Bool → Heap → (Unit → Heap → Prop) → Prop) (size1 : Int) (actors2 : Int) (room3 : Int) (h4 : Heap) (Q : Den kbuffersplace → Heap → Prop) : Prop :=
    c_cells_New size1 h4 fun r5 h6 =>
    (((decide (r5.2.1 ≠ 0)) = true →
    Q (none, r5.2.1, ()) h6) ∧
    ((decide (r5.2.1 ≠ 0)) = false →
    (((decide (actors2 < 1)) = true →
    buffers_New.j3 c_cells_Arena_Watch actors2 room3 Q r5 (true, ()) h6) ∧
    ((decide (actors2 < 1)) = false →
    (((decide ((8 : Int) < actors2)) = true →
    buffers_New.j3 c_cells_Arena_Watch actors2 room3 Q r5 (true, ()) h6) ∧
    ((decide ((8 : Int) < actors2)) = false →
    (((decide (room3 < 1)) = true →
    buffers_New.j3 c_cells_Arena_Watch actors2 room3 Q r5 (true, ()) h6) ∧
    ((decide (room3 < 1)) = false →
    buffers_New.j3 c_cells_Arena_Watch actors2 room3 Q r5 ((decide ((64 : Int) < room3)), ()) h6))))))))
def buffers_New.mk : Mk := (.s .d (.s .d (.s (.s .d (.c (.s .d .d) .d)) (.j [] (.j [.slot 33 .bool] .d (.c (.s .d .d) .d)) (.s .d (.s .d (.s (.s .d (.b (.l [.slot 42 (.int .i64)] (.s .d (.s (.c .d .d) (.s (.b (.s .d .d)) .d)))))) (.s .d .d))))))))

def law21_sameNumbers.l1 (a1 : Sl) (b2 : Sl) (Q : Bool → Heap → Prop) (go6 : (Int × Unit) → Heap → Prop) (s4 : (Int × Unit)) (h5 : Heap) : Prop :=
    (((decide (s4.1 < (a1.len : Int))) = true →
    (0 ≤ s4.1 ∧ s4.1 < (a1.len : Int)) ∧
    deref a1.a fun a7 =>
    (0 ≤ s4.1 ∧ s4.1 < (b2.len : Int)) ∧
    deref b2.a fun a8 =>
    ld ((.int .i64) : Kd) h5 (a7.add ((s4.1 : Int).toNat * 1)) fun t9 =>
    ld ((.int .i64) : Kd) h5 (a8.add ((s4.1 : Int).toNat * 1)) fun t10 =>
    (((decide (t9 ≠ t10)) = true →
    Q false h5) ∧
    ((decide (t9 ≠ t10)) = false →
    go6 ((w64 (s4.1 + 1)), ()) h5))) ∧
    ((decide (s4.1 < (a1.len : Int))) = false →
    Q true h5))
def law21_sameNumbers.M  (a1 : Sl) (b2 : Sl) (h3 : Heap) (Q : Bool → Heap → Prop) : Prop :=
    (((decide ((a1.len : Int) ≠ (b2.len : Int))) = true →
    Q false h3) ∧
    ((decide ((a1.len : Int) ≠ (b2.len : Int))) = false →
    Loop (law21_sameNumbers.l1 a1 b2 Q) (0, ()) h3))
def law21_sameNumbers.mk : Mk := (.s .d (.s (.s .d (.c (.s .d .d) .d)) (.s (.s .d (.b (.l [.slot 5 (.int .i64)] (.s (.s .d (.c .d .d)) (.s (.b (.s (.q [] [] [.p 0, .p 1, .p 2, .p 4, .p 5, .p 6, .w 3 [3, 8], .w 7 [7, 8], .p 8]) (.c (.s .d .d) .d))) .d))))) (.s .d .d))))

def buffers_Memory_Cells.M (c_cells_Arena_Cells : Option Addr → Heap → (Sl → Heap → Prop) → Prop) (m1 : Option Addr) (h2 : Heap) (Q : Sl → Heap → Prop) : Prop :=
    (((Option.isNone m1) = true →
    Q ⟨none, 0, 0⟩ h2) ∧
    ((Option.isNone m1) = false →
    deref m1 fun a3 =>
    ld (.ptr : Kd) h2 (a3.add 0) fun t4 =>
    c_cells_Arena_Cells t4 h2 fun r5 h6 =>
    Q r5 h6))
def buffers_Memory_Cells.mk : Mk := (.s .d (.s (.s .d (.c (.s .d .d) .d)) (.s .d .d)))

def law21_sameLog.l1 (a1 : Sl) (b2 : Sl) (Q : Bool → Heap → Prop) (go6 : (Int × Unit) → Heap → Prop) (s4 : (Int × Unit)) (h5 : Heap) : Prop :=
    (((decide (s4.1 < (a1.len : Int))) = true →
    (0 ≤ s4.1 ∧ s4.1 < (a1.len : Int)) ∧
    deref a1.a fun a7 =>
    (0 ≤ s4.1 ∧ s4.1 < (b2.len : Int)) ∧
    deref b2.a fun a8 =>
    ld kapiAccess h5 (a7.add ((s4.1 : Int).toNat * 6)) fun t9 =>
    ld kapiAccess h5 (a8.add ((s4.1 : Int).toNat * 6)) fun t10 =>
    (((!(eqK kapiAccess t9 t10)) = true →
    Q false h5) ∧
    ((!(eqK kapiAccess t9 t10)) = false →
    go6 ((w64 (s4.1 + 1)), ()) h5))) ∧
    ((decide (s4.1 < (a1.len : Int))) = false →
    Q true h5))
def law21_sameLog.M  (a1 : Sl) (b2 : Sl) (h3 : Heap) (Q : Bool → Heap → Prop) : Prop :=
    (((decide ((a1.len : Int) ≠ (b2.len : Int))) = true →
    Q false h3) ∧
    ((decide ((a1.len : Int) ≠ (b2.len : Int))) = false →
    Loop (law21_sameLog.l1 a1 b2 Q) (0, ()) h3))
def law21_sameLog.mk : Mk := (.s .d (.s (.s .d (.c (.s .d .d) .d)) (.s (.s .d (.b (.l [.slot 5 (.int .i64)] (.s (.s .d (.c .d .d)) (.s (.b (.s (.q [] [] [.p 0, .p 1, .p 2, .p 4, .p 5, .p 6, .w 3 [3, 8], .w 7 [7, 8], .p 8]) (.c (.s .d .d) .d))) .d))))) (.s .d .d))))

def buffers_Memory_Log.M (c_cells_Arena_Log : Option Addr → Heap → (Sl → Heap → Prop) → Prop) (m1 : Option Addr) (h2 : Heap) (Q : Sl → Heap → Prop) : Prop :=
    (((Option.isNone m1) = true →
    Q ⟨none, 0, 0⟩ h2) ∧
    ((Option.isNone m1) = false →
    deref m1 fun a3 =>
    ld (.ptr : Kd) h2 (a3.add 0) fun t4 =>
    c_cells_Arena_Log t4 h2 fun r5 h6 =>
    Q r5 h6))
def buffers_Memory_Log.mk : Mk := (.s .d (.s (.s .d (.c (.s .d .d) .d)) (.s .d .d)))

def ref21_Play.j1 (go15 : (Int × Unit) → Heap → Prop) (s13 : (Int × Unit)) (s16 : Unit) (h17 : Heap) : Prop :=
    go15 ((w64 (s13.1 + 1)), ()) h17
def ref21_Play.j2 (go56 : (Int × (Den kapiBufferRun × Unit)) → Heap → Prop) (s54 : (Int × (Den kapiBufferRun × Unit))) (s57 : (Den kapiBufferRun × Unit)) (h58 : Heap) : Prop :=
    go56 ((w64 (s54.1 + 1)), (s57.1.1, (s57.1.2.1, (s57.1.2.2.1, (s57.1.2.2.2.1, (s57.1.2.2.2.2.1, ()))))), ()) h58
def ref21_Play.j3 (go56 : (Int × (Den kapiBufferRun × Unit)) → Heap → Prop) (s54 : (Int × (Den kapiBufferRun × Unit))) (s59 : (Bool × Unit)) (h60 : Heap) : Prop :=
    ((s59.1 = true →
    ref21_Play.j2 go56 s54 ((s54.2.1.1, (s54.2.1.2.1, (s54.2.1.2.2.1, (s54.2.1.2.2.2.1, (false, ()))))), ()) h60) ∧
    (s59.1 = false →
    ref21_Play.j2 go56 s54 ((s54.2.1.1, (s54.2.1.2.1, (s54.2.1.2.2.1, (s54.2.1.2.2.2.1, (s54.2.1.2.2.2.2.1, ()))))), ()) h60))
def ref21_Play.l4 (lists4 : Sl) (Q : (Den kapiBufferRun × (Int × Unit)) → Heap → Prop) (r9 : Option Addr) (s11 : Sl) (go56 : (Int × (Den kapiBufferRun × Unit)) → Heap → Prop) (s54 : (Int × (Den kapiBufferRun × Unit))) (h55 : Heap) : Prop :=
    (((decide (s54.1 < (lists4.len : Int))) = true →
    (0 ≤ s54.1 ∧ s54.1 < (s11.len : Int)) ∧
    deref s11.a fun a61 =>
    (0 ≤ s54.1 ∧ s54.1 < (lists4.len : Int)) ∧
    deref lists4.a fun a62 =>
    ld (.sl : Kd) h55 (a61.add ((s54.1 : Int).toNat * 1)) fun t63 =>
    ld (.sl : Kd) h55 (a62.add ((s54.1 : Int).toNat * 1)) fun t64 =>
    (((decide ((t63.len : Int) < (t64.len : Int))) = true →
    ref21_Play.j3 go56 s54 (true, ()) h55) ∧
    ((decide ((t63.len : Int) < (t64.len : Int))) = false →
    deref r9 fun a65 =>
    ld (.sl : Kd) h55 (a65.add 2) fun t66 =>
    (0 ≤ s54.1 ∧ s54.1 < (t66.len : Int)) ∧
    deref t66.a fun a67 =>
    ld (.sl : Kd) h55 (a67.add ((s54.1 : Int).toNat * 1)) fun t68 =>
    ref21_Play.j3 go56 s54 ((decide ((0 : Int) < (t68.len : Int))), ()) h55))) ∧
    ((decide (s54.1 < (lists4.len : Int))) = false →
    Q ((s54.2.1.1, (s54.2.1.2.1, (s54.2.1.2.2.1, (s54.2.1.2.2.2.1, (s54.2.1.2.2.2.2.1, ()))))), 0, ()) h55))
def ref21_Play.l5 (c_ref21_mod : Int → Int → Heap → (Int → Heap → Prop) → Prop) (c_ref21_Memory_Flush : Option Addr → Int → Heap → (Bool → Heap → Prop) → Prop) (c_ref21_Memory_Do : Option Addr → Int → Den klaw21Move → Heap → (Den kapiEffect → Heap → Prop) → Prop) (lists4 : Sl) (picks5 : Sl) (Q : (Den kapiBufferRun × (Int × Unit)) → Heap → Prop) (r9 : Option Addr) (s11 : Sl) (go15 : (Int × Unit) → Heap → Prop) (s13 : (Int × Unit)) (h14 : Heap) : Prop :=
    (((decide (s13.1 < (picks5.len : Int))) = true →
    (0 ≤ s13.1 ∧ s13.1 < (picks5.len : Int)) ∧
    deref picks5.a fun a18 =>
    ld ((.int .i64) : Kd) h14 (a18.add ((s13.1 : Int).toNat * 1)) fun t19 =>
    c_ref21_mod t19 (w64 (2 * (lists4.len : Int))) h14 fun r20 h21 =>
    (((decide ((lists4.len : Int) ≤ r20)) = true →
    c_ref21_Memory_Flush r9 (w64 (r20 - (lists4.len : Int))) h21 fun r22 h23 =>
    ref21_Play.j1 go15 s13 () h23) ∧
    ((decide ((lists4.len : Int) ≤ r20)) = false →
    (0 ≤ r20 ∧ r20 < (s11.len : Int)) ∧
    deref s11.a fun a24 =>
    (0 ≤ r20 ∧ r20 < (lists4.len : Int)) ∧
    deref lists4.a fun a25 =>
    ld (.sl : Kd) h21 (a24.add ((r20 : Int).toNat * 1)) fun t26 =>
    ld (.sl : Kd) h21 (a25.add ((r20 : Int).toNat * 1)) fun t27 =>
    (((decide ((t26.len : Int) < (t27.len : Int))) = true →
    (0 ≤ r20 ∧ r20 < (lists4.len : Int)) ∧
    deref lists4.a fun a28 =>
    (0 ≤ r20 ∧ r20 < (s11.len : Int)) ∧
    deref s11.a fun a29 =>
    ld (.sl : Kd) h21 (a28.add ((r20 : Int).toNat * 1)) fun t30 =>
    ld (.sl : Kd) h21 (a29.add ((r20 : Int).toNat * 1)) fun t31 =>
    (0 ≤ (t31.len : Int) ∧ (t31.len : Int) < (t30.len : Int)) ∧
    deref t30.a fun a32 =>
    ld klaw21Move h21 (a32.add (((t31.len : Int) : Int).toNat * 5)) fun t33 =>
    c_ref21_Memory_Do r9 r20 t33 h21 fun r34 h35 =>
    (0 ≤ r20 ∧ r20 < (s11.len : Int)) ∧
    deref s11.a fun a36 =>
    ld (.sl : Kd) h35 (a36.add ((r20 : Int).toNat * 1)) fun t37 =>
    new h35 (([(r34.1, (r34.2.1, (r34.2.2.1, ())))] : List (Den kapiEffect)).flatMap (Kd.cells kapiEffect)) fun p38 h39 =>
    appendM 3 24 h39 t37 ⟨some p38, 1, 1⟩ fun t40 h41 =>
    (0 ≤ r20 ∧ r20 < (s11.len : Int)) ∧
    deref s11.a fun a42 =>
    st (.sl : Kd) h41 (a42.add ((r20 : Int).toNat * 1)) t40 fun h43 =>
    ref21_Play.j1 go15 s13 () h43) ∧
    ((decide ((t26.len : Int) < (t27.len : Int))) = false →
    ref21_Play.j1 go15 s13 () h21))))) ∧
    ((decide (s13.1 < (picks5.len : Int))) = false →
    deref r9 fun a44 =>
    deref r9 fun a45 =>
    deref r9 fun a46 =>
    ld (.sl : Kd) h14 (a44.add 2) fun t47 =>
    ld (.ptr : Kd) h14 (a45.add 0) fun t48 =>
    deref t48 fun a49 =>
    ld (.sl : Kd) h14 (a49.add 1) fun t50 =>
    ld (.ptr : Kd) h14 (a46.add 0) fun t51 =>
    deref t51 fun a52 =>
    ld (.sl : Kd) h14 (a52.add 4) fun t53 =>
    Loop (ref21_Play.l4 lists4 Q r9 s11) (0, (s11, (t47, (t50, (t53, (true, ()))))), ()) h14))
def ref21_Play.M (c_ref21_Refuses : Int → Int → Int → Sl → Sl → Heap → (Int → Heap → Prop) → Prop) (c_ref21_using : Int → Int → Int → Int → Heap → (Option Addr → Heap → Prop) → Prop) (c_ref21_mod : Int → Int → Heap → (Int → Heap → Prop) → Prop) (c_ref21_Memory_Flush : Option Addr → Int → Heap → (Bool → Heap → Prop) → Prop) (c_ref21_Memory_Do : Option Addr → Int → Den klaw21Move → Heap → (Den kapiEffect → Heap → Prop) → Prop) (size1 : Int) (used2 : Int) (room3 : Int) (lists4 : Sl) (picks5 : Sl) (h6 : Heap) (Q : (Den kapiBufferRun × (Int × Unit)) → Heap → Prop) : Prop :=
    c_ref21_Refuses size1 used2 room3 lists4 picks5 h6 fun r7 h8 =>
    (((decide (r7 ≠ 0)) = true →
    Q ((Sl.none, (Sl.none, (Sl.none, (Sl.none, (false, ()))))), r7, ()) h8) ∧
    ((decide (r7 ≠ 0)) = false →
    c_ref21_using size1 used2 (lists4.len : Int) room3 h8 fun r9 h10 =>
    makeM (.sl : Kd) 24 h10 (lists4.len : Int) (lists4.len : Int) fun s11 h12 =>
    Loop (ref21_Play.l5 c_ref21_mod c_ref21_Memory_Flush c_ref21_Memory_Do lists4 picks5 Q r9 s11) (0, ()) h12))
def ref21_Play.mk : Mk := (.s (.r [0]) (.s .d (.s (.s .d (.c (.s .d .d) .d)) (.s .d (.s .d (.s .d (.s (.s .d (.b (.l [.slot 16 (.int .i64)] (.s (.s .d (.c .d .d)) (.j [] (.b (.s .d (.s (.s .d (.c (.s .d .d) .d)) (.s (.q [] [] [.p 0, .p 1, .p 2, .p 5, .p 6, .p 7, .w 3 [3, 4, 10], .p 4, .w 8 [8, 9, 10], .p 9, .p 10]) (.c (.s (.q [14] [18] [.p 0, .p 1, .p 2, .p 3, .p 4, .p 6, .p 7, .p 8, .w 5 [5, 11, 12, 13, 15], .w 9 [9, 10, 11, 12, 13, 15], .p 10, .p 11, .w 12 [12, 13, 15], .o 13, .a 14, .o 15]) (.q [] [] [.p 0, .p 1, .p 2, .p 3, .p 4, .w 5 [5, 8, 9, 10], .w 6 [6, 7, 8, 9, 10], .o 7, .o 8, .p 9, .o 10])) .d))))) .d))))) (.s (.q [20] [19] [.p 0, .p 1, .p 2, .p 3, .p 5, .p 6, .p 7, .p 12, .p 13, .p 14, .w 4 [4, 19, 21], .w 8 [8, 9, 10, 11, 19, 21], .p 9, .p 10, .w 11 [11, 19, 21], .w 15 [15, 16, 17, 18, 19, 21], .p 16, .p 17, .w 18 [18, 19, 21], .p 19, .o 20, .o 21]) (.s (.s .d (.b (.l [.slot 20 (.int .i64), .box 19 kapiBufferRun] (.s (.s .d (.c .d .d)) (.j [.box 19 kapiBufferRun] (.b (.j [.slot 142 .bool] (.q [] [] [.p 0, .p 1, .p 2, .p 5, .p 6, .p 7, .w 3 [3, 4, 10, 11, 12, 13, 14, 15, 16, 17, 18, 19, 20, 21], .p 4, .w 8 [8, 9, 10, 11, 12, 13, 14, 15, 16, 17, 18, 19, 20, 21], .p 9, .p 10, .p 11, .p 12, .p 13, .p 14, .p 16, .w 15 [15, 17, 18, 19, 20, 21], .p 17, .w 18 [18, 19, 20, 21], .p 19, .p 20, .p 21]) (.c .d .d))) .d))))) (.s .d .d))))))))))

def law21_wrap.l1 (c_law21_odd : Int → Heap → (Den klaw21Move → Heap → Prop) → Prop) (lists1 : Sl) (s3 : Sl) (go7 : (Int × (Den klaw21gift × Unit)) → Heap → Prop) (s5 : (Int × (Den klaw21gift × Unit))) (s10 : Sl) (go14 : (Int × Unit) → Heap → Prop) (s12 : (Int × Unit)) (h13 : Heap) : Prop :=
    (0 ≤ s5.1 ∧ s5.1 < (lists1.len : Int)) ∧
    deref lists1.a fun a15 =>
    ld (.sl : Kd) h13 (a15.add ((s5.1 : Int).toNat * 1)) fun t16 =>
    (((decide (s12.1 < (t16.len : Int))) = true →
    (0 ≤ s5.1 ∧ s5.1 < (lists1.len : Int)) ∧
    deref lists1.a fun a17 =>
    ld (.sl : Kd) h13 (a17.add ((s5.1 : Int).toNat * 1)) fun t18 =>
    (0 ≤ s12.1 ∧ s12.1 < (t18.len : Int)) ∧
    deref t18.a fun a19 =>
    ld klaw21Move h13 (a19.add ((s12.1 : Int).toNat * 5)) fun t20 =>
    (0 ≤ s12.1 ∧ s12.1 < (s10.len : Int)) ∧
    deref s10.a fun a21 =>
    st klaw21Move h13 (a21.add ((s12.1 : Int).toNat * 5)) t20 fun h22 =>
    go14 ((w64 (s12.1 + 1)), ()) h22) ∧
    ((decide (s12.1 < (t16.len : Int))) = false →
    (0 ≤ s5.1 ∧ s5.1 < (lists1.len : Int)) ∧
    deref lists1.a fun a23 =>
    ld (.sl : Kd) h13 (a23.add ((s5.1 : Int).toNat * 1)) fun t24 =>
    c_law21_odd s5.1 h13 fun r25 h26 =>
    sees h26 (some (a23.add ((s5.1 : Int).toNat * 1))) (.sl : Kd) t24 ∧
    (0 ≤ (t24.len : Int) ∧ (t24.len : Int) < (s10.len : Int)) ∧
    deref s10.a fun a27 =>
    st klaw21Move h26 (a27.add (((t24.len : Int) : Int).toNat * 5)) r25 fun h28 =>
    new h28 (([s10] : List (Den (.sl : Kd))).flatMap (Kd.cells (.sl : Kd))) fun p29 h30 =>
    appendM 1 24 h30 s5.2.1.1 ⟨some p29, 1, 1⟩ fun t31 h32 =>
    (0 ≤ s5.1 ∧ s5.1 < (lists1.len : Int)) ∧
    deref lists1.a fun a33 =>
    ld (.sl : Kd) h32 (a33.add ((s5.1 : Int).toNat * 1)) fun t34 =>
    (0 ≤ (t34.len : Int) ∧ (t34.len : Int) ≤ (s10.cap : Int)) ∧
    (0 ≤ s5.1 ∧ s5.1 < (s3.len : Int)) ∧
    deref s3.a fun a35 =>
    st (.sl : Kd) h32 (a35.add ((s5.1 : Int).toNat * 1)) (s10.cut 0 (((t34.len : Int) : Int).toNat) 5) fun h36 =>
    go7 ((w64 (s5.1 + 1)), (t31, (s5.2.1.2.1, ())), ()) h36))
def law21_wrap.l2 (c_law21_odd : Int → Heap → (Den klaw21Move → Heap → Prop) → Prop) (lists1 : Sl) (Q : Den klaw21gift → Heap → Prop) (s3 : Sl) (go7 : (Int × (Den klaw21gift × Unit)) → Heap → Prop) (s5 : (Int × (Den klaw21gift × Unit))) (h6 : Heap) : Prop :=
    (((decide (s5.1 < (lists1.len : Int))) = true →
    (0 ≤ s5.1 ∧ s5.1 < (lists1.len : Int)) ∧
    deref lists1.a fun a8 =>
    ld (.sl : Kd) h6 (a8.add ((s5.1 : Int).toNat * 1)) fun t9 =>
    makeM klaw21Move 40 h6 (w64 ((t9.len : Int) + 1)) (w64 ((t9.len : Int) + 1)) fun s10 h11 =>
    Loop (law21_wrap.l1 c_law21_odd lists1 s3 go7 s5 s10) (0, ()) h11) ∧
    ((decide (s5.1 < (lists1.len : Int))) = false →
    c_law21_odd (-1) h6 fun r37 h38 =>
    new h38 (([r37] : List (Den klaw21Move)).flatMap (Kd.cells klaw21Move)) fun p39 h40 =>
    (0 ≤ (lists1.len : Int) ∧ (lists1.len : Int) < (s3.len : Int)) ∧
    deref s3.a fun a41 =>
    st (.sl : Kd) h40 (a41.add (((lists1.len : Int) : Int).toNat * 1)) ⟨some p39, 1, 1⟩ fun h42 =>
    (0 ≤ (lists1.len : Int) ∧ (lists1.len : Int) ≤ (s3.cap : Int)) ∧
    Q (s5.2.1.1, ((s3.cut 0 (((lists1.len : Int) : Int).toNat) 1), ())) h42))
def law21_wrap.M (c_law21_odd : Int → Heap → (Den klaw21Move → Heap → Prop) → Prop) (lists1 : Sl) (h2 : Heap) (Q : Den klaw21gift → Heap → Prop) : Prop :=
    makeM (.sl : Kd) 24 h2 (w64 ((lists1.len : Int) + 1)) (w64 ((lists1.len : Int) + 1)) fun s3 h4 =>
    Loop (law21_wrap.l2 c_law21_odd lists1 Q s3) (0, (Sl.none, (Sl.none, ())), ()) h4
def law21_wrap.mk : Mk := (.s (.r [0]) (.s (.r [0]) (.s .d (.s .d (.s (.s .d (.b (.l [.slot 6 (.int .i64), .box 3 klaw21gift] (.s (.s .d (.c .d .d)) (.s (.b (.s .d (.s (.s .d (.b (.l [.slot 8 (.int .i64)] (.s (.s .d (.c .d .d)) (.s (.b .d) .d))))) (.s (.q [] [] [.p 0, .p 1, .p 2, .p 3, .p 6, .w 4 [4, 5, 8, 9], .p 5, .o 7, .p 8, .o 9]) (.s .d .d))))) .d))))) (.s .d (.s .d (.s .d .d))))))))

def law21_spare.l1 (l1 : Sl) (Q : Sl → Heap → Prop) (s3 : Sl) (go7 : (Int × Unit) → Heap → Prop) (s5 : (Int × Unit)) (h6 : Heap) : Prop :=
    (((decide (s5.1 < (l1.len : Int))) = true →
    (0 ≤ s5.1 ∧ s5.1 < (l1.len : Int)) ∧
    deref l1.a fun a8 =>
    ld ((.int .i64) : Kd) h6 (a8.add ((s5.1 : Int).toNat * 1)) fun t9 =>
    (0 ≤ s5.1 ∧ s5.1 < (s3.len : Int)) ∧
    deref s3.a fun a10 =>
    st ((.int .i64) : Kd) h6 (a10.add ((s5.1 : Int).toNat * 1)) t9 fun h11 =>
    go7 ((w64 (s5.1 + 1)), ()) h11) ∧
    ((decide (s5.1 < (l1.len : Int))) = false →
    (0 ≤ (l1.len : Int) ∧ (l1.len : Int) < (s3.len : Int)) ∧
    deref s3.a fun a12 =>
    st ((.int .i64) : Kd) h6 (a12.add (((l1.len : Int) : Int).toNat * 1)) (-4711) fun h13 =>
    Q s3 h13))
def law21_spare.M  (l1 : Sl) (h2 : Heap) (Q : Sl → Heap → Prop) : Prop :=
    makeM ((.int .i64) : Kd) 8 h2 (w64 ((l1.len : Int) + 1)) (w64 ((l1.len : Int) + 1)) fun s3 h4 =>
    Loop (law21_spare.l1 l1 Q s3) (0, ()) h4
def law21_spare.mk : Mk := (.s .d (.s .d (.s (.s .d (.b (.l [.slot 4 (.int .i64)] (.s (.s .d (.c .d .d)) (.s (.b .d) .d))))) (.s .d (.s .d .d)))))

def buffers_Play.j1 (go19 : (Int × Unit) → Heap → Prop) (s17 : (Int × Unit)) (s20 : Unit) (h21 : Heap) : Prop :=
    go19 ((w64 (s17.1 + 1)), ()) h21
def buffers_Play.j2 (go50 : (Int × (Den kapiBufferRun × Unit)) → Heap → Prop) (s48 : (Int × (Den kapiBufferRun × Unit))) (s51 : (Den kapiBufferRun × Unit)) (h52 : Heap) : Prop :=
    go50 ((w64 (s48.1 + 1)), (s51.1.1, (s51.1.2.1, (s51.1.2.2.1, (s51.1.2.2.2.1, (s51.1.2.2.2.2.1, ()))))), ()) h52
def buffers_Play.l3 (c_buffers_Memory_Waiting : Option Addr → Int → Heap → (Sl → Heap → Prop) → Prop) (c_buffers_Memory_Cells : Option Addr → Heap → (Sl → Heap → Prop) → Prop) (c_buffers_Memory_Log : Option Addr → Heap → (Sl → Heap → Prop) → Prop) (Q : (Den kapiBufferRun × (Int × Unit)) → Heap → Prop) (s11 : (Sl × (Sl × (Int × (Option Addr × (Den kapiBufferRun × Unit)))))) (go50 : (Int × (Den kapiBufferRun × Unit)) → Heap → Prop) (s48 : (Int × (Den kapiBufferRun × Unit))) (h49 : Heap) : Prop :=
    (((decide (s48.1 < s11.2.2.1)) = true →
    c_buffers_Memory_Waiting s11.2.2.2.1 s48.1 h49 fun r53 h54 =>
    (0 ≤ s48.1 ∧ s48.1 < (s48.2.1.2.1.len : Int)) ∧
    deref s48.2.1.2.1.a fun a55 =>
    st (.sl : Kd) h54 (a55.add ((s48.1 : Int).toNat * 1)) r53 fun h56 =>
    ((s48.2.1.2.2.2.2.1 = true →
    (0 ≤ s48.1 ∧ s48.1 < (s48.2.1.2.1.len : Int)) ∧
    deref s48.2.1.2.1.a fun a57 =>
    ld (.sl : Kd) h56 (a57.add ((s48.1 : Int).toNat * 1)) fun t58 =>
    (((decide ((t58.len : Int) = 0)) = true →
    (0 ≤ s48.1 ∧ s48.1 < (s11.1.len : Int)) ∧
    deref s11.1.a fun a59 =>
    (0 ≤ s48.1 ∧ s48.1 < (s48.2.1.1.len : Int)) ∧
    deref s48.2.1.1.a fun a60 =>
    ld (.sl : Kd) h56 (a60.add ((s48.1 : Int).toNat * 1)) fun t61 =>
    ld (.sl : Kd) h56 (a59.add ((s48.1 : Int).toNat * 1)) fun t62 =>
    buffers_Play.j2 go50 s48 ((s48.2.1.1, (s48.2.1.2.1, (s48.2.1.2.2.1, (s48.2.1.2.2.2.1, ((decide ((t61.len : Int) = (t62.len : Int))), ()))))), ()) h56) ∧
    ((decide ((t58.len : Int) = 0)) = false →
    buffers_Play.j2 go50 s48 ((s48.2.1.1, (s48.2.1.2.1, (s48.2.1.2.2.1, (s48.2.1.2.2.2.1, (false, ()))))), ()) h56))) ∧
    (s48.2.1.2.2.2.2.1 = false →
    buffers_Play.j2 go50 s48 ((s48.2.1.1, (s48.2.1.2.1, (s48.2.1.2.2.1, (s48.2.1.2.2.2.1, (false, ()))))), ()) h56))) ∧
    ((decide (s48.1 < s11.2.2.1)) = false →
    c_buffers_Memory_Cells s11.2.2.2.1 h49 fun r63 h64 =>
    c_buffers_Memory_Log s11.2.2.2.1 h64 fun r65 h66 =>
    Q ((s48.2.1.1, (s48.2.1.2.1, (r63, (r65, (s48.2.1.2.2.2.2.1, ()))))), 0, ()) h66))
def buffers_Play.l4 (c_ops_Mod : Int → Int → Heap → (Int → Heap → Prop) → Prop) (c_buffers_Memory_Flush : Option Addr → Int → Heap → (Bool → Heap → Prop) → Prop) (c_buffers_Memory_View : Option Addr → Int → Heap → (Option Addr → Heap → Prop) → Prop) (c_buffers_View_act : Option Addr → Den klaw21Move → Heap → (Den kapiEffect → Heap → Prop) → Prop) (c_buffers_Memory_Waiting : Option Addr → Int → Heap → (Sl → Heap → Prop) → Prop) (c_buffers_Memory_Cells : Option Addr → Heap → (Sl → Heap → Prop) → Prop) (c_buffers_Memory_Log : Option Addr → Heap → (Sl → Heap → Prop) → Prop) (Q : (Den kapiBufferRun × (Int × Unit)) → Heap → Prop) (s11 : (Sl × (Sl × (Int × (Option Addr × (Den kapiBufferRun × Unit)))))) (s13 : Sl) (s15 : Sl) (go19 : (Int × Unit) → Heap → Prop) (s17 : (Int × Unit)) (h18 : Heap) : Prop :=
    (((decide (s17.1 < (s11.2.1.len : Int))) = true →
    (0 ≤ s17.1 ∧ s17.1 < (s11.2.1.len : Int)) ∧
    deref s11.2.1.a fun a22 =>
    ld ((.int .i64) : Kd) h18 (a22.add ((s17.1 : Int).toNat * 1)) fun t23 =>
    c_ops_Mod t23 (w64 (2 * s11.2.2.1)) h18 fun r24 h25 =>
    (((decide (s11.2.2.1 ≤ r24)) = true →
    c_buffers_Memory_Flush s11.2.2.2.1 (w64 (r24 - s11.2.2.1)) h25 fun r26 h27 =>
    buffers_Play.j1 go19 s17 () h27) ∧
    ((decide (s11.2.2.1 ≤ r24)) = false →
    (0 ≤ r24 ∧ r24 < (s13.len : Int)) ∧
    deref s13.a fun a28 =>
    ld (.sl : Kd) h25 (a28.add ((r24 : Int).toNat * 1)) fun t29 =>
    (0 ≤ r24 ∧ r24 < (s11.1.len : Int)) ∧
    deref s11.1.a fun a30 =>
    ld (.sl : Kd) h25 (a30.add ((r24 : Int).toNat * 1)) fun t31 =>
    (((decide ((t29.len : Int) < (t31.len : Int))) = true →
    (0 ≤ r24 ∧ r24 < (s11.1.len : Int)) ∧
    deref s11.1.a fun a32 =>
    (0 ≤ r24 ∧ r24 < (s13.len : Int)) ∧
    deref s13.a fun a33 =>
    ld (.sl : Kd) h25 (a33.add ((r24 : Int).toNat * 1)) fun t34 =>
    ld (.sl : Kd) h25 (a32.add ((r24 : Int).toNat * 1)) fun t35 =>
    (0 ≤ (t29.len : Int) ∧ (t29.len : Int) < (t35.len : Int)) ∧
    deref t35.a fun a36 =>
    ld klaw21Move h25 (a36.add (((t29.len : Int) : Int).toNat * 5)) fun t37 =>
    c_buffers_Memory_View s11.2.2.2.1 r24 h25 fun r38 h39 =>
    sees h39 (some (a36.add (((t29.len : Int) : Int).toNat * 5))) klaw21Move t37 ∧
    sees h39 (some (a32.add ((r24 : Int).toNat * 1))) (.sl : Kd) t35 ∧
    sees h39 (some (a33.add ((r24 : Int).toNat * 1))) (.sl : Kd) t34 ∧
    c_buffers_View_act r38 t37 h39 fun r40 h41 =>
    sees h41 (some (a33.add ((r24 : Int).toNat * 1))) (.sl : Kd) t34 ∧
    new h41 (([r40] : List (Den kapiEffect)).flatMap (Kd.cells kapiEffect)) fun p42 h43 =>
    appendM 3 24 h43 t34 ⟨some p42, 1, 1⟩ fun t44 h45 =>
    (0 ≤ r24 ∧ r24 < (s13.len : Int)) ∧
    deref s13.a fun a46 =>
    st (.sl : Kd) h45 (a46.add ((r24 : Int).toNat * 1)) t44 fun h47 =>
    buffers_Play.j1 go19 s17 () h47) ∧
    ((decide ((t29.len : Int) < (t31.len : Int))) = false →
    buffers_Play.j1 go19 s17 () h25))))) ∧
    ((decide (s17.1 < (s11.2.1.len : Int))) = false →
    Loop (buffers_Play.l3 c_buffers_Memory_Waiting c_buffers_Memory_Cells c_buffers_Memory_Log Q s11) (0, (s13, (s15, (Sl.none, (Sl.none, (true, ()))))), ()) h18))
def buffers_Play.j5 (go73 : (Int × Unit) → Heap → Prop) (s71 : (Int × Unit)) (s74 : Unit) (h75 : Heap) : Prop :=
    go73 ((w64 (s71.1 + 1)), ()) h75
def buffers_Play.j6 (go104 : (Int × (Den kapiBufferRun × Unit)) → Heap → Prop) (s102 : (Int × (Den kapiBufferRun × Unit))) (s105 : (Den kapiBufferRun × Unit)) (h106 : Heap) : Prop :=
    go104 ((w64 (s102.1 + 1)), (s105.1.1, (s105.1.2.1, (s105.1.2.2.1, (s105.1.2.2.2.1, (s105.1.2.2.2.2.1, ()))))), ()) h106
def buffers_Play.l7 (c_buffers_Memory_Waiting : Option Addr → Int → Heap → (Sl → Heap → Prop) → Prop) (c_buffers_Memory_Cells : Option Addr → Heap → (Sl → Heap → Prop) → Prop) (c_buffers_Memory_Log : Option Addr → Heap → (Sl → Heap → Prop) → Prop) (Q : (Den kapiBufferRun × (Int × Unit)) → Heap → Prop) (s11 : (Sl × (Sl × (Int × (Option Addr × (Den kapiBufferRun × Unit)))))) (go104 : (Int × (Den kapiBufferRun × Unit)) → Heap → Prop) (s102 : (Int × (Den kapiBufferRun × Unit))) (h103 : Heap) : Prop :=
    (((decide (s102.1 < s11.2.2.1)) = true →
    c_buffers_Memory_Waiting s11.2.2.2.1 s102.1 h103 fun r107 h108 =>
    (0 ≤ s102.1 ∧ s102.1 < (s102.2.1.2.1.len : Int)) ∧
    deref s102.2.1.2.1.a fun a109 =>
    st (.sl : Kd) h108 (a109.add ((s102.1 : Int).toNat * 1)) r107 fun h110 =>
    ((s102.2.1.2.2.2.2.1 = true →
    (0 ≤ s102.1 ∧ s102.1 < (s102.2.1.2.1.len : Int)) ∧
    deref s102.2.1.2.1.a fun a111 =>
    ld (.sl : Kd) h110 (a111.add ((s102.1 : Int).toNat * 1)) fun t112 =>
    (((decide ((t112.len : Int) = 0)) = true →
    (0 ≤ s102.1 ∧ s102.1 < (s11.1.len : Int)) ∧
    deref s11.1.a fun a113 =>
    (0 ≤ s102.1 ∧ s102.1 < (s102.2.1.1.len : Int)) ∧
    deref s102.2.1.1.a fun a114 =>
    ld (.sl : Kd) h110 (a114.add ((s102.1 : Int).toNat * 1)) fun t115 =>
    ld (.sl : Kd) h110 (a113.add ((s102.1 : Int).toNat * 1)) fun t116 =>
    buffers_Play.j6 go104 s102 ((s102.2.1.1, (s102.2.1.2.1, (s102.2.1.2.2.1, (s102.2.1.2.2.2.1, ((decide ((t115.len : Int) = (t116.len : Int))), ()))))), ()) h110) ∧
    ((decide ((t112.len : Int) = 0)) = false →
    buffers_Play.j6 go104 s102 ((s102.2.1.1, (s102.2.1.2.1, (s102.2.1.2.2.1, (s102.2.1.2.2.2.1, (false, ()))))), ()) h110))) ∧
    (s102.2.1.2.2.2.2.1 = false →
    buffers_Play.j6 go104 s102 ((s102.2.1.1, (s102.2.1.2.1, (s102.2.1.2.2.1, (s102.2.1.2.2.2.1, (false, ()))))), ()) h110))) ∧
    ((decide (s102.1 < s11.2.2.1)) = false →
    c_buffers_Memory_Cells s11.2.2.2.1 h103 fun r117 h118 =>
    c_buffers_Memory_Log s11.2.2.2.1 h118 fun r119 h120 =>
    Q ((s102.2.1.1, (s102.2.1.2.1, (r117, (r119, (s102.2.1.2.2.2.2.1, ()))))), 0, ()) h120))
def buffers_Play.l8 (c_ops_Mod : Int → Int → Heap → (Int → Heap → Prop) → Prop) (c_buffers_Memory_Flush : Option Addr → Int → Heap → (Bool → Heap → Prop) → Prop) (c_buffers_Memory_View : Option Addr → Int → Heap → (Option Addr → Heap → Prop) → Prop) (c_buffers_View_act : Option Addr → Den klaw21Move → Heap → (Den kapiEffect → Heap → Prop) → Prop) (c_buffers_Memory_Waiting : Option Addr → Int → Heap → (Sl → Heap → Prop) → Prop) (c_buffers_Memory_Cells : Option Addr → Heap → (Sl → Heap → Prop) → Prop) (c_buffers_Memory_Log : Option Addr → Heap → (Sl → Heap → Prop) → Prop) (Q : (Den kapiBufferRun × (Int × Unit)) → Heap → Prop) (s11 : (Sl × (Sl × (Int × (Option Addr × (Den kapiBufferRun × Unit)))))) (s67 : Sl) (s69 : Sl) (go73 : (Int × Unit) → Heap → Prop) (s71 : (Int × Unit)) (h72 : Heap) : Prop :=
    (((decide (s71.1 < (s11.2.1.len : Int))) = true →
    (0 ≤ s71.1 ∧ s71.1 < (s11.2.1.len : Int)) ∧
    deref s11.2.1.a fun a76 =>
    ld ((.int .i64) : Kd) h72 (a76.add ((s71.1 : Int).toNat * 1)) fun t77 =>
    c_ops_Mod t77 (w64 (2 * s11.2.2.1)) h72 fun r78 h79 =>
    (((decide (s11.2.2.1 ≤ r78)) = true →
    c_buffers_Memory_Flush s11.2.2.2.1 (w64 (r78 - s11.2.2.1)) h79 fun r80 h81 =>
    buffers_Play.j5 go73 s71 () h81) ∧
    ((decide (s11.2.2.1 ≤ r78)) = false →
    (0 ≤ r78 ∧ r78 < (s69.len : Int)) ∧
    deref s69.a fun a82 =>
    ld (.sl : Kd) h79 (a82.add ((r78 : Int).toNat * 1)) fun t83 =>
    (0 ≤ r78 ∧ r78 < (s11.1.len : Int)) ∧
    deref s11.1.a fun a84 =>
    ld (.sl : Kd) h79 (a84.add ((r78 : Int).toNat * 1)) fun t85 =>
    (((decide ((t83.len : Int) < (t85.len : Int))) = true →
    (0 ≤ r78 ∧ r78 < (s11.1.len : Int)) ∧
    deref s11.1.a fun a86 =>
    (0 ≤ r78 ∧ r78 < (s69.len : Int)) ∧
    deref s69.a fun a87 =>
    ld (.sl : Kd) h79 (a87.add ((r78 : Int).toNat * 1)) fun t88 =>
    ld (.sl : Kd) h79 (a86.add ((r78 : Int).toNat * 1)) fun t89 =>
    (0 ≤ (t83.len : Int) ∧ (t83.len : Int) < (t89.len : Int)) ∧
    deref t89.a fun a90 =>
    ld klaw21Move h79 (a90.add (((t83.len : Int) : Int).toNat * 5)) fun t91 =>
    c_buffers_Memory_View s11.2.2.2.1 r78 h79 fun r92 h93 =>
    sees h93 (some (a90.add (((t83.len : Int) : Int).toNat * 5))) klaw21Move t91 ∧
    sees h93 (some (a86.add ((r78 : Int).toNat * 1))) (.sl : Kd) t89 ∧
    sees h93 (some (a87.add ((r78 : Int).toNat * 1))) (.sl : Kd) t88 ∧
    c_buffers_View_act r92 t91 h93 fun r94 h95 =>
    sees h95 (some (a87.add ((r78 : Int).toNat * 1))) (.sl : Kd) t88 ∧
    new h95 (([r94] : List (Den kapiEffect)).flatMap (Kd.cells kapiEffect)) fun p96 h97 =>
    appendM 3 24 h97 t88 ⟨some p96, 1, 1⟩ fun t98 h99 =>
    (0 ≤ r78 ∧ r78 < (s69.len : Int)) ∧
    deref s69.a fun a100 =>
    st (.sl : Kd) h99 (a100.add ((r78 : Int).toNat * 1)) t98 fun h101 =>
    buffers_Play.j5 go73 s71 () h101) ∧
    ((decide ((t83.len : Int) < (t85.len : Int))) = false →
    buffers_Play.j5 go73 s71 () h79))))) ∧
    ((decide (s71.1 < (s11.2.1.len : Int))) = false →
    Loop (buffers_Play.l7 c_buffers_Memory_Waiting c_buffers_Memory_Cells c_buffers_Memory_Log Q s11) (0, (s69, (s67, (Sl.none, (Sl.none, (true, ()))))), ()) h72))
def buffers_Play.k9 (c_ops_Mod : Int → Int → Heap → (Int → Heap → Prop) → Prop) (c_buffers_Memory_Flush : Option Addr → Int → Heap → (Bool → Heap → Prop) → Prop) (c_buffers_Memory_View : Option Addr → Int → Heap → (Option Addr → Heap → Prop) → Prop) (c_buffers_View_act : Option Addr → Den klaw21Move → Heap → (Den kapiEffect → Heap → Prop) → Prop) (c_buffers_Memory_Waiting : Option Addr → Int → Heap → (Sl → Heap → Prop) → Prop) (c_buffers_Memory_Cells : Option Addr → Heap → (Sl → Heap → Prop) → Prop) (c_buffers_Memory_Log : Option Addr → Heap → (Sl → Heap → Prop) → Prop) (Q : (Den kapiBufferRun × (Int × Unit)) → Heap → Prop) (s11 : (Sl × (Sl × (Int × (Option Addr × (Den kapiBufferRun × Unit)))))) (h12 : Heap) : Prop :=
    ((makeM (.sl : Kd) 24 h12 s11.2.2.1 s11.2.2.1 fun s13 h14 =>
    makeM (.sl : Kd) 24 h14 s11.2.2.1 s11.2.2.1 fun s15 h16 =>
    Loop (buffers_Play.l4 c_ops_Mod c_buffers_Memory_Flush c_buffers_Memory_View c_buffers_View_act c_buffers_Memory_Waiting c_buffers_Memory_Cells c_buffers_Memory_Log Q s11 s13 s15) (0, ()) h16) ∧
    (makeM (.sl : Kd) 24 h12 s11.2.2.1 s11.2.2.1 fun s67 h68 =>
    makeM (.sl : Kd) 24 h68 s11.2.2.1 s11.2.2.1 fun s69 h70 =>
    Loop (buffers_Play.l8 c_ops_Mod c_buffers_Memory_Flush c_buffers_Memory_View c_buffers_View_act c_buffers_Memory_Waiting c_buffers_Memory_Cells c_buffers_Memory_Log Q s11 s67 s69) (0, ()) h70))
def buffers_Play.M (c_buffers_judged : Int → Int → Int → Sl → Sl → Heap → (Int → Heap → Prop) → Prop) (c_buffers_New : Int → Int → Int → Heap → (Den kbuffersplace → Heap → Prop) → Prop) (c_buffers_Memory_use : Option Addr → Int → Heap → (Unit → Heap → Prop) → Prop) (c_ops_Mod : Int → Int → Heap → (Int → Heap → Prop) → Prop) (c_buffers_Memory_Flush : Option Addr → Int → Heap → (Bool → Heap → Prop) → Prop) (c_buffers_Memory_View : Option Addr → Int → Heap → (Option Addr → Heap → Prop) → Prop) (c_buffers_View_act : Option Addr → Den klaw21Move → Heap → (Den kapiEffect → Heap → Prop) → Prop) (c_buffers_Memory_Waiting : Option Addr → Int → Heap → (Sl → Heap → Prop) → Prop) (c_buffers_Memory_Cells : Option Addr → Heap → (Sl → Heap → Prop) → Prop) (c_buffers_Memory_Log : Option Addr → Heap → (Sl → Heap → Prop) → Prop) (size1 : Int) (used2 : Int) (room3 : Int) (lists4 : Sl) (picks5 : Sl) (h6 : Heap) (Q : (Den kapiBufferRun × (Int × Unit)) → Heap → Prop) : Prop :=
    c_buffers_judged size1 used2 room3 lists4 picks5 h6 fun r7 h8 =>
    (((decide (r7 ≠ 0)) = true →
    Q ((Sl.none, (Sl.none, (Sl.none, (Sl.none, (false, ()))))), r7, ()) h8) ∧
    ((decide (r7 ≠ 0)) = false →
    c_buffers_New size1 (lists4.len : Int) room3 h8 fun r9 h10 =>
    (((decide (r9.2.1 ≠ 0)) = true →
    Q ((Sl.none, (Sl.none, (Sl.none, (Sl.none, (false, ()))))), r9.2.1, ()) h10) ∧
    ((decide (r9.2.1 ≠ 0)) = false →
    (((decide ((0 : Int) < used2)) = true →
    c_buffers_Memory_use r9.1 used2 h10 fun r121 h122 =>
    buffers_Play.k9 c_ops_Mod c_buffers_Memory_Flush c_buffers_Memory_View c_buffers_View_act c_buffers_Memory_Waiting c_buffers_Memory_Cells c_buffers_Memory_Log Q (lists4, picks5, (lists4.len : Int), r9.1, (Sl.none, (Sl.none, (Sl.none, (Sl.none, (false, ()))))), ()) h122) ∧
    ((decide ((0 : Int) < used2)) = false →
    buffers_Play.k9 c_ops_Mod c_buffers_Memory_Flush c_buffers_Memory_View c_buffers_View_act c_buffers_Memory_Waiting c_buffers_Memory_Cells c_buffers_Memory_Log Q (lists4, picks5, (lists4.len : Int), r9.1, (Sl.none, (Sl.none, (Sl.none, (Sl.none, (false, ()))))), ()) h10))))))
def buffers_Play.mk : Mk := (.s (.r [0]) (.s (.s .d (.s .d (.c (.s .d .d) .d))) (.s .d (.s .d (.s (.s .d (.c (.s .d .d) .d)) (.k [.slot 3 .sl, .slot 4 .sl, .slot 13 (.int .i64), .slot 14 .ptr, .box 10 kapiBufferRun] [(10, 10, 0)] (.s .d (.c .d .d)) (.s (.q [5] [16] [.p 0, .p 2, .e 1 3, .p 4, .a 5, .o 6]) (.s (.s .d (.b (.l [.slot 57 (.int .i64)] (.s .d (.s (.c .d .d) (.j [] (.b (.s .d (.s .d (.s .d (.c .d (.s .d (.s .d (.c (.q [] [] [.p 0, .p 2, .p 3, .p 5, .p 8, .p 9, .p 11, .p 12, .p 13, .p 15, .w 1 [1, 21, 22], .w 4 [4, 6, 7, 20, 21, 22], .p 6, .w 7 [7, 20, 21, 22], .w 14 [14, 16, 17, 18, 19, 20, 21, 22], .p 16, .w 17 [17, 18, 19, 20, 21, 22], .o 10, .o 18, .o 19, .o 20, .p 21, .o 22]) .d)))))))) .d)))))) (.s (.s .d (.b (.l [.slot 110 (.int .i64), .box 16 kapiBufferRun] (.s .d (.s (.c .d .d) (.j [.box 16 kapiBufferRun] (.b (.s .d (.s (.q [] [] [.p 0, .p 2, .p 3, .p 4, .w 1 [1, 6, 7], .o 5, .p 6, .o 7]) (.q [] [16] [.p 0, .w 1 [1, 2, 3, 4, 5, 6, 7, 8, 9, 10, 11, 12, 13, 14, 15, 16, 17, 18, 19, 20, 21, 22, 23, 24, 25, 26], .p 2, .p 3, .p 5, .w 4 [4, 6, 7, 8, 9, 10, 11, 12, 13, 14, 15, 16, 17, 18, 19, 20, 21, 22, 23, 24, 25, 26], .p 6, .w 7 [7, 8, 9, 10, 11, 12, 13, 14, 15, 16, 17, 18, 19, 20, 21, 22, 23, 24, 25, 26], .p 8, .p 9, .p 10, .p 11, .p 12, .p 14, .p 18, .p 19, .p 20, .w 13 [13, 15, 16, 17, 23, 24, 25, 26], .p 15, .w 16 [16, 17, 23, 24, 25, 26], .p 17, .w 21 [21, 22, 23, 24, 25, 26], .p 22, .p 23, .p 24, .p 25, .o 26])))) .d)))))) (.s .d (.s .d (.s .d .d))))))))))))

def law21_sameRun.l1 (c_law21_sameWaits : Sl → Sl → Heap → (Bool → Heap → Prop) → Prop) (a1 : Den kapiBufferRun) (b2 : Den kapiBufferRun) (Q : Bool → Heap → Prop) (go17 : (Int × Unit) → Heap → Prop) (s15 : (Int × Unit)) (h16 : Heap) : Prop :=
    (((decide (s15.1 < (a1.2.1.len : Int))) = true →
    (0 ≤ s15.1 ∧ s15.1 < (a1.2.1.len : Int)) ∧
    deref a1.2.1.a fun a18 =>
    ld (.sl : Kd) h16 (a18.add ((s15.1 : Int).toNat * 1)) fun t19 =>
    (0 ≤ s15.1 ∧ s15.1 < (b2.2.1.len : Int)) ∧
    deref b2.2.1.a fun a20 =>
    ld (.sl : Kd) h16 (a20.add ((s15.1 : Int).toNat * 1)) fun t21 =>
    c_law21_sameWaits t19 t21 h16 fun r22 h23 =>
    (((!r22) = true →
    Q false h23) ∧
    ((!r22) = false →
    go17 ((w64 (s15.1 + 1)), ()) h23))) ∧
    ((decide (s15.1 < (a1.2.1.len : Int))) = false →
    Q true h16))
def law21_sameRun.l2 (c_law21_sameEffects : Sl → Sl → Heap → (Bool → Heap → Prop) → Prop) (c_law21_sameWaits : Sl → Sl → Heap → (Bool → Heap → Prop) → Prop) (a1 : Den kapiBufferRun) (b2 : Den kapiBufferRun) (Q : Bool → Heap → Prop) (go8 : (Int × Unit) → Heap → Prop) (s6 : (Int × Unit)) (h7 : Heap) : Prop :=
    (((decide (s6.1 < (a1.1.len : Int))) = true →
    (0 ≤ s6.1 ∧ s6.1 < (a1.1.len : Int)) ∧
    deref a1.1.a fun a9 =>
    ld (.sl : Kd) h7 (a9.add ((s6.1 : Int).toNat * 1)) fun t10 =>
    (0 ≤ s6.1 ∧ s6.1 < (b2.1.len : Int)) ∧
    deref b2.1.a fun a11 =>
    ld (.sl : Kd) h7 (a11.add ((s6.1 : Int).toNat * 1)) fun t12 =>
    c_law21_sameEffects t10 t12 h7 fun r13 h14 =>
    (((!r13) = true →
    Q false h14) ∧
    ((!r13) = false →
    go8 ((w64 (s6.1 + 1)), ()) h14))) ∧
    ((decide (s6.1 < (a1.1.len : Int))) = false →
    Loop (law21_sameRun.l1 c_law21_sameWaits a1 b2 Q) (0, ()) h7))
def law21_sameRun.j3 (c_law21_sameEffects : Sl → Sl → Heap → (Bool → Heap → Prop) → Prop) (c_law21_sameWaits : Sl → Sl → Heap → (Bool → Heap → Prop) → Prop) (a1 : Den kapiBufferRun) (b2 : Den kapiBufferRun) (Q : Bool → Heap → Prop) (s4 : Unit) (h5 : Heap) : Prop :=
    Loop (law21_sameRun.l2 c_law21_sameEffects c_law21_sameWaits a1 b2 Q) (0, ()) h5
def law21_sameRun.j4 (c_law21_sameEffects : Sl → Sl → Heap → (Bool → Heap → Prop) → Prop) (c_law21_sameWaits : Sl → Sl → Heap → (Bool → Heap → Prop) → Prop) (a1 : Den kapiBufferRun) (b2 : Den kapiBufferRun) (Q : Bool → Heap → Prop) (s24 : (Bool × Unit)) (h25 : Heap) : Prop :=
    ((s24.1 = true →
    Q false h25) ∧
    (s24.1 = false →
    law21_sameRun.j3 c_law21_sameEffects c_law21_sameWaits a1 b2 Q () h25))
def law21_sameRun.M (c_law21_sameNumbers : Sl → Sl → Heap → (Bool → Heap → Prop) → Prop) (c_law21_sameLog : Sl → Sl → Heap → (Bool → Heap → Prop) → Prop) (c_law21_sameEffects : Sl → Sl → Heap → (Bool → Heap → Prop) → Prop) (c_law21_sameWaits : Sl → Sl → Heap → (Bool → Heap → Prop) → Prop) (a1 : Den kapiBufferRun) (b2 : Den kapiBufferRun) (h3 : Heap) (Q : Bool → Heap → Prop) : Prop :=
    (((!(a1.2.2.2.2.1 == b2.2.2.2.2.1)) = true →
    law21_sameRun.j4 c_law21_sameEffects c_law21_sameWaits a1 b2 Q (true, ()) h3) ∧
    ((!(a1.2.2.2.2.1 == b2.2.2.2.2.1)) = false →
    (((decide ((a1.1.len : Int) ≠ (b2.1.len : Int))) = true →
    law21_sameRun.j4 c_law21_sameEffects c_law21_sameWaits a1 b2 Q (true, ()) h3) ∧
    ((decide ((a1.1.len : Int) ≠ (b2.1.len : Int))) = false →
    (((decide ((a1.2.1.len : Int) ≠ (b2.2.1.len : Int))) = true →
    law21_sameRun.j4 c_law21_sameEffects c_law21_sameWaits a1 b2 Q (true, ()) h3) ∧
    ((decide ((a1.2.1.len : Int) ≠ (b2.2.1.len : Int))) = false →
    c_law21_sameNumbers a1.2.2.1 b2.2.2.1 h3 fun r26 h27 =>
    (((!r26) = true →
    law21_sameRun.j4 c_law21_sameEffects c_law21_sameWaits a1 b2 Q (true, ()) h27) ∧
    ((!r26) = false →
    c_law21_sameLog a1.2.2.2.1 b2.2.2.2.1 h27 fun r28 h29 =>
    law21_sameRun.j4 c_law21_sameEffects c_law21_sameWaits a1 b2 Q ((!r28), ()) h29))))))))
def law21_sameRun.mk : Mk := (.s (.r [0, 1]) (.j [] (.j [.slot 45 .bool] .d (.c (.s .d .d) .d)) (.s (.s .d (.b (.l [.slot 5 (.int .i64)] (.s (.s .d (.c .d .d)) (.s (.b (.s (.q [] [] [.p 0, .p 2, .p 5, .p 7, .w 1 [1, 3, 4, 10, 11], .p 3, .w 4 [4, 10, 11], .w 6 [6, 8, 9, 10, 11], .p 8, .w 9 [9, 10, 11], .o 10, .p 11]) (.c (.s .d .d) .d))) .d))))) (.s (.s .d (.b (.l [.slot 6 (.int .i64)] (.s (.s .d (.c .d .d)) (.s (.b (.s (.q [] [] [.p 0, .p 2, .p 5, .p 7, .w 1 [1, 3, 4, 10, 11], .p 3, .w 4 [4, 10, 11], .w 6 [6, 8, 9, 10, 11], .p 8, .w 9 [9, 10, 11], .o 10, .p 11]) (.c (.s .d .d) .d))) .d))))) (.s .d .d)))))

def law21_spoil.l1 (r1 : Den kapiBufferRun) (go5 : (Int × Unit) → Heap → Prop) (s3 : (Int × Unit)) (go8 : (Int × Unit) → Heap → Prop) (s6 : (Int × Unit)) (h7 : Heap) : Prop :=
    (0 ≤ s3.1 ∧ s3.1 < (r1.1.len : Int)) ∧
    deref r1.1.a fun a9 =>
    ld (.sl : Kd) h7 (a9.add ((s3.1 : Int).toNat * 1)) fun t10 =>
    (((decide (s6.1 < (t10.len : Int))) = true →
    (0 ≤ s3.1 ∧ s3.1 < (r1.1.len : Int)) ∧
    deref r1.1.a fun a11 =>
    ld (.sl : Kd) h7 (a11.add ((s3.1 : Int).toNat * 1)) fun t12 =>
    (0 ≤ s6.1 ∧ s6.1 < (t12.len : Int)) ∧
    deref t12.a fun a13 =>
    st kapiEffect h7 (a13.add ((s6.1 : Int).toNat * 3)) ((w64 (1000 + s3.1)), (false, (77, ()))) fun h14 =>
    go8 ((w64 (s6.1 + 1)), ()) h14) ∧
    ((decide (s6.1 < (t10.len : Int))) = false →
    go5 ((w64 (s3.1 + 1)), ()) h7))
def law21_spoil.l2 (r1 : Den kapiBufferRun) (go17 : (Int × Unit) → Heap → Prop) (s15 : (Int × Unit)) (go20 : (Int × Unit) → Heap → Prop) (s18 : (Int × Unit)) (h19 : Heap) : Prop :=
    (0 ≤ s15.1 ∧ s15.1 < (r1.2.1.len : Int)) ∧
    deref r1.2.1.a fun a21 =>
    ld (.sl : Kd) h19 (a21.add ((s15.1 : Int).toNat * 1)) fun t22 =>
    (((decide (s18.1 < (t22.len : Int))) = true →
    (0 ≤ s15.1 ∧ s15.1 < (r1.2.1.len : Int)) ∧
    deref r1.2.1.a fun a23 =>
    ld (.sl : Kd) h19 (a23.add ((s15.1 : Int).toNat * 1)) fun t24 =>
    (0 ≤ s18.1 ∧ s18.1 < (t24.len : Int)) ∧
    deref t24.a fun a25 =>
    st kapiWait h19 (a25.add ((s18.1 : Int).toNat * 2)) ((w64 ((w64 (0 - s15.1)) - 1)), (99, ())) fun h26 =>
    go20 ((w64 (s18.1 + 1)), ()) h26) ∧
    ((decide (s18.1 < (t22.len : Int))) = false →
    go17 ((w64 (s15.1 + 1)), ()) h19))
def law21_spoil.l3 (go39 : (Int × Unit) → Heap → Prop) (s37 : (Int × Unit)) (go44 : (Sl × (Int × Unit)) → Heap → Prop) (s42 : (Sl × (Int × Unit))) (h43 : Heap) : Prop :=
    (((decide (s42.2.1 < 64)) = true →
    new h43 (([((-1), (false, (0, ())))] : List (Den kapiEffect)).flatMap (Kd.cells kapiEffect)) fun p45 h46 =>
    appendM 3 24 h46 s42.1 ⟨some p45, 1, 1⟩ fun t47 h48 =>
    go44 (t47, (w64 (s42.2.1 + 1)), ()) h48) ∧
    ((decide (s42.2.1 < 64)) = false →
    go39 ((w64 (s37.1 + 1)), ()) h43))
def law21_spoil.l4 (go51 : (Int × Unit) → Heap → Prop) (s49 : (Int × Unit)) (go56 : (Sl × (Int × Unit)) → Heap → Prop) (s54 : (Sl × (Int × Unit))) (h55 : Heap) : Prop :=
    (((decide (s54.2.1 < 64)) = true →
    new h55 (([(0, ((-1), ()))] : List (Den kapiWait)).flatMap (Kd.cells kapiWait)) fun p57 h58 =>
    appendM 2 16 h58 s54.1 ⟨some p57, 1, 1⟩ fun t59 h60 =>
    go56 (t59, (w64 (s54.2.1 + 1)), ()) h60) ∧
    ((decide (s54.2.1 < 64)) = false →
    go51 ((w64 (s49.1 + 1)), ()) h55))
def law21_spoil.l5 (Q : Bool → Heap → Prop) (s61 : (Int × (Den kapiBufferRun × Unit))) (go74 : (Int × Unit) → Heap → Prop) (s72 : (Int × Unit)) (go77 : (Int × Unit) → Heap → Prop) (s75 : (Int × Unit)) (h76 : Heap) : Prop :=
    (0 ≤ s72.1 ∧ s72.1 < (s61.2.1.1.len : Int)) ∧
    deref s61.2.1.1.a fun a78 =>
    ld (.sl : Kd) h76 (a78.add ((s72.1 : Int).toNat * 1)) fun t79 =>
    (((decide (s75.1 < (t79.len : Int))) = true →
    (0 ≤ s72.1 ∧ s72.1 < (s61.2.1.1.len : Int)) ∧
    deref s61.2.1.1.a fun a80 =>
    ld (.sl : Kd) h76 (a80.add ((s72.1 : Int).toNat * 1)) fun t81 =>
    (0 ≤ s75.1 ∧ s75.1 < (t81.len : Int)) ∧
    deref t81.a fun a82 =>
    ld kapiEffect h76 (a82.add ((s75.1 : Int).toNat * 3)) fun t83 =>
    (((!(eqK kapiEffect t83 ((w64 (1000 + s72.1)), (false, (77, ()))))) = true →
    Q false h76) ∧
    ((!(eqK kapiEffect t83 ((w64 (1000 + s72.1)), (false, (77, ()))))) = false →
    go77 ((w64 (s75.1 + 1)), ()) h76))) ∧
    ((decide (s75.1 < (t79.len : Int))) = false →
    go74 ((w64 (s72.1 + 1)), ()) h76))
def law21_spoil.l6 (Q : Bool → Heap → Prop) (s61 : (Int × (Den kapiBufferRun × Unit))) (go86 : (Int × Unit) → Heap → Prop) (s84 : (Int × Unit)) (go89 : (Int × Unit) → Heap → Prop) (s87 : (Int × Unit)) (h88 : Heap) : Prop :=
    (0 ≤ s84.1 ∧ s84.1 < (s61.2.1.2.1.len : Int)) ∧
    deref s61.2.1.2.1.a fun a90 =>
    ld (.sl : Kd) h88 (a90.add ((s84.1 : Int).toNat * 1)) fun t91 =>
    (((decide (s87.1 < (t91.len : Int))) = true →
    (0 ≤ s84.1 ∧ s84.1 < (s61.2.1.2.1.len : Int)) ∧
    deref s61.2.1.2.1.a fun a92 =>
    ld (.sl : Kd) h88 (a92.add ((s84.1 : Int).toNat * 1)) fun t93 =>
    (0 ≤ s87.1 ∧ s87.1 < (t93.len : Int)) ∧
    deref t93.a fun a94 =>
    ld kapiWait h88 (a94.add ((s87.1 : Int).toNat * 2)) fun t95 =>
    (((!(eqK kapiWait t95 ((w64 ((w64 (0 - s84.1)) - 1)), (99, ())))) = true →
    Q false h88) ∧
    ((!(eqK kapiWait t95 ((w64 ((w64 (0 - s84.1)) - 1)), (99, ())))) = false →
    go89 ((w64 (s87.1 + 1)), ()) h88))) ∧
    ((decide (s87.1 < (t91.len : Int))) = false →
    go86 ((w64 (s84.1 + 1)), ()) h88))
def law21_spoil.l7 (Q : Bool → Heap → Prop) (s61 : (Int × (Den kapiBufferRun × Unit))) (go86 : (Int × Unit) → Heap → Prop) (s84 : (Int × Unit)) (h85 : Heap) : Prop :=
    (((decide (s84.1 < (s61.2.1.2.1.len : Int))) = true →
    Loop (law21_spoil.l6 Q s61 go86 s84) (0, ()) h85) ∧
    ((decide (s84.1 < (s61.2.1.2.1.len : Int))) = false →
    Q true h85))
def law21_spoil.l8 (Q : Bool → Heap → Prop) (s61 : (Int × (Den kapiBufferRun × Unit))) (go74 : (Int × Unit) → Heap → Prop) (s72 : (Int × Unit)) (h73 : Heap) : Prop :=
    (((decide (s72.1 < (s61.2.1.1.len : Int))) = true →
    Loop (law21_spoil.l5 Q s61 go74 s72) (0, ()) h73) ∧
    ((decide (s72.1 < (s61.2.1.1.len : Int))) = false →
    Loop (law21_spoil.l7 Q s61) (0, ()) h73))
def law21_spoil.l9 (Q : Bool → Heap → Prop) (go63 : (Int × (Den kapiBufferRun × Unit)) → Heap → Prop) (s61 : (Int × (Den kapiBufferRun × Unit))) (h62 : Heap) : Prop :=
    (((decide (s61.1 < 64)) = true →
    new h62 (([(-7)] : List (Den ((.int .i64) : Kd))).flatMap (Kd.cells ((.int .i64) : Kd))) fun p64 h65 =>
    appendM 1 8 h65 s61.2.1.2.2.1 ⟨some p64, 1, 1⟩ fun t66 h67 =>
    new h67 (([((-8), (0, (0, (0, (0, (false, ()))))))] : List (Den kapiAccess)).flatMap (Kd.cells kapiAccess)) fun p68 h69 =>
    appendM 6 48 h69 s61.2.1.2.2.2.1 ⟨some p68, 1, 1⟩ fun t70 h71 =>
    go63 ((w64 (s61.1 + 1)), (s61.2.1.1, (s61.2.1.2.1, (t66, (t70, (s61.2.1.2.2.2.2.1, ()))))), ()) h71) ∧
    ((decide (s61.1 < 64)) = false →
    Loop (law21_spoil.l8 Q s61) (0, ()) h62))
def law21_spoil.l10 (r1 : Den kapiBufferRun) (Q : Bool → Heap → Prop) (go51 : (Int × Unit) → Heap → Prop) (s49 : (Int × Unit)) (h50 : Heap) : Prop :=
    (((decide (s49.1 < (r1.2.1.len : Int))) = true →
    (0 ≤ s49.1 ∧ s49.1 < (r1.2.1.len : Int)) ∧
    deref r1.2.1.a fun a52 =>
    ld (.sl : Kd) h50 (a52.add ((s49.1 : Int).toNat * 1)) fun t53 =>
    Loop (law21_spoil.l4 go51 s49) (t53, 0, ()) h50) ∧
    ((decide (s49.1 < (r1.2.1.len : Int))) = false →
    Loop (law21_spoil.l9 Q) (0, (r1.1, (r1.2.1, (r1.2.2.1, (r1.2.2.2.1, (r1.2.2.2.2.1, ()))))), ()) h50))
def law21_spoil.l11 (r1 : Den kapiBufferRun) (Q : Bool → Heap → Prop) (go39 : (Int × Unit) → Heap → Prop) (s37 : (Int × Unit)) (h38 : Heap) : Prop :=
    (((decide (s37.1 < (r1.1.len : Int))) = true →
    (0 ≤ s37.1 ∧ s37.1 < (r1.1.len : Int)) ∧
    deref r1.1.a fun a40 =>
    ld (.sl : Kd) h38 (a40.add ((s37.1 : Int).toNat * 1)) fun t41 =>
    Loop (law21_spoil.l3 go39 s37) (t41, 0, ()) h38) ∧
    ((decide (s37.1 < (r1.1.len : Int))) = false →
    Loop (law21_spoil.l10 r1 Q) (0, ()) h38))
def law21_spoil.l12 (r1 : Den kapiBufferRun) (Q : Bool → Heap → Prop) (go34 : (Int × Unit) → Heap → Prop) (s32 : (Int × Unit)) (h33 : Heap) : Prop :=
    (((decide (s32.1 < (r1.2.2.2.1.len : Int))) = true →
    (0 ≤ s32.1 ∧ s32.1 < (r1.2.2.2.1.len : Int)) ∧
    deref r1.2.2.2.1.a fun a35 =>
    st kapiAccess h33 (a35.add ((s32.1 : Int).toNat * 6)) ((-6), (0, (0, (0, (0, (false, ())))))) fun h36 =>
    go34 ((w64 (s32.1 + 1)), ()) h36) ∧
    ((decide (s32.1 < (r1.2.2.2.1.len : Int))) = false →
    Loop (law21_spoil.l11 r1 Q) (0, ()) h33))
def law21_spoil.l13 (r1 : Den kapiBufferRun) (Q : Bool → Heap → Prop) (go29 : (Int × Unit) → Heap → Prop) (s27 : (Int × Unit)) (h28 : Heap) : Prop :=
    (((decide (s27.1 < (r1.2.2.1.len : Int))) = true →
    (0 ≤ s27.1 ∧ s27.1 < (r1.2.2.1.len : Int)) ∧
    deref r1.2.2.1.a fun a30 =>
    st ((.int .i64) : Kd) h28 (a30.add ((s27.1 : Int).toNat * 1)) (-5) fun h31 =>
    go29 ((w64 (s27.1 + 1)), ()) h31) ∧
    ((decide (s27.1 < (r1.2.2.1.len : Int))) = false →
    Loop (law21_spoil.l12 r1 Q) (0, ()) h28))
def law21_spoil.l14 (r1 : Den kapiBufferRun) (Q : Bool → Heap → Prop) (go17 : (Int × Unit) → Heap → Prop) (s15 : (Int × Unit)) (h16 : Heap) : Prop :=
    (((decide (s15.1 < (r1.2.1.len : Int))) = true →
    Loop (law21_spoil.l2 r1 go17 s15) (0, ()) h16) ∧
    ((decide (s15.1 < (r1.2.1.len : Int))) = false →
    Loop (law21_spoil.l13 r1 Q) (0, ()) h16))
def law21_spoil.l15 (r1 : Den kapiBufferRun) (Q : Bool → Heap → Prop) (go5 : (Int × Unit) → Heap → Prop) (s3 : (Int × Unit)) (h4 : Heap) : Prop :=
    (((decide (s3.1 < (r1.1.len : Int))) = true →
    Loop (law21_spoil.l1 r1 go5 s3) (0, ()) h4) ∧
    ((decide (s3.1 < (r1.1.len : Int))) = false →
    Loop (law21_spoil.l14 r1 Q) (0, ()) h4))
def law21_spoil.M  (r1 : Den kapiBufferRun) (h2 : Heap) (Q : Bool → Heap → Prop) : Prop :=
    Loop (law21_spoil.l15 r1 Q) (0, ()) h2
def law21_spoil.mk : Mk := (.s (.r [0]) (.s (.s .d (.b (.l [.slot 3 (.int .i64)] (.s (.s .d (.c .d .d)) (.s (.b (.s .d (.b (.l [.slot 4 (.int .i64)] (.s (.s .d (.c .d .d)) (.s (.b .d) .d)))))) .d))))) (.s (.s .d (.b (.l [.slot 5 (.int .i64)] (.s (.s .d (.c .d .d)) (.s (.b (.s .d (.b (.l [.slot 6 (.int .i64)] (.s (.s .d (.c .d .d)) (.s (.b .d) .d)))))) .d))))) (.s (.s .d (.b (.l [.slot 7 (.int .i64)] (.s (.s .d (.c .d .d)) (.s (.b .d) .d))))) (.s (.s .d (.b (.l [.slot 8 (.int .i64)] (.s (.s .d (.c .d .d)) (.s (.b .d) .d))))) (.s (.s .d (.b (.l [.slot 9 (.int .i64)] (.s (.s .d (.c .d .d)) (.s (.b (.s .d (.s .d (.b (.l [.slot 10 .sl, .slot 11 (.int .i64)] (.s (.s .d (.c .d .d)) (.s (.b .d) .d))))))) .d))))) (.s (.s .d (.b (.l [.slot 12 (.int .i64)] (.s (.s .d (.c .d .d)) (.s (.b (.s .d (.s .d (.b (.l [.slot 13 .sl, .slot 14 (.int .i64)] (.s (.s .d (.c .d .d)) (.s (.b .d) .d))))))) .d))))) (.s (.s .d (.b (.l [.slot 15 (.int .i64), .box 1 kapiBufferRun] (.s (.s .d (.c .d .d)) (.s (.b (.s .d .d)) .d))))) (.s (.s .d (.b (.l [.slot 16 (.int .i64)] (.s (.s .d (.c .d .d)) (.s (.b (.s .d (.b (.l [.slot 17 (.int .i64)] (.s (.s .d (.c .d .d)) (.s (.b (.s .d (.c (.s .d .d) .d))) .d)))))) .d))))) (.s (.s .d (.b (.l [.slot 18 (.int .i64)] (.s (.s .d (.c .d .d)) (.s (.b (.s .d (.b (.l [.slot 19 (.int .i64)] (.s (.s .d (.c .d .d)) (.s (.b (.s .d (.c (.s .d .d) .d))) .d)))))) .d))))) (.s .d .d)))))))))))

def law21_gift_untouched.j1 (go6 : (Int × Unit) → Heap → Prop) (s4 : (Int × Unit)) (s7 : Unit) (h8 : Heap) : Prop :=
    go6 ((w64 (s4.1 + 1)), ()) h8
def law21_gift_untouched.j2 (Q : Bool → Heap → Prop) (go6 : (Int × Unit) → Heap → Prop) (s4 : (Int × Unit)) (s9 : (Bool × Unit)) (h10 : Heap) : Prop :=
    ((s9.1 = true →
    Q false h10) ∧
    (s9.1 = false →
    law21_gift_untouched.j1 go6 s4 () h10))
def law21_gift_untouched.l3 (c_law21_sameActs : Sl → Sl → Heap → (Bool → Heap → Prop) → Prop) (c_law21_odd : Int → Heap → (Den klaw21Move → Heap → Prop) → Prop) (g1 : Den klaw21gift) (lists2 : Sl) (Q : Bool → Heap → Prop) (go6 : (Int × Unit) → Heap → Prop) (s4 : (Int × Unit)) (h5 : Heap) : Prop :=
    (((decide (s4.1 < (lists2.len : Int))) = true →
    (0 ≤ s4.1 ∧ s4.1 < (lists2.len : Int)) ∧
    deref lists2.a fun a11 =>
    (0 ≤ s4.1 ∧ s4.1 < (g1.2.1.len : Int)) ∧
    deref g1.2.1.a fun a12 =>
    ld (.sl : Kd) h5 (a12.add ((s4.1 : Int).toNat * 1)) fun t13 =>
    ld (.sl : Kd) h5 (a11.add ((s4.1 : Int).toNat * 1)) fun t14 =>
    c_law21_sameActs t13 t14 h5 fun r15 h16 =>
    (((!r15) = true →
    law21_gift_untouched.j2 Q go6 s4 (true, ()) h16) ∧
    ((!r15) = false →
    (0 ≤ s4.1 ∧ s4.1 < (lists2.len : Int)) ∧
    deref lists2.a fun a17 =>
    (0 ≤ s4.1 ∧ s4.1 < (lists2.len : Int)) ∧
    deref lists2.a fun a18 =>
    (0 ≤ s4.1 ∧ s4.1 < (g1.1.len : Int)) ∧
    deref g1.1.a fun a19 =>
    ld (.sl : Kd) h16 (a19.add ((s4.1 : Int).toNat * 1)) fun t20 =>
    ld (.sl : Kd) h16 (a17.add ((s4.1 : Int).toNat * 1)) fun t21 =>
    (0 ≤ (t21.len : Int) ∧ (t21.len : Int) ≤ (t20.cap : Int)) ∧
    ld (.sl : Kd) h16 (a18.add ((s4.1 : Int).toNat * 1)) fun t22 =>
    c_law21_sameActs (t20.cut 0 (((t21.len : Int) : Int).toNat) 5) t22 h16 fun r23 h24 =>
    (((!r23) = true →
    law21_gift_untouched.j2 Q go6 s4 (true, ()) h24) ∧
    ((!r23) = false →
    (0 ≤ s4.1 ∧ s4.1 < (lists2.len : Int)) ∧
    deref lists2.a fun a25 =>
    (0 ≤ s4.1 ∧ s4.1 < (g1.1.len : Int)) ∧
    deref g1.1.a fun a26 =>
    ld (.sl : Kd) h24 (a26.add ((s4.1 : Int).toNat * 1)) fun t27 =>
    ld (.sl : Kd) h24 (a25.add ((s4.1 : Int).toNat * 1)) fun t28 =>
    (0 ≤ (t28.len : Int) ∧ (t28.len : Int) < (t27.len : Int)) ∧
    deref t27.a fun a29 =>
    ld klaw21Move h24 (a29.add (((t28.len : Int) : Int).toNat * 5)) fun t30 =>
    c_law21_odd s4.1 h24 fun r31 h32 =>
    sees h32 (some (a29.add (((t28.len : Int) : Int).toNat * 5))) klaw21Move t30 ∧
    sees h32 (some (a25.add ((s4.1 : Int).toNat * 1))) (.sl : Kd) t28 ∧
    sees h32 (some (a26.add ((s4.1 : Int).toNat * 1))) (.sl : Kd) t27 ∧
    law21_gift_untouched.j2 Q go6 s4 ((!(eqK klaw21Move t30 r31)), ()) h32))))) ∧
    ((decide (s4.1 < (lists2.len : Int))) = false →
    Q true h5))
def law21_gift_untouched.M (c_law21_sameActs : Sl → Sl → Heap → (Bool → Heap → Prop) → Prop) (c_law21_odd : Int → Heap → (Den klaw21Move → Heap → Prop) → Prop) (g1 : Den klaw21gift) (lists2 : Sl) (h3 : Heap) (Q : Bool → Heap → Prop) : Prop :=
    (((decide ((g1.2.1.len : Int) ≠ (lists2.len : Int))) = true →
    Q false h3) ∧
    ((decide ((g1.2.1.len : Int) ≠ (lists2.len : Int))) = false →
    Loop (law21_gift_untouched.l3 c_law21_sameActs c_law21_odd g1 lists2 Q) (0, ()) h3))
def law21_gift_untouched.mk : Mk := (.s (.r [0]) (.s (.s .d (.c (.s .d .d) .d)) (.s (.s .d (.b (.l [.slot 5 (.int .i64)] (.s (.s .d (.c .d .d)) (.j [] (.b (.j [.slot 64 .bool] (.q [] [] [.p 0, .p 2, .p 5, .p 6, .p 7, .w 1 [1, 3, 4, 9, 10, 11, 12, 13, 14, 15, 16, 17, 18, 19, 20, 21, 22, 23, 24, 25, 26, 27, 28, 29, 30, 31, 32, 33, 34, 35, 36, 37, 38, 39, 40, 41, 42, 43, 44, 45, 46], .p 3, .w 4 [4, 9, 10, 11, 12, 13, 14, 15, 16, 17, 18, 19, 20, 21, 22, 23, 24, 25, 26, 27, 28, 29, 30, 31, 32, 33, 34, 35, 36, 37, 38, 39, 40, 41, 42, 43, 44, 45, 46], .w 8 [8, 9, 10, 11, 12, 13, 14, 15, 16, 17, 18, 19, 20, 21, 22, 23, 24, 25, 26, 27, 28, 29, 30, 31, 32, 33, 34, 35, 36, 37, 38, 39, 40, 41, 42, 43, 44, 45, 46], .o 9, .p 10, .p 11, .p 12, .p 14, .p 17, .p 18, .p 19, .p 23, .p 24, .p 25, .w 13 [13, 15, 16, 22, 27, 28, 29, 30, 31, 32, 33, 34, 35, 36, 37, 38, 39, 40, 41, 42, 43, 44, 45, 46], .p 15, .w 16 [16, 22, 27, 28, 29, 30, 31, 32, 33, 34, 35, 36, 37, 38, 39, 40, 41, 42, 43, 44, 45, 46], .w 20 [20, 21, 22, 27, 28, 29, 30, 31, 32, 33, 34, 35, 36, 37, 38, 39, 40, 41, 42, 43, 44, 45, 46], .p 21, .p 22, .w 26 [26, 27, 28, 29, 30, 31, 32, 33, 34, 35, 36, 37, 38, 39, 40, 41, 42, 43, 44, 45, 46], .o 27, .p 28, .p 29, .p 30, .p 31, .p 33, .p 36, .p 37, .p 38, .p 43, .w 32 [32, 34, 35, 41, 42, 45, 46], .p 34, .w 35 [35, 41, 42, 45, 46], .w 39 [39, 40, 41, 42, 45, 46], .p 40, .p 41, .w 42 [42, 45, 46], .o 44, .p 45, .p 46]) (.c (.s .d .d) .d))) .d))))) (.s .d .d))))

def law21_sameInts.l1 (a1 : Sl) (b2 : Sl) (Q : Bool → Heap → Prop) (go6 : (Int × Unit) → Heap → Prop) (s4 : (Int × Unit)) (h5 : Heap) : Prop :=
    (((decide (s4.1 < (a1.len : Int))) = true →
    (0 ≤ s4.1 ∧ s4.1 < (a1.len : Int)) ∧
    deref a1.a fun a7 =>
    (0 ≤ s4.1 ∧ s4.1 < (b2.len : Int)) ∧
    deref b2.a fun a8 =>
    ld ((.int .i64) : Kd) h5 (a7.add ((s4.1 : Int).toNat * 1)) fun t9 =>
    ld ((.int .i64) : Kd) h5 (a8.add ((s4.1 : Int).toNat * 1)) fun t10 =>
    (((decide (t9 ≠ t10)) = true →
    Q false h5) ∧
    ((decide (t9 ≠ t10)) = false →
    go6 ((w64 (s4.1 + 1)), ()) h5))) ∧
    ((decide (s4.1 < (a1.len : Int))) = false →
    Q true h5))
def law21_sameInts.M  (a1 : Sl) (b2 : Sl) (h3 : Heap) (Q : Bool → Heap → Prop) : Prop :=
    (((decide ((a1.len : Int) ≠ (b2.len : Int))) = true →
    Q false h3) ∧
    ((decide ((a1.len : Int) ≠ (b2.len : Int))) = false →
    Loop (law21_sameInts.l1 a1 b2 Q) (0, ()) h3))
def law21_sameInts.mk : Mk := (.s .d (.s (.s .d (.c (.s .d .d) .d)) (.s (.s .d (.b (.l [.slot 5 (.int .i64)] (.s (.s .d (.c .d .d)) (.s (.b (.s (.q [] [] [.p 0, .p 1, .p 2, .p 4, .p 5, .p 6, .w 3 [3, 8], .w 7 [7, 8], .p 8]) (.c (.s .d .d) .d))) .d))))) (.s .d .d))))

def law21_playPlaced.l1 (c_buffers_Play : Int → Int → Int → Sl → Sl → Heap → ((Den kapiBufferRun × (Int × Unit)) → Heap → Prop) → Prop) (c_ref21_Play : Int → Int → Int → Sl → Sl → Heap → ((Den kapiBufferRun × (Int × Unit)) → Heap → Prop) → Prop) (c_law21_sameRun : Den kapiBufferRun → Den kapiBufferRun → Heap → (Bool → Heap → Prop) → Prop) (size1 : Int) (used2 : Int) (room3 : Int) (lists4 : Sl) (picks5 : Sl) (Q : Bool → Heap → Prop) (r7 : Sl) (r9 : Sl) (r11 : Den klaw21gift) (r13 : Sl) (r15 : (Den kapiBufferRun × (Int × Unit))) (go21 : (Int × Unit) → Heap → Prop) (s19 : (Int × Unit)) (h20 : Heap) : Prop :=
    (((decide (s19.1 < (picks5.len : Int))) = true →
    (0 ≤ s19.1 ∧ s19.1 < (picks5.len : Int)) ∧
    deref picks5.a fun a22 =>
    ld ((.int .i64) : Kd) h20 (a22.add ((s19.1 : Int).toNat * 1)) fun t23 =>
    (0 ≤ s19.1 ∧ s19.1 < (r13.len : Int)) ∧
    deref r13.a fun a24 =>
    st ((.int .i64) : Kd) h20 (a24.add ((s19.1 : Int).toNat * 1)) t23 fun h25 =>
    go21 ((w64 (s19.1 + 1)), ()) h25) ∧
    ((decide (s19.1 < (picks5.len : Int))) = false →
    (0 ≤ (picks5.len : Int) ∧ (picks5.len : Int) ≤ (r13.cap : Int)) ∧
    c_buffers_Play size1 used2 room3 r11.2.1 (r13.cut 0 (((picks5.len : Int) : Int).toNat) 1) h20 fun r26 h27 =>
    c_ref21_Play size1 used2 room3 r7 r9 h27 fun r28 h29 =>
    c_ref21_Play size1 used2 room3 lists4 picks5 h29 fun r30 h31 =>
    (((decide (r15.2.1 = r28.2.1)) = true →
    (((decide (r26.2.1 = r30.2.1)) = true →
    c_law21_sameRun (r15.1.1, (r15.1.2.1, (r15.1.2.2.1, (r15.1.2.2.2.1, (r15.1.2.2.2.2.1, ()))))) (r28.1.1, (r28.1.2.1, (r28.1.2.2.1, (r28.1.2.2.2.1, (r28.1.2.2.2.2.1, ()))))) h31 fun r32 h33 =>
    ((r32 = true →
    c_law21_sameRun (r26.1.1, (r26.1.2.1, (r26.1.2.2.1, (r26.1.2.2.2.1, (r26.1.2.2.2.2.1, ()))))) (r30.1.1, (r30.1.2.1, (r30.1.2.2.1, (r30.1.2.2.2.1, (r30.1.2.2.2.2.1, ()))))) h33 fun r34 h35 =>
    Q r34 h35) ∧
    (r32 = false →
    Q false h33))) ∧
    ((decide (r26.2.1 = r30.2.1)) = false →
    Q false h31))) ∧
    ((decide (r15.2.1 = r28.2.1)) = false →
    Q false h31))))
def law21_playPlaced.M (c_law21_turned : Sl → Heap → (Sl → Heap → Prop) → Prop) (c_law21_around : Sl → Heap → (Sl → Heap → Prop) → Prop) (c_law21_wrap : Sl → Heap → (Den klaw21gift → Heap → Prop) → Prop) (c_law21_spare : Sl → Heap → (Sl → Heap → Prop) → Prop) (c_buffers_Play : Int → Int → Int → Sl → Sl → Heap → ((Den kapiBufferRun × (Int × Unit)) → Heap → Prop) → Prop) (c_law21_lay : Sl → Sl → Heap → (Unit → Heap → Prop) → Prop) (c_ref21_Play : Int → Int → Int → Sl → Sl → Heap → ((Den kapiBufferRun × (Int × Unit)) → Heap → Prop) → Prop) (c_law21_sameRun : Den kapiBufferRun → Den kapiBufferRun → Heap → (Bool → Heap → Prop) → Prop) (size1 : Int) (used2 : Int) (room3 : Int) (lists4 : Sl) (picks5 : Sl) (h6 : Heap) (Q : Bool → Heap → Prop) : Prop :=
    c_law21_turned lists4 h6 fun r7 h8 =>
    c_law21_around picks5 h8 fun r9 h10 =>
    c_law21_wrap r7 h10 fun r11 h12 =>
    c_law21_spare r9 h12 fun r13 h14 =>
    (0 ≤ (picks5.len : Int) ∧ (picks5.len : Int) ≤ (r13.cap : Int)) ∧
    c_buffers_Play size1 used2 room3 r11.2.1 (r13.cut 0 (((picks5.len : Int) : Int).toNat) 1) h14 fun r15 h16 =>
    c_law21_lay r11.2.1 lists4 h16 fun r17 h18 =>
    Loop (law21_playPlaced.l1 c_buffers_Play c_ref21_Play c_law21_sameRun size1 used2 room3 lists4 picks5 Q r7 r9 r11 r13 r15) (0, ()) h18
def law21_playPlaced.mk : Mk := (.s .d (.s .d (.s .d (.s (.r [2]) (.s .d (.s .d (.s (.q [12] [16] [.p 0, .p 1, .p 2, .p 3, .p 5, .p 6, .p 7, .w 4 [4, 8, 9, 10, 11, 13, 14], .o 8, .p 9, .p 10, .p 11, .a 12, .o 13, .p 14]) (.s .d (.s (.s .d (.b (.l [.slot 18 (.int .i64)] (.s (.s .d (.c .d .d)) (.s (.b .d) .d))))) (.s (.q [12] [19] [.p 0, .p 1, .p 2, .p 3, .p 5, .p 6, .p 7, .w 4 [4, 8, 9, 10, 11, 13, 14], .o 8, .p 9, .p 10, .p 11, .a 12, .o 13, .p 14]) (.s (.r [9]) (.s (.r [9]) (.s .d .d)))))))))))))

def law21_sameWaits.l1 (a1 : Sl) (b2 : Sl) (Q : Bool → Heap → Prop) (go6 : (Int × Unit) → Heap → Prop) (s4 : (Int × Unit)) (h5 : Heap) : Prop :=
    (((decide (s4.1 < (a1.len : Int))) = true →
    (0 ≤ s4.1 ∧ s4.1 < (a1.len : Int)) ∧
    deref a1.a fun a7 =>
    (0 ≤ s4.1 ∧ s4.1 < (b2.len : Int)) ∧
    deref b2.a fun a8 =>
    ld kapiWait h5 (a7.add ((s4.1 : Int).toNat * 2)) fun t9 =>
    ld kapiWait h5 (a8.add ((s4.1 : Int).toNat * 2)) fun t10 =>
    (((!(eqK kapiWait t9 t10)) = true →
    Q false h5) ∧
    ((!(eqK kapiWait t9 t10)) = false →
    go6 ((w64 (s4.1 + 1)), ()) h5))) ∧
    ((decide (s4.1 < (a1.len : Int))) = false →
    Q true h5))
def law21_sameWaits.M  (a1 : Sl) (b2 : Sl) (h3 : Heap) (Q : Bool → Heap → Prop) : Prop :=
    (((decide ((a1.len : Int) ≠ (b2.len : Int))) = true →
    Q false h3) ∧
    ((decide ((a1.len : Int) ≠ (b2.len : Int))) = false →
    Loop (law21_sameWaits.l1 a1 b2 Q) (0, ()) h3))
def law21_sameWaits.mk : Mk := (.s .d (.s (.s .d (.c (.s .d .d) .d)) (.s (.s .d (.b (.l [.slot 5 (.int .i64)] (.s (.s .d (.c .d .d)) (.s (.b (.s (.q [] [] [.p 0, .p 1, .p 2, .p 4, .p 5, .p 6, .w 3 [3, 8], .w 7 [7, 8], .p 8]) (.c (.s .d .d) .d))) .d))))) (.s .d .d))))

def buffers_Memory_View.M (c_buffers_Memory_has : Option Addr → Int → Heap → (Bool → Heap → Prop) → Prop) (m1 : Option Addr) (actor2 : Int) (h3 : Heap) (Q : Option Addr → Heap → Prop) : Prop :=
    c_buffers_Memory_has m1 actor2 h3 fun r4 h5 =>
    (((!r4) = true →
    Q none h5) ∧
    ((!r4) = false →
    deref m1 fun a6 =>
    (0 ≤ actor2 ∧ actor2 < (8 : Int)) ∧
    Q (some ((a6.add 11).add ((actor2 : Int).toNat * 2))) h5))
def buffers_Memory_View.mk : Mk := (.s .d (.s (.s .d (.c (.s .d .d) .d)) (.s .d .d)))

def buffers_Memory_Flush.j1 (c_cells_Arena_Who : Option Addr → Int → Heap → (Unit → Heap → Prop) → Prop) (c_cells_Arena_Store : Option Addr → Int → Int → Heap → (Int → Heap → Prop) → Prop) (m1 : Option Addr) (actor2 : Int) (Q : Bool → Heap → Prop) (s4 : Unit) (h5 : Heap) : Prop :=
    deref m1 fun a6 =>
    (0 ≤ actor2 ∧ actor2 < (8 : Int)) ∧
    ld (.sl : Kd) h5 ((a6.add 3).add ((actor2 : Int).toNat * 1)) fun t7 =>
    (0 ≤ (0 : Int) ∧ (0 : Int) < (t7.len : Int)) ∧
    deref t7.a fun a8 =>
    ld kapiWait h5 (a8.add (((0 : Int) : Int).toNat * 2)) fun t9 =>
    deref m1 fun a10 =>
    (0 ≤ actor2 ∧ actor2 < (8 : Int)) ∧
    deref m1 fun a11 =>
    ld (.sl : Kd) h5 ((a10.add 3).add ((actor2 : Int).toNat * 1)) fun t12 =>
    (0 ≤ (1 : Int) ∧ (1 : Int) ≤ (t12.len : Int)) ∧
    (0 ≤ actor2 ∧ actor2 < (8 : Int)) ∧
    st (.sl : Kd) h5 ((a11.add 3).add ((actor2 : Int).toNat * 1)) (t12.cut (((1 : Int) : Int).toNat) t12.len 2) fun h13 =>
    deref m1 fun a14 =>
    ld (.ptr : Kd) h13 (a14.add 0) fun t15 =>
    c_cells_Arena_Who t15 actor2 h13 fun r16 h17 =>
    deref m1 fun a18 =>
    ld (.ptr : Kd) h17 (a18.add 0) fun t19 =>
    c_cells_Arena_Store t19 t9.1 t9.2.1 h17 fun r20 h21 =>
    Q true h21
def buffers_Memory_Flush.j2 (c_cells_Arena_Who : Option Addr → Int → Heap → (Unit → Heap → Prop) → Prop) (c_cells_Arena_Store : Option Addr → Int → Int → Heap → (Int → Heap → Prop) → Prop) (m1 : Option Addr) (actor2 : Int) (Q : Bool → Heap → Prop) (s22 : (Bool × Unit)) (h23 : Heap) : Prop :=
    ((s22.1 = true →
    Q false h23) ∧
    (s22.1 = false →
    buffers_Memory_Flush.j1 c_cells_Arena_Who c_cells_Arena_Store m1 actor2 Q () h23))
def buffers_Memory_Flush.M (c_buffers_Memory_has : Option Addr → Int → Heap → (Bool → Heap → Prop) → Prop) (c_cells_Arena_Who : Option Addr → Int → Heap → (Unit → Heap → Prop) → Prop) (c_cells_Arena_Store : Option Addr → Int → Int → Heap → (Int → Heap → Prop) → Prop) (m1 : Option Addr) (actor2 : Int) (h3 : Heap) (Q : Bool → Heap → Prop) : Prop :=
    c_buffers_Memory_has m1 actor2 h3 fun r24 h25 =>
    (((!r24) = true →
    buffers_Memory_Flush.j2 c_cells_Arena_Who c_cells_Arena_Store m1 actor2 Q (true, ()) h25) ∧
    ((!r24) = false →
    deref m1 fun a26 =>
    (0 ≤ actor2 ∧ actor2 < (8 : Int)) ∧
    ld (.sl : Kd) h25 ((a26.add 3).add ((actor2 : Int).toNat * 1)) fun t27 =>
    buffers_Memory_Flush.j2 c_cells_Arena_Who c_cells_Arena_Store m1 actor2 Q ((decide ((t27.len : Int) = 0)), ()) h25))
def buffers_Memory_Flush.mk : Mk := (.s .d (.j [] (.j [.slot 19 .bool] .d (.c (.s .d .d) .d)) (.s (.r [8]) (.s (.q [] [] [.p 0, .p 1, .p 2, .p 3, .p 4, .p 5, .p 6, .p 9, .p 10, .w 7 [7, 8, 11, 12], .p 8, .p 11, .o 12]) (.s .d (.s (.q [] [] [.p 0, .p 1, .p 2, .p 4, .p 6, .w 3 [3, 8], .w 5 [5, 8], .w 7 [7, 8], .o 8]) (.s .d .d)))))))

def buffers_Memory_Waiting.M (c_buffers_Memory_has : Option Addr → Int → Heap → (Bool → Heap → Prop) → Prop) (m1 : Option Addr) (actor2 : Int) (h3 : Heap) (Q : Sl → Heap → Prop) : Prop :=
    c_buffers_Memory_has m1 actor2 h3 fun r4 h5 =>
    (((!r4) = true →
    Q ⟨none, 0, 0⟩ h5) ∧
    ((!r4) = false →
    deref m1 fun a6 =>
    (0 ≤ actor2 ∧ actor2 < (8 : Int)) ∧
    ld (.sl : Kd) h5 ((a6.add 3).add ((actor2 : Int).toNat * 1)) fun t7 =>
    appendM 2 16 h5 ⟨none, 0, 0⟩ t7 fun t8 h9 =>
    Q t8 h9))
def buffers_Memory_Waiting.mk : Mk := (.s .d (.s (.s .d (.c (.s .d .d) .d)) (.s .d .d)))

def buffers_View_Fence.j1 (c_buffers_Memory_drain : Option Addr → Int → Heap → (Unit → Heap → Prop) → Prop) (v1 : Option Addr) (Q : Unit → Heap → Prop) (s3 : (Bool × Unit)) (h4 : Heap) : Prop :=
    ((s3.1 = true →
    deref v1 fun a5 =>
    deref v1 fun a6 =>
    ld (.ptr : Kd) h4 ((a5.add 0).add 0) fun t7 =>
    ld ((.int .i64) : Kd) h4 ((a6.add 0).add 1) fun t8 =>
    c_buffers_Memory_drain t7 t8 h4 fun r9 h10 =>
    Q () h10) ∧
    (s3.1 = false →
    Q () h4))
def buffers_View_Fence.M (c_buffers_Memory_drain : Option Addr → Int → Heap → (Unit → Heap → Prop) → Prop) (v1 : Option Addr) (h2 : Heap) (Q : Unit → Heap → Prop) : Prop :=
    (((Option.isSome v1) = true →
    deref v1 fun a11 =>
    ld (.ptr : Kd) h2 ((a11.add 0).add 0) fun t12 =>
    buffers_View_Fence.j1 c_buffers_Memory_drain v1 Q ((Option.isSome t12), ()) h2) ∧
    ((Option.isSome v1) = false →
    buffers_View_Fence.j1 c_buffers_Memory_drain v1 Q (false, ()) h2))
def buffers_View_Fence.mk : Mk := (.j [.slot 11 .bool] .d (.c (.q [] [] [.p 0, .p 1, .p 2, .p 3, .p 5, .p 6, .p 7, .p 8, .w 4 [4, 10], .w 9 [9, 10], .o 10]) .d))

def buffers_View_Load.l1 (c_buffers_place_cells : Den kbuffersplace → Heap → (Option Addr → Heap → Prop) → Prop) (c_cells_Arena_Load : Option Addr → Int → Heap → (Den kapiWait → Heap → Prop) → Prop) (v1 : Option Addr) (addr2 : Int) (Q : Den kapiWait → Heap → Prop) (t11 : Sl) (go14 : (Int × Unit) → Heap → Prop) (s12 : (Int × Unit)) (h13 : Heap) : Prop :=
    (((decide ((0 : Int) ≤ s12.1)) = true →
    (0 ≤ s12.1 ∧ s12.1 < (t11.len : Int)) ∧
    deref t11.a fun a15 =>
    ld ((.int .i64) : Kd) h13 ((a15.add ((s12.1 : Int).toNat * 2)).add 0) fun t16 =>
    (((decide (t16 = addr2)) = true →
    (0 ≤ s12.1 ∧ s12.1 < (t11.len : Int)) ∧
    deref t11.a fun a17 =>
    ld ((.int .i64) : Kd) h13 ((a17.add ((s12.1 : Int).toNat * 2)).add 1) fun t18 =>
    Q (t18, 0, ()) h13) ∧
    ((decide (t16 = addr2)) = false →
    go14 ((w64 (s12.1 - 1)), ()) h13))) ∧
    ((decide ((0 : Int) ≤ s12.1)) = false →
    deref v1 fun a19 =>
    ld kbuffersplace h13 (a19.add 0) fun t20 =>
    c_buffers_place_cells t20 h13 fun r21 h22 =>
    c_cells_Arena_Load r21 addr2 h22 fun r23 h24 =>
    Q (r23.1, r23.2.1, ()) h24))
def buffers_View_Load.M (c_buffers_View_none : Option Addr → Int → Heap → (Bool → Heap → Prop) → Prop) (c_buffers_place_cells : Den kbuffersplace → Heap → (Option Addr → Heap → Prop) → Prop) (c_cells_Arena_Load : Option Addr → Int → Heap → (Den kapiWait → Heap → Prop) → Prop) (v1 : Option Addr) (addr2 : Int) (h3 : Heap) (Q : Den kapiWait → Heap → Prop) : Prop :=
    c_buffers_View_none v1 addr2 h3 fun r4 h5 =>
    ((r4 = true →
    Q (0, 20, ()) h5) ∧
    (r4 = false →
    deref v1 fun a6 =>
    deref v1 fun a7 =>
    ld (.ptr : Kd) h5 ((a6.add 0).add 0) fun t8 =>
    deref t8 fun a9 =>
    ld ((.int .i64) : Kd) h5 ((a7.add 0).add 1) fun t10 =>
    (0 ≤ t10 ∧ t10 < (8 : Int)) ∧
    ld (.sl : Kd) h5 ((a9.add 3).add ((t10 : Int).toNat * 1)) fun t11 =>
    Loop (buffers_View_Load.l1 c_buffers_place_cells c_cells_Arena_Load v1 addr2 Q t11) ((w64 ((t11.len : Int) - 1)), ()) h5))
def buffers_View_Load.mk : Mk := (.s .d (.s (.s .d (.c (.s .d .d) .d)) (.s (.q [] [] [.p 0, .p 1, .p 2, .p 3, .p 5, .p 6, .p 7, .p 8, .w 4 [4, 10, 11, 12, 13, 14], .p 10, .p 11, .w 9 [9, 12, 13, 14], .p 12, .w 13 [13, 14], .p 14]) (.s (.s .d (.b (.l [.slot 7 (.int .i64)] (.s (.s .d (.c .d .d)) (.s (.b (.s .d (.c (.s .d .d) .d))) .d))))) (.s .d .d)))))

def buffers_View_Store.j1 (v1 : Option Addr) (addr2 : Int) (w3 : Int) (Q : Int → Heap → Prop) (s7 : Unit) (h8 : Heap) : Prop :=
    deref v1 fun a9 =>
    deref v1 fun a10 =>
    deref v1 fun a11 =>
    deref v1 fun a12 =>
    ld (.ptr : Kd) h8 ((a9.add 0).add 0) fun t13 =>
    deref t13 fun a14 =>
    ld ((.int .i64) : Kd) h8 ((a10.add 0).add 1) fun t15 =>
    ld (.ptr : Kd) h8 ((a11.add 0).add 0) fun t16 =>
    deref t16 fun a17 =>
    ld ((.int .i64) : Kd) h8 ((a12.add 0).add 1) fun t18 =>
    (0 ≤ t18 ∧ t18 < (8 : Int)) ∧
    ld (.sl : Kd) h8 ((a17.add 3).add ((t18 : Int).toNat * 1)) fun t19 =>
    new h8 (([(addr2, (w3, ()))] : List (Den kapiWait)).flatMap (Kd.cells kapiWait)) fun p20 h21 =>
    appendM 2 16 h21 t19 ⟨some p20, 1, 1⟩ fun t22 h23 =>
    sees h23 (some ((a10.add 0).add 1)) ((.int .i64) : Kd) t15 ∧
    sees h23 (some ((a9.add 0).add 0)) (.ptr : Kd) t13 ∧
    (0 ≤ t15 ∧ t15 < (8 : Int)) ∧
    st (.sl : Kd) h23 ((a14.add 3).add ((t15 : Int).toNat * 1)) t22 fun h24 =>
    Q 0 h24
def buffers_View_Store.M (c_buffers_View_none : Option Addr → Int → Heap → (Bool → Heap → Prop) → Prop) (c_buffers_Memory_Flush : Option Addr → Int → Heap → (Bool → Heap → Prop) → Prop) (v1 : Option Addr) (addr2 : Int) (w3 : Int) (h4 : Heap) (Q : Int → Heap → Prop) : Prop :=
    c_buffers_View_none v1 addr2 h4 fun r5 h6 =>
    ((r5 = true →
    Q 20 h6) ∧
    (r5 = false →
    deref v1 fun a25 =>
    deref v1 fun a26 =>
    deref v1 fun a27 =>
    ld (.ptr : Kd) h6 ((a25.add 0).add 0) fun t28 =>
    deref t28 fun a29 =>
    ld ((.int .i64) : Kd) h6 ((a26.add 0).add 1) fun t30 =>
    (0 ≤ t30 ∧ t30 < (8 : Int)) ∧
    ld (.sl : Kd) h6 ((a29.add 3).add ((t30 : Int).toNat * 1)) fun t31 =>
    ld (.ptr : Kd) h6 ((a27.add 0).add 0) fun t32 =>
    deref t32 fun a33 =>
    ld ((.int .i64) : Kd) h6 (a33.add 2) fun t34 =>
    (((decide (t34 ≤ (t31.len : Int))) = true →
    deref v1 fun a35 =>
    deref v1 fun a36 =>
    ld (.ptr : Kd) h6 ((a35.add 0).add 0) fun t37 =>
    ld ((.int .i64) : Kd) h6 ((a36.add 0).add 1) fun t38 =>
    c_buffers_Memory_Flush t37 t38 h6 fun r39 h40 =>
    buffers_View_Store.j1 v1 addr2 w3 Q () h40) ∧
    ((decide (t34 ≤ (t31.len : Int))) = false →
    buffers_View_Store.j1 v1 addr2 w3 Q () h6))))
def buffers_View_Store.mk : Mk := (.s .d (.s (.s .d (.c (.s .d .d) .d)) (.j [] (.s (.q [] [] [.p 0, .p 1, .p 2, .p 3, .p 5, .p 6, .p 7, .p 8, .p 15, .p 16, .p 17, .p 18, .w 4 [4, 10, 11, 12, 13, 14, 23], .p 10, .p 11, .w 9 [9, 12, 13, 14, 23], .p 12, .w 13 [13, 14, 23], .p 14, .w 19 [19, 20, 21, 22, 23], .p 20, .p 21, .w 22 [22, 23], .p 23]) (.c (.q [] [] [.p 0, .p 1, .p 2, .p 3, .p 5, .p 6, .p 7, .p 8, .w 4 [4, 10], .w 9 [9, 10], .o 10]) .d)) (.s (.q [] [] [.p 0, .p 1, .p 2, .p 3, .p 5, .p 6, .p 7, .p 8, .p 10, .p 11, .p 12, .p 13, .p 15, .p 16, .p 17, .p 18, .p 24, .p 25, .p 26, .w 4 [4, 29, 30, 31, 32], .p 29, .p 30, .w 9 [9, 31, 32], .w 14 [14, 20, 21, 22, 23, 28, 31, 32], .p 20, .p 21, .w 19 [19, 22, 23, 28, 31, 32], .p 22, .w 23 [23, 28, 31, 32], .o 27, .o 28, .p 31, .o 32]) (.s .d .d)))))

def buffers_View_CAS.M (c_buffers_View_none : Option Addr → Int → Heap → (Bool → Heap → Prop) → Prop) (c_buffers_Memory_drain : Option Addr → Int → Heap → (Unit → Heap → Prop) → Prop) (c_buffers_place_cells : Den kbuffersplace → Heap → (Option Addr → Heap → Prop) → Prop) (c_cells_Arena_CAS : Option Addr → Int → Int → Int → Heap → ((Bool × (Int × Unit)) → Heap → Prop) → Prop) (v1 : Option Addr) (addr2 : Int) (old3 : Int) (next4 : Int) (h5 : Heap) (Q : (Bool × (Int × Unit)) → Heap → Prop) : Prop :=
    c_buffers_View_none v1 addr2 h5 fun r6 h7 =>
    ((r6 = true →
    Q (false, 20, ()) h7) ∧
    (r6 = false →
    deref v1 fun a8 =>
    deref v1 fun a9 =>
    ld (.ptr : Kd) h7 ((a8.add 0).add 0) fun t10 =>
    ld ((.int .i64) : Kd) h7 ((a9.add 0).add 1) fun t11 =>
    c_buffers_Memory_drain t10 t11 h7 fun r12 h13 =>
    deref v1 fun a14 =>
    ld kbuffersplace h13 (a14.add 0) fun t15 =>
    c_buffers_place_cells t15 h13 fun r16 h17 =>
    c_cells_Arena_CAS r16 addr2 old3 next4 h17 fun r18 h19 =>
    Q (r18.1, r18.2.1, ()) h19))
def buffers_View_CAS.mk : Mk := (.s .d (.s (.s .d (.c (.s .d .d) .d)) (.s (.q [] [] [.p 0, .p 1, .p 2, .p 3, .p 5, .p 6, .p 7, .p 8, .w 4 [4, 10], .w 9 [9, 10], .o 10]) (.s .d .d))))

def buffers_View_Add.M (c_buffers_View_none : Option Addr → Int → Heap → (Bool → Heap → Prop) → Prop) (c_buffers_Memory_drain : Option Addr → Int → Heap → (Unit → Heap → Prop) → Prop) (c_buffers_place_cells : Den kbuffersplace → Heap → (Option Addr → Heap → Prop) → Prop) (c_cells_Arena_Add : Option Addr → Int → Int → Heap → (Den kapiWait → Heap → Prop) → Prop) (v1 : Option Addr) (addr2 : Int) (d3 : Int) (h4 : Heap) (Q : Den kapiWait → Heap → Prop) : Prop :=
    c_buffers_View_none v1 addr2 h4 fun r5 h6 =>
    ((r5 = true →
    Q (0, 20, ()) h6) ∧
    (r5 = false →
    deref v1 fun a7 =>
    deref v1 fun a8 =>
    ld (.ptr : Kd) h6 ((a7.add 0).add 0) fun t9 =>
    ld ((.int .i64) : Kd) h6 ((a8.add 0).add 1) fun t10 =>
    c_buffers_Memory_drain t9 t10 h6 fun r11 h12 =>
    deref v1 fun a13 =>
    ld kbuffersplace h12 (a13.add 0) fun t14 =>
    c_buffers_place_cells t14 h12 fun r15 h16 =>
    c_cells_Arena_Add r15 addr2 d3 h16 fun r17 h18 =>
    Q (r17.1, r17.2.1, ()) h18))
def buffers_View_Add.mk : Mk := (.s .d (.s (.s .d (.c (.s .d .d) .d)) (.s (.q [] [] [.p 0, .p 1, .p 2, .p 3, .p 5, .p 6, .p 7, .p 8, .w 4 [4, 10], .w 9 [9, 10], .o 10]) (.s .d .d))))

def buffers_View_Reserve.j1 (c_buffers_Memory_drain : Option Addr → Int → Heap → (Unit → Heap → Prop) → Prop) (c_buffers_place_cells : Den kbuffersplace → Heap → (Option Addr → Heap → Prop) → Prop) (c_cells_Arena_Reserve : Option Addr → Int → Heap → (Den kapiWait → Heap → Prop) → Prop) (v1 : Option Addr) (n2 : Int) (Q : Den kapiWait → Heap → Prop) (s4 : Unit) (h5 : Heap) : Prop :=
    deref v1 fun a6 =>
    deref v1 fun a7 =>
    ld (.ptr : Kd) h5 ((a6.add 0).add 0) fun t8 =>
    ld ((.int .i64) : Kd) h5 ((a7.add 0).add 1) fun t9 =>
    c_buffers_Memory_drain t8 t9 h5 fun r10 h11 =>
    deref v1 fun a12 =>
    ld kbuffersplace h11 (a12.add 0) fun t13 =>
    c_buffers_place_cells t13 h11 fun r14 h15 =>
    c_cells_Arena_Reserve r14 n2 h15 fun r16 h17 =>
    Q (r16.1, r16.2.1, ()) h17
def buffers_View_Reserve.j2 (c_buffers_Memory_drain : Option Addr → Int → Heap → (Unit → Heap → Prop) → Prop) (c_buffers_place_cells : Den kbuffersplace → Heap → (Option Addr → Heap → Prop) → Prop) (c_cells_Arena_Reserve : Option Addr → Int → Heap → (Den kapiWait → Heap → Prop) → Prop) (v1 : Option Addr) (n2 : Int) (Q : Den kapiWait → Heap → Prop) (s18 : (Bool × Unit)) (h19 : Heap) : Prop :=
    ((s18.1 = true →
    Q (0, 22, ()) h19) ∧
    (s18.1 = false →
    buffers_View_Reserve.j1 c_buffers_Memory_drain c_buffers_place_cells c_cells_Arena_Reserve v1 n2 Q () h19))
def buffers_View_Reserve.M (c_cells_Arena_Size : Option Addr → Heap → (Int → Heap → Prop) → Prop) (c_cells_Arena_Mark : Option Addr → Heap → (Int → Heap → Prop) → Prop) (c_buffers_Memory_drain : Option Addr → Int → Heap → (Unit → Heap → Prop) → Prop) (c_buffers_place_cells : Den kbuffersplace → Heap → (Option Addr → Heap → Prop) → Prop) (c_cells_Arena_Reserve : Option Addr → Int → Heap → (Den kapiWait → Heap → Prop) → Prop) (v1 : Option Addr) (n2 : Int) (h3 : Heap) (Q : Den kapiWait → Heap → Prop) : Prop :=
    (((decide (n2 < 1)) = true →
    Q (0, 21, ()) h3) ∧
    ((decide (n2 < 1)) = false →
    (((Option.isNone v1) = true →
    buffers_View_Reserve.j2 c_buffers_Memory_drain c_buffers_place_cells c_cells_Arena_Reserve v1 n2 Q (true, ()) h3) ∧
    ((Option.isNone v1) = false →
    deref v1 fun a20 =>
    ld (.ptr : Kd) h3 ((a20.add 0).add 0) fun t21 =>
    (((Option.isNone t21) = true →
    buffers_View_Reserve.j2 c_buffers_Memory_drain c_buffers_place_cells c_cells_Arena_Reserve v1 n2 Q (true, ()) h3) ∧
    ((Option.isNone t21) = false →
    deref v1 fun a22 =>
    deref v1 fun a23 =>
    ld (.ptr : Kd) h3 ((a22.add 0).add 0) fun t24 =>
    deref t24 fun a25 =>
    ld (.ptr : Kd) h3 (a25.add 0) fun t26 =>
    ld (.ptr : Kd) h3 ((a23.add 0).add 0) fun t27 =>
    deref t27 fun a28 =>
    ld (.ptr : Kd) h3 (a28.add 0) fun t29 =>
    c_cells_Arena_Size t26 h3 fun r30 h31 =>
    sees h31 (some (a28.add 0)) (.ptr : Kd) t29 ∧
    sees h31 (some ((a23.add 0).add 0)) (.ptr : Kd) t27 ∧
    c_cells_Arena_Mark t29 h31 fun r32 h33 =>
    buffers_View_Reserve.j2 c_buffers_Memory_drain c_buffers_place_cells c_cells_Arena_Reserve v1 n2 Q ((decide ((w64 (r30 - r32)) < n2)), ()) h33))))))
def buffers_View_Reserve.mk : Mk := (.s .d (.s (.s .d (.c (.s .d .d) .d)) (.j [] (.j [.slot 40 .bool] (.q [] [] [.p 0, .p 1, .p 2, .p 3, .p 4, .p 5, .p 6, .w 7 [7, 8, 9, 10, 11, 12, 13, 14, 15, 16, 17, 18, 19, 20, 21, 22, 23, 24, 25, 26, 27, 28, 29, 30, 31, 32], .p 8, .p 9, .p 10, .p 11, .p 12, .p 13, .p 14, .p 15, .p 21, .p 22, .p 23, .p 24, .w 16 [16, 17, 18, 19, 20, 29, 30, 31, 32], .p 17, .p 18, .w 19 [19, 20, 29, 30, 31, 32], .w 25 [25, 26, 27, 28, 29, 30, 31, 32], .p 26, .p 27, .w 28 [28, 29, 30, 31, 32], .o 20, .o 29, .p 30, .p 31, .p 32]) (.c (.s .d .d) .d)) (.s (.q [] [] [.p 0, .p 1, .p 2, .p 3, .p 5, .p 6, .p 7, .p 8, .w 4 [4, 10], .w 9 [9, 10], .o 10]) (.s .d .d)))))

def ref2_New.j1 (size1 : Int) (Q : Den kbuffersplace → Heap → Prop) (s3 : Unit) (h4 : Heap) : Prop :=
    new h4 (kref2Arena.cells (size1, (Sl.none, (false, (0, (Sl.none, ())))))) fun p5 h6 =>
    Q ((some p5), 0, ()) h6
def ref2_New.j2 (size1 : Int) (Q : Den kbuffersplace → Heap → Prop) (s7 : (Bool × Unit)) (h8 : Heap) : Prop :=
    ((s7.1 = true →
    new h8 (kref2Arena.cells (0, (Sl.none, (false, (0, (Sl.none, ())))))) fun p9 h10 =>
    Q ((some p9), 3, ()) h10) ∧
    (s7.1 = false →
    ref2_New.j1 size1 Q () h8))
def ref2_New.M  (size1 : Int) (h2 : Heap) (Q : Den kbuffersplace → Heap → Prop) : Prop :=
    (((decide (size1 < 0)) = true →
    ref2_New.j2 size1 Q (true, ()) h2) ∧
    ((decide (size1 < 0)) = false →
    ref2_New.j2 size1 Q ((decide ((1048576 : Int) < size1)), ()) h2))
def ref2_New.mk : Mk := (.s .d (.j [] (.j [.slot 9 .bool] .d (.c (.s .d .d) .d)) (.s .d .d)))

def cells_New.M (c_cells_good : Int → Heap → (Bool → Heap → Prop) → Prop) (size1 : Int) (h2 : Heap) (Q : Den kbuffersplace → Heap → Prop) : Prop :=
    c_cells_good size1 h2 fun r3 h4 =>
    (((!r3) = true →
    Q (none, 3, ()) h4) ∧
    ((!r3) = false →
    new h4 (kcellsArena.cells ((size1, (0, ())), (Sl.none, (Sl.none, (0, (false, ())))))) fun p5 h6 =>
    Q ((some p5), 0, ()) h6))
def cells_New.mk : Mk := (.s .d (.s (.s .d (.c (.s .d .d) .d)) (.s .d .d)))

def cells_Arena_Watch.M  (a1 : Option Addr) (on2 : Bool) (h3 : Heap) (Q : Unit → Heap → Prop) : Prop :=
    (((Option.isSome a1) = true →
    deref a1 fun a4 =>
    st (.bool : Kd) h3 (a4.add 5) on2 fun h5 =>
    Q () h5) ∧
    ((Option.isSome a1) = false →
    Q () h3))
def cells_Arena_Watch.mk : Mk := (.s .d (.c .d .d))

def ref21_Memory_Do.j1 (c_ref2_Arena_Do : Option Addr → Den klaw21Move → Heap → (Den kapiEffect → Heap → Prop) → Prop) (m1 : Option Addr) (k2 : Int) (x3 : Den klaw21Move) (Q : Den kapiEffect → Heap → Prop) (s11 : (Den kapiEffect × Unit)) (h12 : Heap) : Prop :=
    deref m1 fun a13 =>
    ld (.ptr : Kd) h12 (a13.add 0) fun t14 =>
    deref t14 fun a15 =>
    st ((.int .i64) : Kd) h12 (a15.add 3) k2 fun h16 =>
    deref m1 fun a17 =>
    ld (.ptr : Kd) h16 (a17.add 0) fun t18 =>
    c_ref2_Arena_Do t18 (x3.1, (x3.2.1, (x3.2.2.1, (x3.2.2.2.1, (x3.2.2.2.2.1, ()))))) h16 fun r19 h20 =>
    Q (r19.1, (r19.2.1, (r19.2.2.1, ()))) h20
def ref21_Memory_Do.l2 (c_ref2_Arena_Do : Option Addr → Den klaw21Move → Heap → (Den kapiEffect → Heap → Prop) → Prop) (m1 : Option Addr) (k2 : Int) (x3 : Den klaw21Move) (Q : Den kapiEffect → Heap → Prop) (go27 : (Int × (Den kapiEffect × Unit)) → Heap → Prop) (s25 : (Int × (Den kapiEffect × Unit))) (h26 : Heap) : Prop :=
    (((decide ((0 : Int) ≤ s25.1)) = true →
    deref m1 fun a28 =>
    ld (.sl : Kd) h26 (a28.add 2) fun t29 =>
    (0 ≤ k2 ∧ k2 < (t29.len : Int)) ∧
    deref t29.a fun a30 =>
    ld (.sl : Kd) h26 (a30.add ((k2 : Int).toNat * 1)) fun t31 =>
    (0 ≤ s25.1 ∧ s25.1 < (t31.len : Int)) ∧
    deref t31.a fun a32 =>
    ld ((.int .i64) : Kd) h26 ((a32.add ((s25.1 : Int).toNat * 2)).add 0) fun t33 =>
    (((decide (t33 = x3.2.2.1)) = true →
    deref m1 fun a34 =>
    ld (.sl : Kd) h26 (a34.add 2) fun t35 =>
    (0 ≤ k2 ∧ k2 < (t35.len : Int)) ∧
    deref t35.a fun a36 =>
    ld (.sl : Kd) h26 (a36.add ((k2 : Int).toNat * 1)) fun t37 =>
    (0 ≤ s25.1 ∧ s25.1 < (t37.len : Int)) ∧
    deref t37.a fun a38 =>
    ld ((.int .i64) : Kd) h26 ((a38.add ((s25.1 : Int).toNat * 2)).add 1) fun t39 =>
    Q (t39, (true, (0, ()))) h26) ∧
    ((decide (t33 = x3.2.2.1)) = false →
    go27 ((w64 (s25.1 - 1)), (s25.2.1.1, (s25.2.1.2.1, (s25.2.1.2.2.1, ()))), ()) h26))) ∧
    ((decide ((0 : Int) ≤ s25.1)) = false →
    ref21_Memory_Do.j1 c_ref2_Arena_Do m1 k2 x3 Q ((s25.2.1.1, (s25.2.1.2.1, (s25.2.1.2.2.1, ()))), ()) h26))
def ref21_Memory_Do.j3 (m1 : Option Addr) (k2 : Int) (x3 : Den klaw21Move) (Q : Den kapiEffect → Heap → Prop) (s40 : Unit) (h41 : Heap) : Prop :=
    deref m1 fun a42 =>
    deref m1 fun a43 =>
    ld (.sl : Kd) h41 (a42.add 2) fun t44 =>
    ld (.sl : Kd) h41 (a43.add 2) fun t45 =>
    (0 ≤ k2 ∧ k2 < (t45.len : Int)) ∧
    deref t45.a fun a46 =>
    ld (.sl : Kd) h41 (a46.add ((k2 : Int).toNat * 1)) fun t47 =>
    new h41 (([(x3.2.2.1, (x3.2.2.2.1, ()))] : List (Den kapiWait)).flatMap (Kd.cells kapiWait)) fun p48 h49 =>
    appendM 2 16 h49 t47 ⟨some p48, 1, 1⟩ fun t50 h51 =>
    sees h51 (some (a42.add 2)) (.sl : Kd) t44 ∧
    (0 ≤ k2 ∧ k2 < (t44.len : Int)) ∧
    deref t44.a fun a52 =>
    st (.sl : Kd) h51 (a52.add ((k2 : Int).toNat * 1)) t50 fun h53 =>
    Q (0, (true, (0, ()))) h53
def ref21_Memory_Do.j4 (c_ref21_Memory_Drain : Option Addr → Int → Heap → (Unit → Heap → Prop) → Prop) (c_ref21_Memory_refused : Option Addr → Den klaw21Move → Heap → (Int → Heap → Prop) → Prop) (c_ref21_Memory_Flush : Option Addr → Int → Heap → (Bool → Heap → Prop) → Prop) (c_ref2_Arena_Do : Option Addr → Den klaw21Move → Heap → (Den kapiEffect → Heap → Prop) → Prop) (m1 : Option Addr) (k2 : Int) (x3 : Den klaw21Move) (Q : Den kapiEffect → Heap → Prop) (s5 : (Den kapiEffect × Unit)) (h6 : Heap) : Prop :=
    (((decide (x3.2.1 = 5)) = true →
    c_ref21_Memory_Drain m1 k2 h6 fun r7 h8 =>
    Q (0, (true, (0, ()))) h8) ∧
    ((decide (x3.2.1 = 5)) = false →
    c_ref21_Memory_refused m1 (x3.1, (x3.2.1, (x3.2.2.1, (x3.2.2.2.1, (x3.2.2.2.2.1, ()))))) h6 fun r9 h10 =>
    (((decide (r9 ≠ 0)) = true →
    Q (0, (false, (r9, ()))) h10) ∧
    ((decide (r9 ≠ 0)) = false →
    (((decide (x3.2.1 = 0)) = true →
    deref m1 fun a21 =>
    ld (.sl : Kd) h10 (a21.add 2) fun t22 =>
    (0 ≤ k2 ∧ k2 < (t22.len : Int)) ∧
    deref t22.a fun a23 =>
    ld (.sl : Kd) h10 (a23.add ((k2 : Int).toNat * 1)) fun t24 =>
    Loop (ref21_Memory_Do.l2 c_ref2_Arena_Do m1 k2 x3 Q) ((w64 ((t24.len : Int) - 1)), (s5.1.1, (s5.1.2.1, (s5.1.2.2.1, ()))), ()) h10) ∧
    ((decide (x3.2.1 = 0)) = false →
    (((decide (x3.2.1 = 1)) = true →
    deref m1 fun a54 =>
    deref m1 fun a55 =>
    ld (.sl : Kd) h10 (a54.add 2) fun t56 =>
    (0 ≤ k2 ∧ k2 < (t56.len : Int)) ∧
    deref t56.a fun a57 =>
    ld (.sl : Kd) h10 (a57.add ((k2 : Int).toNat * 1)) fun t58 =>
    ld ((.int .i64) : Kd) h10 (a55.add 1) fun t59 =>
    (((decide ((t58.len : Int) = t59)) = true →
    c_ref21_Memory_Flush m1 k2 h10 fun r60 h61 =>
    ref21_Memory_Do.j3 m1 k2 x3 Q () h61) ∧
    ((decide ((t58.len : Int) = t59)) = false →
    ref21_Memory_Do.j3 m1 k2 x3 Q () h10))) ∧
    ((decide (x3.2.1 = 1)) = false →
    c_ref21_Memory_Drain m1 k2 h10 fun r62 h63 =>
    ref21_Memory_Do.j1 c_ref2_Arena_Do m1 k2 x3 Q ((s5.1.1, (s5.1.2.1, (s5.1.2.2.1, ()))), ()) h63))))))))
def ref21_Memory_Do.j5 (c_ref21_Memory_Drain : Option Addr → Int → Heap → (Unit → Heap → Prop) → Prop) (c_ref21_Memory_refused : Option Addr → Den klaw21Move → Heap → (Int → Heap → Prop) → Prop) (c_ref21_Memory_Flush : Option Addr → Int → Heap → (Bool → Heap → Prop) → Prop) (c_ref2_Arena_Do : Option Addr → Den klaw21Move → Heap → (Den kapiEffect → Heap → Prop) → Prop) (m1 : Option Addr) (k2 : Int) (x3 : Den klaw21Move) (Q : Den kapiEffect → Heap → Prop) (s64 : (Bool × Unit)) (h65 : Heap) : Prop :=
    ((s64.1 = true →
    Q (0, (false, (23, ()))) h65) ∧
    (s64.1 = false →
    ref21_Memory_Do.j4 c_ref21_Memory_Drain c_ref21_Memory_refused c_ref21_Memory_Flush c_ref2_Arena_Do m1 k2 x3 Q ((0, (false, (0, ()))), ()) h65))
def ref21_Memory_Do.M (c_ref21_Memory_Drain : Option Addr → Int → Heap → (Unit → Heap → Prop) → Prop) (c_ref21_Memory_refused : Option Addr → Den klaw21Move → Heap → (Int → Heap → Prop) → Prop) (c_ref21_Memory_Flush : Option Addr → Int → Heap → (Bool → Heap → Prop) → Prop) (c_ref2_Arena_Do : Option Addr → Den klaw21Move → Heap → (Den kapiEffect → Heap → Prop) → Prop) (m1 : Option Addr) (k2 : Int) (x3 : Den klaw21Move) (h4 : Heap) (Q : Den kapiEffect → Heap → Prop) : Prop :=
    (((decide (x3.2.1 < 0)) = true →
    ref21_Memory_Do.j5 c_ref21_Memory_Drain c_ref21_Memory_refused c_ref21_Memory_Flush c_ref2_Arena_Do m1 k2 x3 Q (true, ()) h4) ∧
    ((decide (x3.2.1 < 0)) = false →
    ref21_Memory_Do.j5 c_ref21_Memory_Drain c_ref21_Memory_refused c_ref21_Memory_Flush c_ref2_Arena_Do m1 k2 x3 Q ((decide ((5 : Int) < x3.2.1)), ()) h4))
def ref21_Memory_Do.mk : Mk := (.s (.r [0, 1]) (.j [.box 6 kapiEffect] (.j [.slot 17 .bool] .d (.c (.s .d .d) .d)) (.s (.s .d (.c (.s .d (.s .d .d)) .d)) (.s .d (.s (.s .d (.c (.s .d .d) .d)) (.j [.box 6 kapiEffect] (.s .d (.b (.s .d (.c (.s .d (.b (.l [.slot 8 (.int .i64), .box 6 kapiEffect] (.s (.s .d (.c .d .d)) (.s (.b (.s (.q [] [] [.p 0, .p 1, .p 2, .p 4, .p 7, .p 11, .w 3 [3, 5, 6, 8, 9, 10, 13], .p 5, .w 6 [6, 8, 9, 10, 13], .p 8, .p 9, .w 10 [10, 13], .w 12 [12, 13], .p 13]) (.c (.s .d .d) .d))) .d))))) (.s .d (.c (.j [] (.s (.q [] [] [.p 0, .p 1, .p 2, .p 4, .p 8, .p 9, .p 10, .w 3 [3, 5, 6, 7, 12], .p 5, .w 6 [6, 7, 12], .p 7, .w 11 [11, 12], .p 12]) (.c .d .d)) (.s (.q [] [] [.p 0, .p 1, .p 2, .p 4, .p 5, .p 6, .p 7, .p 9, .p 12, .p 14, .w 3 [3, 19, 20], .w 8 [8, 10, 11, 18, 19, 20], .p 10, .w 11 [11, 18, 19, 20], .w 13 [13, 16, 17, 18, 19, 20], .w 15 [15, 16, 17, 18, 19, 20], .p 16, .o 17, .o 18, .p 19, .o 20]) (.s .d .d))) .d)))))) (.s .d (.s (.q [6] [9] [.p 0, .p 1, .p 2, .w 3 [3, 5, 7], .w 4 [4, 5, 7], .o 5, .a 6, .o 7]) (.s .d .d)))))))))

def ref21_Memory_Drain.j1 (c_ref21_Memory_Flush : Option Addr → Int → Heap → (Bool → Heap → Prop) → Prop) (m1 : Option Addr) (k2 : Int) (go6 : Unit → Heap → Prop) (s7 : Unit) (h8 : Heap) : Prop :=
    c_ref21_Memory_Flush m1 k2 h8 fun r9 h10 =>
    go6 () h10
def ref21_Memory_Drain.j2 (c_ref21_Memory_Flush : Option Addr → Int → Heap → (Bool → Heap → Prop) → Prop) (m1 : Option Addr) (k2 : Int) (Q : Unit → Heap → Prop) (go6 : Unit → Heap → Prop) (s11 : (Bool × Unit)) (h12 : Heap) : Prop :=
    ((s11.1 = true →
    ref21_Memory_Drain.j1 c_ref21_Memory_Flush m1 k2 go6 () h12) ∧
    (s11.1 = false →
    Q () h12))
def ref21_Memory_Drain.l3 (c_ref21_Memory_Flush : Option Addr → Int → Heap → (Bool → Heap → Prop) → Prop) (m1 : Option Addr) (k2 : Int) (Q : Unit → Heap → Prop) (go6 : Unit → Heap → Prop) (s4 : Unit) (h5 : Heap) : Prop :=
    (((decide ((0 : Int) ≤ k2)) = true →
    deref m1 fun a13 =>
    ld (.sl : Kd) h5 (a13.add 2) fun t14 =>
    (((decide (k2 < (t14.len : Int))) = true →
    deref m1 fun a15 =>
    ld (.sl : Kd) h5 (a15.add 2) fun t16 =>
    (0 ≤ k2 ∧ k2 < (t16.len : Int)) ∧
    deref t16.a fun a17 =>
    ld (.sl : Kd) h5 (a17.add ((k2 : Int).toNat * 1)) fun t18 =>
    ref21_Memory_Drain.j2 c_ref21_Memory_Flush m1 k2 Q go6 ((decide ((0 : Int) < (t18.len : Int))), ()) h5) ∧
    ((decide (k2 < (t14.len : Int))) = false →
    ref21_Memory_Drain.j2 c_ref21_Memory_Flush m1 k2 Q go6 (false, ()) h5))) ∧
    ((decide ((0 : Int) ≤ k2)) = false →
    ref21_Memory_Drain.j2 c_ref21_Memory_Flush m1 k2 Q go6 (false, ()) h5))
def ref21_Memory_Drain.M (c_ref21_Memory_Flush : Option Addr → Int → Heap → (Bool → Heap → Prop) → Prop) (m1 : Option Addr) (k2 : Int) (h3 : Heap) (Q : Unit → Heap → Prop) : Prop :=
    Loop (ref21_Memory_Drain.l3 c_ref21_Memory_Flush m1 k2 Q) () h3
def ref21_Memory_Drain.mk : Mk := (.b (.l [] (.j [] (.j [.slot 25 .bool] .d (.c .d .d)) (.b .d))))

def ref21_Memory_Flush.l1 (c_ref2_Arena_Do : Option Addr → Den klaw21Move → Heap → (Den kapiEffect → Heap → Prop) → Prop) (m1 : Option Addr) (k2 : Int) (Q : Bool → Heap → Prop) (t11 : Den kapiWait) (go14 : (Sl × (Int × Unit)) → Heap → Prop) (s12 : (Sl × (Int × Unit))) (h13 : Heap) : Prop :=
    deref m1 fun a15 =>
    ld (.sl : Kd) h13 (a15.add 2) fun t16 =>
    (0 ≤ k2 ∧ k2 < (t16.len : Int)) ∧
    deref t16.a fun a17 =>
    ld (.sl : Kd) h13 (a17.add ((k2 : Int).toNat * 1)) fun t18 =>
    (((decide (s12.2.1 < (t18.len : Int))) = true →
    deref m1 fun a19 =>
    ld (.sl : Kd) h13 (a19.add 2) fun t20 =>
    (0 ≤ k2 ∧ k2 < (t20.len : Int)) ∧
    deref t20.a fun a21 =>
    ld (.sl : Kd) h13 (a21.add ((k2 : Int).toNat * 1)) fun t22 =>
    (0 ≤ s12.2.1 ∧ s12.2.1 < (t22.len : Int)) ∧
    deref t22.a fun a23 =>
    ld kapiWait h13 (a23.add ((s12.2.1 : Int).toNat * 2)) fun t24 =>
    new h13 (([t24] : List (Den kapiWait)).flatMap (Kd.cells kapiWait)) fun p25 h26 =>
    appendM 2 16 h26 s12.1 ⟨some p25, 1, 1⟩ fun t27 h28 =>
    go14 (t27, (w64 (s12.2.1 + 1)), ()) h28) ∧
    ((decide (s12.2.1 < (t18.len : Int))) = false →
    deref m1 fun a29 =>
    ld (.sl : Kd) h13 (a29.add 2) fun t30 =>
    (0 ≤ k2 ∧ k2 < (t30.len : Int)) ∧
    deref t30.a fun a31 =>
    st (.sl : Kd) h13 (a31.add ((k2 : Int).toNat * 1)) s12.1 fun h32 =>
    deref m1 fun a33 =>
    ld (.ptr : Kd) h32 (a33.add 0) fun t34 =>
    deref t34 fun a35 =>
    st ((.int .i64) : Kd) h32 (a35.add 3) k2 fun h36 =>
    deref m1 fun a37 =>
    ld (.ptr : Kd) h36 (a37.add 0) fun t38 =>
    c_ref2_Arena_Do t38 (0, (1, (t11.1, (t11.2.1, (0, ()))))) h36 fun r39 h40 =>
    Q true h40))
def ref21_Memory_Flush.j2 (c_ref2_Arena_Do : Option Addr → Den klaw21Move → Heap → (Den kapiEffect → Heap → Prop) → Prop) (m1 : Option Addr) (k2 : Int) (Q : Bool → Heap → Prop) (s4 : Unit) (h5 : Heap) : Prop :=
    deref m1 fun a6 =>
    ld (.sl : Kd) h5 (a6.add 2) fun t7 =>
    (0 ≤ k2 ∧ k2 < (t7.len : Int)) ∧
    deref t7.a fun a8 =>
    ld (.sl : Kd) h5 (a8.add ((k2 : Int).toNat * 1)) fun t9 =>
    (0 ≤ (0 : Int) ∧ (0 : Int) < (t9.len : Int)) ∧
    deref t9.a fun a10 =>
    ld kapiWait h5 (a10.add (((0 : Int) : Int).toNat * 2)) fun t11 =>
    Loop (ref21_Memory_Flush.l1 c_ref2_Arena_Do m1 k2 Q t11) (⟨none, 0, 0⟩, 1, ()) h5
def ref21_Memory_Flush.j3 (c_ref2_Arena_Do : Option Addr → Den klaw21Move → Heap → (Den kapiEffect → Heap → Prop) → Prop) (m1 : Option Addr) (k2 : Int) (Q : Bool → Heap → Prop) (s41 : (Bool × Unit)) (h42 : Heap) : Prop :=
    ((s41.1 = true →
    Q false h42) ∧
    (s41.1 = false →
    ref21_Memory_Flush.j2 c_ref2_Arena_Do m1 k2 Q () h42))
def ref21_Memory_Flush.M (c_ref2_Arena_Do : Option Addr → Den klaw21Move → Heap → (Den kapiEffect → Heap → Prop) → Prop) (m1 : Option Addr) (k2 : Int) (h3 : Heap) (Q : Bool → Heap → Prop) : Prop :=
    (((decide (k2 < 0)) = true →
    ref21_Memory_Flush.j3 c_ref2_Arena_Do m1 k2 Q (true, ()) h3) ∧
    ((decide (k2 < 0)) = false →
    deref m1 fun a43 =>
    ld (.sl : Kd) h3 (a43.add 2) fun t44 =>
    (((decide ((t44.len : Int) ≤ k2)) = true →
    ref21_Memory_Flush.j3 c_ref2_Arena_Do m1 k2 Q (true, ()) h3) ∧
    ((decide ((t44.len : Int) ≤ k2)) = false →
    deref m1 fun a45 =>
    ld (.sl : Kd) h3 (a45.add 2) fun t46 =>
    (0 ≤ k2 ∧ k2 < (t46.len : Int)) ∧
    deref t46.a fun a47 =>
    ld (.sl : Kd) h3 (a47.add ((k2 : Int).toNat * 1)) fun t48 =>
    ref21_Memory_Flush.j3 c_ref2_Arena_Do m1 k2 Q ((decide ((t48.len : Int) = 0)), ()) h3))))
def ref21_Memory_Flush.mk : Mk := (.s .d (.j [] (.j [.slot 29 .bool] .d (.c (.s .d .d) .d)) (.s (.r [9]) (.s .d (.s (.s .d (.b (.l [.slot 6 .sl, .slot 7 (.int .i64)] (.s (.s .d (.c .d .d)) (.s (.b .d) .d))))) (.s .d (.s .d (.s (.q [] [] [.p 0, .p 1, .p 2, .p 4, .p 6, .w 3 [3, 9], .w 5 [5, 8, 9], .w 7 [7, 8, 9], .p 8, .o 9]) (.s .d .d)))))))))

def cells_Arena_Cells.M  (a1 : Option Addr) (h2 : Heap) (Q : Sl → Heap → Prop) : Prop :=
    (((Option.isNone a1) = true →
    Q ⟨none, 0, 0⟩ h2) ∧
    ((Option.isNone a1) = false →
    deref a1 fun a3 =>
    ld (.sl : Kd) h2 (a3.add 2) fun t4 =>
    makeM ((.int .i64) : Kd) 8 h2 (t4.len : Int) (t4.len : Int) fun s5 h6 =>
    deref a1 fun a7 =>
    ld (.sl : Kd) h6 (a7.add 2) fun t8 =>
    copyM 1 h6 s5 t8 fun n9 h10 =>
    Q s5 h10))
def cells_Arena_Cells.mk : Mk := (.s .d (.s (.s .d (.c (.s .d .d) .d)) (.s .d (.s .d (.s .d .d)))))

def cells_Arena_Log.M  (a1 : Option Addr) (h2 : Heap) (Q : Sl → Heap → Prop) : Prop :=
    (((Option.isNone a1) = true →
    Q ⟨none, 0, 0⟩ h2) ∧
    ((Option.isNone a1) = false →
    deref a1 fun a3 =>
    ld (.sl : Kd) h2 (a3.add 3) fun t4 =>
    makeM kapiAccess 48 h2 (t4.len : Int) (t4.len : Int) fun s5 h6 =>
    deref a1 fun a7 =>
    ld (.sl : Kd) h6 (a7.add 3) fun t8 =>
    copyM 6 h6 s5 t8 fun n9 h10 =>
    Q s5 h10))
def cells_Arena_Log.mk : Mk := (.s .d (.s (.s .d (.c (.s .d .d) .d)) (.s .d (.s .d (.s .d .d)))))

def ref21_Refuses.l1 (lists4 : Sl) (picks5 : Sl) (Q : Int → Heap → Prop) (go13 : (Int × Unit) → Heap → Prop) (s11 : (Int × Unit)) (h12 : Heap) : Prop :=
    (((decide (s11.1 < (lists4.len : Int))) = true →
    (0 ≤ s11.1 ∧ s11.1 < (lists4.len : Int)) ∧
    deref lists4.a fun a14 =>
    ld (.sl : Kd) h12 (a14.add ((s11.1 : Int).toNat * 1)) fun t15 =>
    (((decide ((4096 : Int) < (t15.len : Int))) = true →
    Q 2 h12) ∧
    ((decide ((4096 : Int) < (t15.len : Int))) = false →
    go13 ((w64 (s11.1 + 1)), ()) h12))) ∧
    ((decide (s11.1 < (lists4.len : Int))) = false →
    (((decide ((1048576 : Int) < (picks5.len : Int))) = true →
    Q 2 h12) ∧
    ((decide ((1048576 : Int) < (picks5.len : Int))) = false →
    Q 0 h12))))
def ref21_Refuses.j2 (lists4 : Sl) (picks5 : Sl) (Q : Int → Heap → Prop) (s9 : Unit) (h10 : Heap) : Prop :=
    Loop (ref21_Refuses.l1 lists4 picks5 Q) (0, ()) h10
def ref21_Refuses.j3 (lists4 : Sl) (picks5 : Sl) (Q : Int → Heap → Prop) (s16 : (Bool × Unit)) (h17 : Heap) : Prop :=
    ((s16.1 = true →
    Q 210 h17) ∧
    (s16.1 = false →
    ref21_Refuses.j2 lists4 picks5 Q () h17))
def ref21_Refuses.j4 (room3 : Int) (lists4 : Sl) (picks5 : Sl) (Q : Int → Heap → Prop) (s7 : Unit) (h8 : Heap) : Prop :=
    (((decide ((lists4.len : Int) < 1)) = true →
    ref21_Refuses.j3 lists4 picks5 Q (true, ()) h8) ∧
    ((decide ((lists4.len : Int) < 1)) = false →
    (((decide ((8 : Int) < (lists4.len : Int))) = true →
    ref21_Refuses.j3 lists4 picks5 Q (true, ()) h8) ∧
    ((decide ((8 : Int) < (lists4.len : Int))) = false →
    (((decide (room3 < 1)) = true →
    ref21_Refuses.j3 lists4 picks5 Q (true, ()) h8) ∧
    ((decide (room3 < 1)) = false →
    ref21_Refuses.j3 lists4 picks5 Q ((decide ((64 : Int) < room3)), ()) h8))))))
def ref21_Refuses.j5 (room3 : Int) (lists4 : Sl) (picks5 : Sl) (Q : Int → Heap → Prop) (s18 : (Bool × Unit)) (h19 : Heap) : Prop :=
    ((s18.1 = true →
    Q 3 h19) ∧
    (s18.1 = false →
    ref21_Refuses.j4 room3 lists4 picks5 Q () h19))
def ref21_Refuses.M  (size1 : Int) (used2 : Int) (room3 : Int) (lists4 : Sl) (picks5 : Sl) (h6 : Heap) (Q : Int → Heap → Prop) : Prop :=
    (((decide (size1 < 0)) = true →
    ref21_Refuses.j5 room3 lists4 picks5 Q (true, ()) h6) ∧
    ((decide (size1 < 0)) = false →
    (((decide ((1048576 : Int) < size1)) = true →
    ref21_Refuses.j5 room3 lists4 picks5 Q (true, ()) h6) ∧
    ((decide ((1048576 : Int) < size1)) = false →
    (((decide (used2 < 0)) = true →
    ref21_Refuses.j5 room3 lists4 picks5 Q (true, ()) h6) ∧
    ((decide (used2 < 0)) = false →
    ref21_Refuses.j5 room3 lists4 picks5 Q ((decide (size1 < used2)), ()) h6))))))
def ref21_Refuses.mk : Mk := (.s .d (.j [] (.j [.slot 26 .bool] .d (.c (.s .d .d) .d)) (.j [] (.j [.slot 42 .bool] .d (.c (.s .d .d) .d)) (.s (.s .d (.b (.l [.slot 11 (.int .i64)] (.s (.s .d (.c .d .d)) (.s (.b (.s .d (.c (.s .d .d) .d))) .d))))) (.s (.s .d (.c (.s .d .d) .d)) (.s .d .d))))))

def ref21_using.M (c_ref21_New : Int → Int → Int → Heap → (Den kbuffersplace → Heap → Prop) → Prop) (size1 : Int) (used2 : Int) (actors3 : Int) (room4 : Int) (h5 : Heap) (Q : Option Addr → Heap → Prop) : Prop :=
    c_ref21_New size1 actors3 room4 h5 fun r6 h7 =>
    deref r6.1 fun a8 =>
    ld (.ptr : Kd) h7 (a8.add 0) fun t9 =>
    makeM ((.int .i64) : Kd) 8 h7 used2 used2 fun s10 h11 =>
    deref t9 fun a12 =>
    st (.sl : Kd) h11 (a12.add 1) s10 fun h13 =>
    Q r6.1 h13
def ref21_using.mk : Mk := (.s .d (.s .d (.s (.q [] [] [.p 0, .p 1, .p 2, .p 4, .w 3 [3, 6, 7, 8], .o 5, .p 6, .p 7, .o 8]) (.s .d .d))))

def ref21_mod.j1 (Q : Int → Heap → Prop) (s4 : (Int × Unit)) (h5 : Heap) : Prop :=
    Q s4.1 h5
def ref21_mod.M  (x1 : Int) (n2 : Int) (h3 : Heap) (Q : Int → Heap → Prop) : Prop :=
    n2 ≠ 0 ∧
    (((decide ((Int.tmod x1 n2) < 0)) = true →
    ref21_mod.j1 Q ((w64 ((Int.tmod x1 n2) + n2)), ()) h3) ∧
    ((decide ((Int.tmod x1 n2) < 0)) = false →
    ref21_mod.j1 Q ((Int.tmod x1 n2), ()) h3))
def ref21_mod.mk : Mk := (.s .d (.s .d (.j [.slot 5 (.int .i64)] (.s .d (.c .d .d)) (.s .d .d))))

def law21_odd.M  (i1 : Int) (h2 : Heap) (Q : Den klaw21Move → Heap → Prop) : Prop :=
    Q ((w64 (0 - i1)), ((w64 (70 + i1)), ((-3), (1, (2, ()))))) h2
def law21_odd.mk : Mk := (.s (.r [0]) (.s .d .d))

def buffers_judged.l1 (lists4 : Sl) (Q : Int → Heap → Prop) (go11 : (Int × Unit) → Heap → Prop) (s9 : (Int × Unit)) (h10 : Heap) : Prop :=
    (((decide (s9.1 < (lists4.len : Int))) = true →
    (0 ≤ s9.1 ∧ s9.1 < (lists4.len : Int)) ∧
    deref lists4.a fun a12 =>
    ld (.sl : Kd) h10 (a12.add ((s9.1 : Int).toNat * 1)) fun t13 =>
    (((decide ((4096 : Int) < (t13.len : Int))) = true →
    Q 2 h10) ∧
    ((decide ((4096 : Int) < (t13.len : Int))) = false →
    go11 ((w64 (s9.1 + 1)), ()) h10))) ∧
    ((decide (s9.1 < (lists4.len : Int))) = false →
    Q 0 h10))
def buffers_judged.j2 (lists4 : Sl) (Q : Int → Heap → Prop) (s7 : Unit) (h8 : Heap) : Prop :=
    Loop (buffers_judged.l1 lists4 Q) (0, ()) h8
def buffers_judged.j3 (lists4 : Sl) (picks5 : Sl) (Q : Int → Heap → Prop) (s16 : (Bool × Unit)) (h17 : Heap) : Prop :=
    ((s16.1 = true →
    Q 210 h17) ∧
    (s16.1 = false →
    (((decide ((1048576 : Int) < (picks5.len : Int))) = true →
    Q 2 h17) ∧
    ((decide ((1048576 : Int) < (picks5.len : Int))) = false →
    buffers_judged.j2 lists4 Q () h17))))
def buffers_judged.j4 (room3 : Int) (lists4 : Sl) (picks5 : Sl) (Q : Int → Heap → Prop) (s14 : (Bool × Unit)) (h15 : Heap) : Prop :=
    ((s14.1 = true →
    Q 3 h15) ∧
    (s14.1 = false →
    (((decide ((lists4.len : Int) < 1)) = true →
    buffers_judged.j3 lists4 picks5 Q (true, ()) h15) ∧
    ((decide ((lists4.len : Int) < 1)) = false →
    (((decide ((8 : Int) < (lists4.len : Int))) = true →
    buffers_judged.j3 lists4 picks5 Q (true, ()) h15) ∧
    ((decide ((8 : Int) < (lists4.len : Int))) = false →
    (((decide (room3 < 1)) = true →
    buffers_judged.j3 lists4 picks5 Q (true, ()) h15) ∧
    ((decide (room3 < 1)) = false →
    buffers_judged.j3 lists4 picks5 Q ((decide ((64 : Int) < room3)), ()) h15))))))))
def buffers_judged.M  (size1 : Int) (used2 : Int) (room3 : Int) (lists4 : Sl) (picks5 : Sl) (h6 : Heap) (Q : Int → Heap → Prop) : Prop :=
    (((decide (size1 < 0)) = true →
    buffers_judged.j4 room3 lists4 picks5 Q (true, ()) h6) ∧
    ((decide (size1 < 0)) = false →
    (((decide ((1048576 : Int) < size1)) = true →
    buffers_judged.j4 room3 lists4 picks5 Q (true, ()) h6) ∧
    ((decide ((1048576 : Int) < size1)) = false →
    (((decide (used2 < 0)) = true →
    buffers_judged.j4 room3 lists4 picks5 Q (true, ()) h6) ∧
    ((decide (used2 < 0)) = false →
    buffers_judged.j4 room3 lists4 picks5 Q ((decide (size1 < used2)), ()) h6))))))
def buffers_judged.mk : Mk := (.s .d (.j [] (.b (.j [.slot 13 .bool] .d (.c (.s .d .d) (.j [.slot 29 .bool] .d (.c (.s .d .d) (.s .d (.c (.s .d .d) .d))))))) (.s (.s .d (.b (.l [.slot 52 (.int .i64)] (.s .d (.s (.c .d .d) (.s (.b (.s .d (.s .d (.c (.s .d .d) .d)))) .d)))))) (.s .d .d))))

def buffers_Memory_use.M (c_cells_Arena_Watch : Option Addr → Bool → Heap → (Unit → Heap → Prop) → Prop) (c_cells_Arena_Reserve : Option Addr → Int → Heap → (Den kapiWait → Heap → Prop) → Prop) (m1 : Option Addr) (n2 : Int) (h3 : Heap) (Q : Unit → Heap → Prop) : Prop :=
    deref m1 fun a4 =>
    ld (.ptr : Kd) h3 (a4.add 0) fun t5 =>
    c_cells_Arena_Watch t5 false h3 fun r6 h7 =>
    deref m1 fun a8 =>
    ld (.ptr : Kd) h7 (a8.add 0) fun t9 =>
    c_cells_Arena_Reserve t9 n2 h7 fun r10 h11 =>
    deref m1 fun a12 =>
    ld (.ptr : Kd) h11 (a12.add 0) fun t13 =>
    c_cells_Arena_Watch t13 true h11 fun r14 h15 =>
    Q () h15
def buffers_Memory_use.mk : Mk := (.s .d (.s .d .d))

def ops_Mod.j1 (Q : Int → Heap → Prop) (s4 : (Int × Unit)) (h5 : Heap) : Prop :=
    Q s4.1 h5
def ops_Mod.M  (x1 : Int) (n2 : Int) (h3 : Heap) (Q : Int → Heap → Prop) : Prop :=
    (((decide (n2 < 1)) = true →
    Q 0 h3) ∧
    ((decide (n2 < 1)) = false →
    n2 ≠ 0 ∧
    (((decide ((Int.tmod x1 n2) < 0)) = true →
    ops_Mod.j1 Q ((w64 ((Int.tmod x1 n2) + n2)), ()) h3) ∧
    ((decide ((Int.tmod x1 n2) < 0)) = false →
    ops_Mod.j1 Q ((Int.tmod x1 n2), ()) h3))))
def ops_Mod.mk : Mk := (.s .d (.s (.s .d (.c (.s .d .d) .d)) (.s .d (.j [.slot 5 (.int .i64)] (.s .d (.c .d .d)) (.s .d .d)))))

def buffers_View_act.j1 (Q : Den kapiEffect → Heap → Prop) (s4 : (Den kapiEffect × (Den kapiEffect × Unit))) (h5 : Heap) : Prop :=
    Q (s4.2.1.1, ((decide (s4.2.1.2.2.1 = 0)), (s4.2.1.2.2.1, ()))) h5
def buffers_View_act.M (c_buffers_View_Load : Option Addr → Int → Heap → (Den kapiWait → Heap → Prop) → Prop) (c_buffers_View_Store : Option Addr → Int → Int → Heap → (Int → Heap → Prop) → Prop) (c_buffers_View_CAS : Option Addr → Int → Int → Int → Heap → ((Bool × (Int × Unit)) → Heap → Prop) → Prop) (c_buffers_View_Add : Option Addr → Int → Int → Heap → (Den kapiWait → Heap → Prop) → Prop) (c_buffers_View_Reserve : Option Addr → Int → Heap → (Den kapiWait → Heap → Prop) → Prop) (c_buffers_View_Fence : Option Addr → Heap → (Unit → Heap → Prop) → Prop) (v1 : Option Addr) (t2 : Den klaw21Move) (h3 : Heap) (Q : Den kapiEffect → Heap → Prop) : Prop :=
    (((decide (t2.2.1 = 0)) = true →
    c_buffers_View_Load v1 t2.2.2.1 h3 fun r6 h7 =>
    buffers_View_act.j1 Q ((0, (false, (0, ()))), (r6.1, (false, (r6.2.1, ()))), ()) h7) ∧
    ((decide (t2.2.1 = 0)) = false →
    (((decide (t2.2.1 = 1)) = true →
    c_buffers_View_Store v1 t2.2.2.1 t2.2.2.2.1 h3 fun r8 h9 =>
    buffers_View_act.j1 Q ((0, (false, (0, ()))), (0, (false, (r8, ()))), ()) h9) ∧
    ((decide (t2.2.1 = 1)) = false →
    (((decide (t2.2.1 = 2)) = true →
    c_buffers_View_CAS v1 t2.2.2.1 t2.2.2.2.1 t2.2.2.2.2.1 h3 fun r10 h11 =>
    Q (0, (r10.1, (r10.2.1, ()))) h11) ∧
    ((decide (t2.2.1 = 2)) = false →
    (((decide (t2.2.1 = 3)) = true →
    c_buffers_View_Add v1 t2.2.2.1 t2.2.2.2.1 h3 fun r12 h13 =>
    buffers_View_act.j1 Q ((0, (false, (0, ()))), (r12.1, (false, (r12.2.1, ()))), ()) h13) ∧
    ((decide (t2.2.1 = 3)) = false →
    (((decide (t2.2.1 = 4)) = true →
    c_buffers_View_Reserve v1 t2.2.2.2.1 h3 fun r14 h15 =>
    buffers_View_act.j1 Q ((0, (false, (0, ()))), (r14.1, (false, (r14.2.1, ()))), ()) h15) ∧
    ((decide (t2.2.1 = 4)) = false →
    (((decide (t2.2.1 = 5)) = true →
    c_buffers_View_Fence v1 h3 fun r16 h17 =>
    buffers_View_act.j1 Q ((0, (false, (0, ()))), (0, (false, (0, ()))), ()) h17) ∧
    ((decide (t2.2.1 = 5)) = false →
    buffers_View_act.j1 Q ((0, (false, (0, ()))), (0, (false, (23, ()))), ()) h3))))))))))))
def buffers_View_act.mk : Mk := (.s (.r [0, 1]) (.s (.r [0]) (.j [.box 4 kapiEffect, .box 5 kapiEffect] (.s .d (.b (.s .d (.c .d (.s .d (.c .d (.s .d (.c (.s .d (.s .d .d)) (.s .d (.c .d (.s .d (.c (.s .d (.s .d .d)) (.s .d (.c .d .d)))))))))))))) (.s .d (.s .d .d)))))

def law21_sameEffects.l1 (a1 : Sl) (b2 : Sl) (Q : Bool → Heap → Prop) (go6 : (Int × Unit) → Heap → Prop) (s4 : (Int × Unit)) (h5 : Heap) : Prop :=
    (((decide (s4.1 < (a1.len : Int))) = true →
    (0 ≤ s4.1 ∧ s4.1 < (a1.len : Int)) ∧
    deref a1.a fun a7 =>
    (0 ≤ s4.1 ∧ s4.1 < (b2.len : Int)) ∧
    deref b2.a fun a8 =>
    ld kapiEffect h5 (a7.add ((s4.1 : Int).toNat * 3)) fun t9 =>
    ld kapiEffect h5 (a8.add ((s4.1 : Int).toNat * 3)) fun t10 =>
    (((!(eqK kapiEffect t9 t10)) = true →
    Q false h5) ∧
    ((!(eqK kapiEffect t9 t10)) = false →
    go6 ((w64 (s4.1 + 1)), ()) h5))) ∧
    ((decide (s4.1 < (a1.len : Int))) = false →
    Q true h5))
def law21_sameEffects.M  (a1 : Sl) (b2 : Sl) (h3 : Heap) (Q : Bool → Heap → Prop) : Prop :=
    (((decide ((a1.len : Int) ≠ (b2.len : Int))) = true →
    Q false h3) ∧
    ((decide ((a1.len : Int) ≠ (b2.len : Int))) = false →
    Loop (law21_sameEffects.l1 a1 b2 Q) (0, ()) h3))
def law21_sameEffects.mk : Mk := (.s .d (.s (.s .d (.c (.s .d .d) .d)) (.s (.s .d (.b (.l [.slot 5 (.int .i64)] (.s (.s .d (.c .d .d)) (.s (.b (.s (.q [] [] [.p 0, .p 1, .p 2, .p 4, .p 5, .p 6, .w 3 [3, 8], .w 7 [7, 8], .p 8]) (.c (.s .d .d) .d))) .d))))) (.s .d .d))))

def law21_sameActs.l1 (a1 : Sl) (b2 : Sl) (Q : Bool → Heap → Prop) (go6 : (Int × Unit) → Heap → Prop) (s4 : (Int × Unit)) (h5 : Heap) : Prop :=
    (((decide (s4.1 < (a1.len : Int))) = true →
    (0 ≤ s4.1 ∧ s4.1 < (a1.len : Int)) ∧
    deref a1.a fun a7 =>
    (0 ≤ s4.1 ∧ s4.1 < (b2.len : Int)) ∧
    deref b2.a fun a8 =>
    ld klaw21Move h5 (a7.add ((s4.1 : Int).toNat * 5)) fun t9 =>
    ld klaw21Move h5 (a8.add ((s4.1 : Int).toNat * 5)) fun t10 =>
    (((!(eqK klaw21Move t9 t10)) = true →
    Q false h5) ∧
    ((!(eqK klaw21Move t9 t10)) = false →
    go6 ((w64 (s4.1 + 1)), ()) h5))) ∧
    ((decide (s4.1 < (a1.len : Int))) = false →
    Q true h5))
def law21_sameActs.M  (a1 : Sl) (b2 : Sl) (h3 : Heap) (Q : Bool → Heap → Prop) : Prop :=
    (((decide ((a1.len : Int) ≠ (b2.len : Int))) = true →
    Q false h3) ∧
    ((decide ((a1.len : Int) ≠ (b2.len : Int))) = false →
    Loop (law21_sameActs.l1 a1 b2 Q) (0, ()) h3))
def law21_sameActs.mk : Mk := (.s .d (.s (.s .d (.c (.s .d .d) .d)) (.s (.s .d (.b (.l [.slot 5 (.int .i64)] (.s (.s .d (.c .d .d)) (.s (.b (.s (.q [] [] [.p 0, .p 1, .p 2, .p 4, .p 5, .p 6, .w 3 [3, 8], .w 7 [7, 8], .p 8]) (.c (.s .d .d) .d))) .d))))) (.s .d .d))))

def law21_turned.l1 (lists1 : Sl) (go5 : (Sl × (Int × Unit)) → Heap → Prop) (s3 : (Sl × (Int × Unit))) (go10 : (Sl × (Int × Unit)) → Heap → Prop) (s8 : (Sl × (Int × Unit))) (h9 : Heap) : Prop :=
    (((decide ((0 : Int) ≤ s8.2.1)) = true →
    (0 ≤ s3.2.1 ∧ s3.2.1 < (lists1.len : Int)) ∧
    deref lists1.a fun a11 =>
    ld (.sl : Kd) h9 (a11.add ((s3.2.1 : Int).toNat * 1)) fun t12 =>
    (0 ≤ s8.2.1 ∧ s8.2.1 < (t12.len : Int)) ∧
    deref t12.a fun a13 =>
    ld klaw21Move h9 (a13.add ((s8.2.1 : Int).toNat * 5)) fun t14 =>
    new h9 (([(t14.1, (t14.2.1, (t14.2.2.1, ((w64 (t14.2.2.2.1 + 1)), (t14.2.2.2.2.1, ())))))] : List (Den klaw21Move)).flatMap (Kd.cells klaw21Move)) fun p15 h16 =>
    appendM 5 40 h16 s8.1 ⟨some p15, 1, 1⟩ fun t17 h18 =>
    go10 (t17, (w64 (s8.2.1 - 1)), ()) h18) ∧
    ((decide ((0 : Int) ≤ s8.2.1)) = false →
    new h9 (([s8.1] : List (Den (.sl : Kd))).flatMap (Kd.cells (.sl : Kd))) fun p19 h20 =>
    appendM 1 24 h20 s3.1 ⟨some p19, 1, 1⟩ fun t21 h22 =>
    go5 (t21, (w64 (s3.2.1 + 1)), ()) h22))
def law21_turned.l2 (lists1 : Sl) (Q : Sl → Heap → Prop) (go5 : (Sl × (Int × Unit)) → Heap → Prop) (s3 : (Sl × (Int × Unit))) (h4 : Heap) : Prop :=
    (((decide (s3.2.1 < (lists1.len : Int))) = true →
    (0 ≤ s3.2.1 ∧ s3.2.1 < (lists1.len : Int)) ∧
    deref lists1.a fun a6 =>
    ld (.sl : Kd) h4 (a6.add ((s3.2.1 : Int).toNat * 1)) fun t7 =>
    Loop (law21_turned.l1 lists1 go5 s3) (⟨none, 0, 0⟩, (w64 ((t7.len : Int) - 1)), ()) h4) ∧
    ((decide (s3.2.1 < (lists1.len : Int))) = false →
    Q s3.1 h4))
def law21_turned.M  (lists1 : Sl) (h2 : Heap) (Q : Sl → Heap → Prop) : Prop :=
    Loop (law21_turned.l2 lists1 Q) (⟨none, 0, 0⟩, 0, ()) h2
def law21_turned.mk : Mk := (.s .d (.s .d (.s (.s .d (.b (.l [.slot 3 .sl, .slot 4 (.int .i64)] (.s (.s .d (.c .d .d)) (.s (.b (.s .d (.s (.s .d (.b (.l [.slot 5 .sl, .slot 6 (.int .i64)] (.s (.s .d (.c .d .d)) (.s (.b (.s (.r [7]) (.s .d .d))) .d))))) .d))) .d))))) (.s .d .d))))

def law21_around.l1 (l1 : Sl) (Q : Sl → Heap → Prop) (go5 : (Sl × (Int × Unit)) → Heap → Prop) (s3 : (Sl × (Int × Unit))) (h4 : Heap) : Prop :=
    (((decide ((0 : Int) ≤ s3.2.1)) = true →
    (0 ≤ s3.2.1 ∧ s3.2.1 < (l1.len : Int)) ∧
    deref l1.a fun a6 =>
    ld ((.int .i64) : Kd) h4 (a6.add ((s3.2.1 : Int).toNat * 1)) fun t7 =>
    new h4 (([t7] : List (Den ((.int .i64) : Kd))).flatMap (Kd.cells ((.int .i64) : Kd))) fun p8 h9 =>
    appendM 1 8 h9 s3.1 ⟨some p8, 1, 1⟩ fun t10 h11 =>
    go5 (t10, (w64 (s3.2.1 - 1)), ()) h11) ∧
    ((decide ((0 : Int) ≤ s3.2.1)) = false →
    Q s3.1 h4))
def law21_around.M  (l1 : Sl) (h2 : Heap) (Q : Sl → Heap → Prop) : Prop :=
    Loop (law21_around.l1 l1 Q) (⟨none, 0, 0⟩, (w64 ((l1.len : Int) - 1)), ()) h2
def law21_around.mk : Mk := (.s .d (.s .d (.s (.s .d (.b (.l [.slot 3 .sl, .slot 4 (.int .i64)] (.s (.s .d (.c .d .d)) (.s (.b .d) .d))))) (.s .d .d))))

def law21_lay.l1 (to1 : Sl) (lists2 : Sl) (go6 : (Int × Unit) → Heap → Prop) (s4 : (Int × Unit)) (go9 : (Int × Unit) → Heap → Prop) (s7 : (Int × Unit)) (h8 : Heap) : Prop :=
    (0 ≤ s4.1 ∧ s4.1 < (lists2.len : Int)) ∧
    deref lists2.a fun a10 =>
    ld (.sl : Kd) h8 (a10.add ((s4.1 : Int).toNat * 1)) fun t11 =>
    (((decide (s7.1 < (t11.len : Int))) = true →
    (0 ≤ s4.1 ∧ s4.1 < (to1.len : Int)) ∧
    deref to1.a fun a12 =>
    (0 ≤ s4.1 ∧ s4.1 < (lists2.len : Int)) ∧
    deref lists2.a fun a13 =>
    ld (.sl : Kd) h8 (a12.add ((s4.1 : Int).toNat * 1)) fun t14 =>
    ld (.sl : Kd) h8 (a13.add ((s4.1 : Int).toNat * 1)) fun t15 =>
    (0 ≤ s7.1 ∧ s7.1 < (t15.len : Int)) ∧
    deref t15.a fun a16 =>
    ld klaw21Move h8 (a16.add ((s7.1 : Int).toNat * 5)) fun t17 =>
    (0 ≤ s7.1 ∧ s7.1 < (t14.len : Int)) ∧
    deref t14.a fun a18 =>
    st klaw21Move h8 (a18.add ((s7.1 : Int).toNat * 5)) t17 fun h19 =>
    go9 ((w64 (s7.1 + 1)), ()) h19) ∧
    ((decide (s7.1 < (t11.len : Int))) = false →
    go6 ((w64 (s4.1 + 1)), ()) h8))
def law21_lay.l2 (to1 : Sl) (lists2 : Sl) (Q : Unit → Heap → Prop) (go6 : (Int × Unit) → Heap → Prop) (s4 : (Int × Unit)) (h5 : Heap) : Prop :=
    (((decide (s4.1 < (lists2.len : Int))) = true →
    Loop (law21_lay.l1 to1 lists2 go6 s4) (0, ()) h5) ∧
    ((decide (s4.1 < (lists2.len : Int))) = false →
    Q () h5))
def law21_lay.M  (to1 : Sl) (lists2 : Sl) (h3 : Heap) (Q : Unit → Heap → Prop) : Prop :=
    Loop (law21_lay.l2 to1 lists2 Q) (0, ()) h3
def law21_lay.mk : Mk := (.s .d (.b (.l [.slot 4 (.int .i64)] (.s (.s .d (.c .d .d)) (.s (.b (.s .d (.b (.l [.slot 5 (.int .i64)] (.s (.s .d (.c .d .d)) (.s (.b (.q [] [] [.p 0, .p 1, .p 2, .p 4, .p 5, .p 6, .p 7, .p 9, .w 3 [3, 12, 13], .w 8 [8, 10, 11, 12, 13], .p 10, .w 11 [11, 12, 13], .p 12, .o 13])) .d)))))) .d)))))

def buffers_Memory_has.M  (m1 : Option Addr) (actor2 : Int) (h3 : Heap) (Q : Bool → Heap → Prop) : Prop :=
    (((Option.isSome m1) = true →
    (((decide ((0 : Int) ≤ actor2)) = true →
    deref m1 fun a4 =>
    ld ((.int .i64) : Kd) h3 (a4.add 1) fun t5 =>
    Q (decide (actor2 < t5)) h3) ∧
    ((decide ((0 : Int) ≤ actor2)) = false →
    Q false h3))) ∧
    ((Option.isSome m1) = false →
    Q false h3))
def buffers_Memory_has.mk : Mk := (.s .d (.s .d .d))

def cells_Arena_Who.M  (a1 : Option Addr) (actor2 : Int) (h3 : Heap) (Q : Unit → Heap → Prop) : Prop :=
    (((Option.isSome a1) = true →
    deref a1 fun a4 =>
    st ((.int .i64) : Kd) h3 (a4.add 4) actor2 fun h5 =>
    Q () h5) ∧
    ((Option.isSome a1) = false →
    Q () h3))
def cells_Arena_Who.mk : Mk := (.s .d (.c .d .d))

def cells_Arena_Store.M (c_cells_Arena_outside : Option Addr → Int → Heap → (Bool → Heap → Prop) → Prop) (c_cells_Arena_note : Option Addr → Int → Int → Int → Int → Bool → Heap → (Unit → Heap → Prop) → Prop) (a1 : Option Addr) (addr2 : Int) (v3 : Int) (h4 : Heap) (Q : Int → Heap → Prop) : Prop :=
    c_cells_Arena_outside a1 addr2 h4 fun r5 h6 =>
    ((r5 = true →
    Q 20 h6) ∧
    (r5 = false →
    deref a1 fun a7 =>
    ld (.sl : Kd) h6 (a7.add 2) fun t8 =>
    (0 ≤ addr2 ∧ addr2 < (t8.len : Int)) ∧
    deref t8.a fun a9 =>
    st ((.int .i64) : Kd) h6 (a9.add ((addr2 : Int).toNat * 1)) v3 fun h10 =>
    c_cells_Arena_note a1 1 addr2 v3 0 true h10 fun r11 h12 =>
    Q 0 h12))
def cells_Arena_Store.mk : Mk := (.s .d (.s (.s .d (.c (.s .d .d) .d)) (.s .d (.s .d (.s .d .d)))))

def buffers_Memory_drain.l1 (c_buffers_Memory_Flush : Option Addr → Int → Heap → (Bool → Heap → Prop) → Prop) (m1 : Option Addr) (actor2 : Int) (Q : Unit → Heap → Prop) (go6 : Unit → Heap → Prop) (s4 : Unit) (h5 : Heap) : Prop :=
    c_buffers_Memory_Flush m1 actor2 h5 fun r7 h8 =>
    ((r7 = true →
    go6 () h8) ∧
    (r7 = false →
    Q () h8))
def buffers_Memory_drain.M (c_buffers_Memory_Flush : Option Addr → Int → Heap → (Bool → Heap → Prop) → Prop) (m1 : Option Addr) (actor2 : Int) (h3 : Heap) (Q : Unit → Heap → Prop) : Prop :=
    Loop (buffers_Memory_drain.l1 c_buffers_Memory_Flush m1 actor2 Q) () h3
def buffers_Memory_drain.mk : Mk := (.b (.l [] (.s (.s .d (.c .d .d)) (.b .d))))

def buffers_View_none.M (c_cells_Arena_Mark : Option Addr → Heap → (Int → Heap → Prop) → Prop) (v1 : Option Addr) (addr2 : Int) (h3 : Heap) (Q : Bool → Heap → Prop) : Prop :=
    (((Option.isNone v1) = true →
    Q true h3) ∧
    ((Option.isNone v1) = false →
    deref v1 fun a4 =>
    ld (.ptr : Kd) h3 ((a4.add 0).add 0) fun t5 =>
    (((Option.isNone t5) = true →
    Q true h3) ∧
    ((Option.isNone t5) = false →
    (((decide (addr2 < 0)) = true →
    Q true h3) ∧
    ((decide (addr2 < 0)) = false →
    deref v1 fun a6 =>
    ld (.ptr : Kd) h3 ((a6.add 0).add 0) fun t7 =>
    deref t7 fun a8 =>
    ld (.ptr : Kd) h3 (a8.add 0) fun t9 =>
    c_cells_Arena_Mark t9 h3 fun r10 h11 =>
    Q (decide (r10 ≤ addr2)) h11))))))
def buffers_View_none.mk : Mk := (.s .d (.s .d .d))

def buffers_place_cells.M (c_cells_Arena_Who : Option Addr → Int → Heap → (Unit → Heap → Prop) → Prop) (p1 : Den kbuffersplace) (h2 : Heap) (Q : Option Addr → Heap → Prop) : Prop :=
    deref p1.1 fun a3 =>
    ld (.ptr : Kd) h2 (a3.add 0) fun t4 =>
    c_cells_Arena_Who t4 p1.2.1 h2 fun r5 h6 =>
    deref p1.1 fun a7 =>
    ld (.ptr : Kd) h6 (a7.add 0) fun t8 =>
    Q t8 h6
def buffers_place_cells.mk : Mk := (.s (.r [0]) (.s (.q [] [] [.p 0, .p 5, .w 1 [1, 2, 3, 4, 7], .p 2, .p 3, .w 4 [4, 7], .w 6 [6, 7], .o 7]) (.s .d .d)))

def cells_Arena_Load.M (c_cells_Arena_outside : Option Addr → Int → Heap → (Bool → Heap → Prop) → Prop) (c_cells_Arena_note : Option Addr → Int → Int → Int → Int → Bool → Heap → (Unit → Heap → Prop) → Prop) (a1 : Option Addr) (addr2 : Int) (h3 : Heap) (Q : Den kapiWait → Heap → Prop) : Prop :=
    c_cells_Arena_outside a1 addr2 h3 fun r4 h5 =>
    ((r4 = true →
    Q (0, 20, ()) h5) ∧
    (r4 = false →
    deref a1 fun a6 =>
    ld (.sl : Kd) h5 (a6.add 2) fun t7 =>
    (0 ≤ addr2 ∧ addr2 < (t7.len : Int)) ∧
    deref t7.a fun a8 =>
    ld ((.int .i64) : Kd) h5 (a8.add ((addr2 : Int).toNat * 1)) fun t9 =>
    c_cells_Arena_note a1 0 addr2 t9 0 true h5 fun r10 h11 =>
    Q (t9, 0, ()) h11))
def cells_Arena_Load.mk : Mk := (.s .d (.s (.s .d (.c (.s .d .d) .d)) (.s .d (.s .d (.s .d .d)))))

def cells_Arena_CAS.j1 (c_cells_Arena_note : Option Addr → Int → Int → Int → Int → Bool → Heap → (Unit → Heap → Prop) → Prop) (a1 : Option Addr) (addr2 : Int) (old3 : Int) (next4 : Int) (Q : (Bool × (Int × Unit)) → Heap → Prop) (t11 : Int) (s12 : Unit) (h13 : Heap) : Prop :=
    c_cells_Arena_note a1 2 addr2 old3 next4 (decide (t11 = old3)) h13 fun r14 h15 =>
    Q ((decide (t11 = old3)), 0, ()) h15
def cells_Arena_CAS.M (c_cells_Arena_outside : Option Addr → Int → Heap → (Bool → Heap → Prop) → Prop) (c_cells_Arena_note : Option Addr → Int → Int → Int → Int → Bool → Heap → (Unit → Heap → Prop) → Prop) (a1 : Option Addr) (addr2 : Int) (old3 : Int) (next4 : Int) (h5 : Heap) (Q : (Bool × (Int × Unit)) → Heap → Prop) : Prop :=
    c_cells_Arena_outside a1 addr2 h5 fun r6 h7 =>
    ((r6 = true →
    Q (false, 20, ()) h7) ∧
    (r6 = false →
    deref a1 fun a8 =>
    ld (.sl : Kd) h7 (a8.add 2) fun t9 =>
    (0 ≤ addr2 ∧ addr2 < (t9.len : Int)) ∧
    deref t9.a fun a10 =>
    ld ((.int .i64) : Kd) h7 (a10.add ((addr2 : Int).toNat * 1)) fun t11 =>
    (((decide (t11 = old3)) = true →
    deref a1 fun a16 =>
    ld (.sl : Kd) h7 (a16.add 2) fun t17 =>
    (0 ≤ addr2 ∧ addr2 < (t17.len : Int)) ∧
    deref t17.a fun a18 =>
    st ((.int .i64) : Kd) h7 (a18.add ((addr2 : Int).toNat * 1)) next4 fun h19 =>
    cells_Arena_CAS.j1 c_cells_Arena_note a1 addr2 old3 next4 Q t11 () h19) ∧
    ((decide (t11 = old3)) = false →
    cells_Arena_CAS.j1 c_cells_Arena_note a1 addr2 old3 next4 Q t11 () h7))))
def cells_Arena_CAS.mk : Mk := (.s .d (.s (.s .d (.c (.s .d .d) .d)) (.s .d (.j [] (.s .d (.c .d .d)) (.s .d (.s .d .d))))))

def cells_Arena_Add.M (c_cells_Arena_outside : Option Addr → Int → Heap → (Bool → Heap → Prop) → Prop) (c_cells_Arena_note : Option Addr → Int → Int → Int → Int → Bool → Heap → (Unit → Heap → Prop) → Prop) (a1 : Option Addr) (addr2 : Int) (d3 : Int) (h4 : Heap) (Q : Den kapiWait → Heap → Prop) : Prop :=
    c_cells_Arena_outside a1 addr2 h4 fun r5 h6 =>
    ((r5 = true →
    Q (0, 20, ()) h6) ∧
    (r5 = false →
    deref a1 fun a7 =>
    ld (.sl : Kd) h6 (a7.add 2) fun t8 =>
    (0 ≤ addr2 ∧ addr2 < (t8.len : Int)) ∧
    deref t8.a fun a9 =>
    ld ((.int .i64) : Kd) h6 (a9.add ((addr2 : Int).toNat * 1)) fun t10 =>
    (0 ≤ addr2 ∧ addr2 < (t8.len : Int)) ∧
    deref t8.a fun a11 =>
    st ((.int .i64) : Kd) h6 (a11.add ((addr2 : Int).toNat * 1)) (w64 (t10 + d3)) fun h12 =>
    deref a1 fun a13 =>
    ld (.sl : Kd) h12 (a13.add 2) fun t14 =>
    (0 ≤ addr2 ∧ addr2 < (t14.len : Int)) ∧
    deref t14.a fun a15 =>
    ld ((.int .i64) : Kd) h12 (a15.add ((addr2 : Int).toNat * 1)) fun t16 =>
    c_cells_Arena_note a1 3 addr2 d3 t16 true h12 fun r17 h18 =>
    deref a1 fun a19 =>
    ld (.sl : Kd) h18 (a19.add 2) fun t20 =>
    (0 ≤ addr2 ∧ addr2 < (t20.len : Int)) ∧
    deref t20.a fun a21 =>
    ld ((.int .i64) : Kd) h18 (a21.add ((addr2 : Int).toNat * 1)) fun t22 =>
    Q (t22, 0, ()) h18))
def cells_Arena_Add.mk : Mk := (.s .d (.s (.s .d (.c (.s .d .d) .d)) (.s .d (.s .d (.s .d .d)))))

def cells_Arena_Size.M (c_cells_ledger_Size : Option Addr → Heap → (Int → Heap → Prop) → Prop) (a1 : Option Addr) (h2 : Heap) (Q : Int → Heap → Prop) : Prop :=
    (((Option.isNone a1) = true →
    Q 0 h2) ∧
    ((Option.isNone a1) = false →
    deref a1 fun a3 =>
    c_cells_ledger_Size (some (a3.add 0)) h2 fun r4 h5 =>
    Q r4 h5))
def cells_Arena_Size.mk : Mk := (.s .d (.s (.s .d (.c (.s .d .d) .d)) (.s .d .d)))

def cells_Arena_Mark.M (c_cells_ledger_Mark : Option Addr → Heap → (Int → Heap → Prop) → Prop) (a1 : Option Addr) (h2 : Heap) (Q : Int → Heap → Prop) : Prop :=
    (((Option.isNone a1) = true →
    Q 0 h2) ∧
    ((Option.isNone a1) = false →
    deref a1 fun a3 =>
    c_cells_ledger_Mark (some (a3.add 0)) h2 fun r4 h5 =>
    Q r4 h5))
def cells_Arena_Mark.mk : Mk := (.s .d (.s (.s .d (.c (.s .d .d) .d)) (.s .d .d)))

def cells_Arena_Reserve.j1 (c_cells_ledger_refuse : Option Addr → Int → Heap → (Int → Heap → Prop) → Prop) (c_cells_ledger_take : Option Addr → Int → Heap → (Int → Heap → Prop) → Prop) (c_cells_Arena_note : Option Addr → Int → Int → Int → Int → Bool → Heap → (Unit → Heap → Prop) → Prop) (a1 : Option Addr) (n2 : Int) (Q : Den kapiWait → Heap → Prop) (s4 : (Option Addr × Unit)) (h5 : Heap) : Prop :=
    c_cells_ledger_refuse s4.1 n2 h5 fun r6 h7 =>
    (((decide (r6 ≠ 0)) = true →
    Q (0, r6, ()) h7) ∧
    ((decide (r6 ≠ 0)) = false →
    c_cells_ledger_take s4.1 n2 h7 fun r8 h9 =>
    deref a1 fun a10 =>
    ld (.sl : Kd) h9 (a10.add 2) fun t11 =>
    appendZM ((.int .i64) : Kd) 8 h9 t11 n2 fun t12 h13 =>
    deref a1 fun a14 =>
    st (.sl : Kd) h13 (a14.add 2) t12 fun h15 =>
    c_cells_Arena_note a1 4 r8 n2 0 true h15 fun r16 h17 =>
    Q (r8, 0, ()) h17))
def cells_Arena_Reserve.M (c_cells_ledger_refuse : Option Addr → Int → Heap → (Int → Heap → Prop) → Prop) (c_cells_ledger_take : Option Addr → Int → Heap → (Int → Heap → Prop) → Prop) (c_cells_Arena_note : Option Addr → Int → Int → Int → Int → Bool → Heap → (Unit → Heap → Prop) → Prop) (a1 : Option Addr) (n2 : Int) (h3 : Heap) (Q : Den kapiWait → Heap → Prop) : Prop :=
    (((Option.isSome a1) = true →
    deref a1 fun a18 =>
    cells_Arena_Reserve.j1 c_cells_ledger_refuse c_cells_ledger_take c_cells_Arena_note a1 n2 Q ((some (a18.add 0)), ()) h3) ∧
    ((Option.isSome a1) = false →
    cells_Arena_Reserve.j1 c_cells_ledger_refuse c_cells_ledger_take c_cells_Arena_note a1 n2 Q (none, ()) h3))
def cells_Arena_Reserve.mk : Mk := (.s .d (.s .d (.j [.slot 6 .ptr] (.s .d (.c .d .d)) (.s (.s .d (.s .d (.c (.s .d .d) .d))) (.s .d (.s .d (.s .d (.s .d .d))))))))

def cells_good.M  (size1 : Int) (h2 : Heap) (Q : Bool → Heap → Prop) : Prop :=
    (((decide ((0 : Int) ≤ size1)) = true →
    Q (decide (size1 ≤ 1048576)) h2) ∧
    ((decide ((0 : Int) ≤ size1)) = false →
    Q false h2))
def cells_good.mk : Mk := (.s .d (.s .d .d))

def ref21_Memory_refused.M (c_ref21_Memory_inUse : Option Addr → Int → Heap → (Bool → Heap → Prop) → Prop) (m1 : Option Addr) (x2 : Den klaw21Move) (h3 : Heap) (Q : Int → Heap → Prop) : Prop :=
    (((decide (x2.2.1 = 4)) = true →
    (((decide (x2.2.2.2.1 < 1)) = true →
    Q 21 h3) ∧
    ((decide (x2.2.2.2.1 < 1)) = false →
    deref m1 fun a4 =>
    deref m1 fun a5 =>
    ld (.ptr : Kd) h3 (a4.add 0) fun t6 =>
    deref t6 fun a7 =>
    ld ((.int .i64) : Kd) h3 (a7.add 0) fun t8 =>
    ld (.ptr : Kd) h3 (a5.add 0) fun t9 =>
    deref t9 fun a10 =>
    ld (.sl : Kd) h3 (a10.add 1) fun t11 =>
    (((decide ((w64 (t8 - (t11.len : Int))) < x2.2.2.2.1)) = true →
    Q 22 h3) ∧
    ((decide ((w64 (t8 - (t11.len : Int))) < x2.2.2.2.1)) = false →
    Q 0 h3))))) ∧
    ((decide (x2.2.1 = 4)) = false →
    c_ref21_Memory_inUse m1 x2.2.2.1 h3 fun r12 h13 =>
    (((!r12) = true →
    Q 20 h13) ∧
    ((!r12) = false →
    Q 0 h13))))
def ref21_Memory_refused.mk : Mk := (.s (.r [0]) (.s (.s .d (.c (.s (.s .d (.c (.s .d .d) .d)) (.s (.s (.q [] [] [.p 0, .p 2, .p 3, .p 4, .p 9, .p 10, .p 11, .w 1 [1, 18], .w 5 [5, 6, 7, 8, 17, 18], .p 6, .p 7, .w 8 [8, 17, 18], .w 12 [12, 13, 14, 15, 16, 17, 18], .p 13, .p 14, .w 15 [15, 16, 17, 18], .p 16, .p 17, .p 18]) (.c (.s .d .d) .d)) (.s .d .d))) .d)) (.s (.s .d (.c (.s .d .d) .d)) (.s .d .d))))

def ref2_Arena_Do.j1 (c_ref2_Arena_note : Option Addr → Den kapiAccess → Heap → (Unit → Heap → Prop) → Prop) (a1 : Option Addr) (Q : Den kapiEffect → Heap → Prop) (s16 : (Den kapiAccess × (Den kapiEffect × Unit))) (h17 : Heap) : Prop :=
    c_ref2_Arena_note a1 (s16.1.1, (s16.1.2.1, (s16.1.2.2.1, (s16.1.2.2.2.1, (s16.1.2.2.2.2.1, (s16.1.2.2.2.2.2.1, ())))))) h17 fun r18 h19 =>
    Q (s16.2.1.1, (s16.2.1.2.1, (s16.2.1.2.2.1, ()))) h19
def ref2_Arena_Do.j2 (c_ref2_Arena_note : Option Addr → Den kapiAccess → Heap → (Unit → Heap → Prop) → Prop) (a1 : Option Addr) (x2 : Den klaw21Move) (Q : Den kapiEffect → Heap → Prop) (s8 : (Den kapiEffect × Unit)) (h9 : Heap) : Prop :=
    deref a1 fun a10 =>
    ld (.sl : Kd) h9 (a10.add 1) fun t11 =>
    (0 ≤ x2.2.2.1 ∧ x2.2.2.1 < (t11.len : Int)) ∧
    deref t11.a fun a12 =>
    ld ((.int .i64) : Kd) h9 (a12.add ((x2.2.2.1 : Int).toNat * 1)) fun t13 =>
    deref a1 fun a14 =>
    ld ((.int .i64) : Kd) h9 (a14.add 3) fun t15 =>
    (((decide (x2.2.1 = 0)) = true →
    ref2_Arena_Do.j1 c_ref2_Arena_note a1 Q ((t15, (x2.2.1, (x2.2.2.1, (t13, (0, (true, ())))))), (t13, (true, (0, ()))), ()) h9) ∧
    ((decide (x2.2.1 = 0)) = false →
    (((decide (x2.2.1 = 1)) = true →
    deref a1 fun a20 =>
    ld (.sl : Kd) h9 (a20.add 1) fun t21 =>
    (0 ≤ x2.2.2.1 ∧ x2.2.2.1 < (t21.len : Int)) ∧
    deref t21.a fun a22 =>
    st ((.int .i64) : Kd) h9 (a22.add ((x2.2.2.1 : Int).toNat * 1)) x2.2.2.2.1 fun h23 =>
    ref2_Arena_Do.j1 c_ref2_Arena_note a1 Q ((t15, (x2.2.1, (x2.2.2.1, (x2.2.2.2.1, (0, (true, ())))))), (0, (true, (0, ()))), ()) h23) ∧
    ((decide (x2.2.1 = 1)) = false →
    (((decide (x2.2.1 = 2)) = true →
    (((decide (t13 = x2.2.2.2.1)) = true →
    deref a1 fun a24 =>
    ld (.sl : Kd) h9 (a24.add 1) fun t25 =>
    (0 ≤ x2.2.2.1 ∧ x2.2.2.1 < (t25.len : Int)) ∧
    deref t25.a fun a26 =>
    st ((.int .i64) : Kd) h9 (a26.add ((x2.2.2.1 : Int).toNat * 1)) x2.2.2.2.2.1 fun h27 =>
    ref2_Arena_Do.j1 c_ref2_Arena_note a1 Q ((t15, (x2.2.1, (x2.2.2.1, (x2.2.2.2.1, (x2.2.2.2.2.1, ((decide (t13 = x2.2.2.2.1)), ())))))), (0, ((decide (t13 = x2.2.2.2.1)), (0, ()))), ()) h27) ∧
    ((decide (t13 = x2.2.2.2.1)) = false →
    ref2_Arena_Do.j1 c_ref2_Arena_note a1 Q ((t15, (x2.2.1, (x2.2.2.1, (x2.2.2.2.1, (x2.2.2.2.2.1, ((decide (t13 = x2.2.2.2.1)), ())))))), (0, ((decide (t13 = x2.2.2.2.1)), (0, ()))), ()) h9))) ∧
    ((decide (x2.2.1 = 2)) = false →
    deref a1 fun a28 =>
    ld (.sl : Kd) h9 (a28.add 1) fun t29 =>
    (0 ≤ x2.2.2.1 ∧ x2.2.2.1 < (t29.len : Int)) ∧
    deref t29.a fun a30 =>
    st ((.int .i64) : Kd) h9 (a30.add ((x2.2.2.1 : Int).toNat * 1)) (w64 (t13 + x2.2.2.2.1)) fun h31 =>
    ref2_Arena_Do.j1 c_ref2_Arena_note a1 Q ((t15, (x2.2.1, (x2.2.2.1, (x2.2.2.2.1, ((w64 (t13 + x2.2.2.2.1)), (true, ())))))), ((w64 (t13 + x2.2.2.2.1)), (true, (0, ()))), ()) h31))))))
def ref2_Arena_Do.j3 (c_ref2_refused : Int → Heap → (Den kapiEffect → Heap → Prop) → Prop) (c_ref2_Arena_note : Option Addr → Den kapiAccess → Heap → (Unit → Heap → Prop) → Prop) (a1 : Option Addr) (x2 : Den klaw21Move) (Q : Den kapiEffect → Heap → Prop) (s4 : (Den kapiEffect × Unit)) (s32 : (Bool × Unit)) (h33 : Heap) : Prop :=
    ((s32.1 = true →
    c_ref2_refused 20 h33 fun r34 h35 =>
    Q (r34.1, (r34.2.1, (r34.2.2.1, ()))) h35) ∧
    (s32.1 = false →
    ref2_Arena_Do.j2 c_ref2_Arena_note a1 x2 Q ((s4.1.1, (s4.1.2.1, (s4.1.2.2.1, ()))), ()) h33))
def ref2_Arena_Do.j4 (c_ref2_refused : Int → Heap → (Den kapiEffect → Heap → Prop) → Prop) (c_ref2_Arena_reserve : Option Addr → Int → Heap → (Den kapiEffect → Heap → Prop) → Prop) (c_ref2_Arena_note : Option Addr → Den kapiAccess → Heap → (Unit → Heap → Prop) → Prop) (a1 : Option Addr) (x2 : Den klaw21Move) (Q : Den kapiEffect → Heap → Prop) (s4 : (Den kapiEffect × Unit)) (h5 : Heap) : Prop :=
    (((decide (x2.2.1 = 4)) = true →
    c_ref2_Arena_reserve a1 x2.2.2.2.1 h5 fun r6 h7 =>
    Q (r6.1, (r6.2.1, (r6.2.2.1, ()))) h7) ∧
    ((decide (x2.2.1 = 4)) = false →
    (((decide (x2.2.2.1 < 0)) = true →
    ref2_Arena_Do.j3 c_ref2_refused c_ref2_Arena_note a1 x2 Q s4 (true, ()) h5) ∧
    ((decide (x2.2.2.1 < 0)) = false →
    deref a1 fun a36 =>
    ld (.sl : Kd) h5 (a36.add 1) fun t37 =>
    ref2_Arena_Do.j3 c_ref2_refused c_ref2_Arena_note a1 x2 Q s4 ((decide ((t37.len : Int) ≤ x2.2.2.1)), ()) h5))))
def ref2_Arena_Do.j5 (c_ref2_refused : Int → Heap → (Den kapiEffect → Heap → Prop) → Prop) (c_ref2_Arena_reserve : Option Addr → Int → Heap → (Den kapiEffect → Heap → Prop) → Prop) (c_ref2_Arena_note : Option Addr → Den kapiAccess → Heap → (Unit → Heap → Prop) → Prop) (a1 : Option Addr) (x2 : Den klaw21Move) (Q : Den kapiEffect → Heap → Prop) (s38 : (Bool × Unit)) (h39 : Heap) : Prop :=
    ((s38.1 = true →
    c_ref2_refused 23 h39 fun r40 h41 =>
    Q (r40.1, (r40.2.1, (r40.2.2.1, ()))) h41) ∧
    (s38.1 = false →
    ref2_Arena_Do.j4 c_ref2_refused c_ref2_Arena_reserve c_ref2_Arena_note a1 x2 Q ((0, (false, (0, ()))), ()) h39))
def ref2_Arena_Do.M (c_ref2_refused : Int → Heap → (Den kapiEffect → Heap → Prop) → Prop) (c_ref2_Arena_reserve : Option Addr → Int → Heap → (Den kapiEffect → Heap → Prop) → Prop) (c_ref2_Arena_note : Option Addr → Den kapiAccess → Heap → (Unit → Heap → Prop) → Prop) (a1 : Option Addr) (x2 : Den klaw21Move) (h3 : Heap) (Q : Den kapiEffect → Heap → Prop) : Prop :=
    (((decide (x2.2.1 < 0)) = true →
    ref2_Arena_Do.j5 c_ref2_refused c_ref2_Arena_reserve c_ref2_Arena_note a1 x2 Q (true, ()) h3) ∧
    ((decide (x2.2.1 < 0)) = false →
    ref2_Arena_Do.j5 c_ref2_refused c_ref2_Arena_reserve c_ref2_Arena_note a1 x2 Q ((decide ((4 : Int) < x2.2.1)), ()) h3))
def ref2_Arena_Do.mk : Mk := (.s (.r [0, 1]) (.j [.box 4 kapiEffect] (.j [.slot 16 .bool] .d (.c (.s .d .d) .d)) (.s (.s .d (.c (.s (.r [4]) (.s .d .d)) .d)) (.j [.box 4 kapiEffect] (.j [.slot 38 .bool] (.q [] [] [.p 0, .w 1 [1, 2, 3, 4, 5, 6, 7, 8, 9, 10, 11, 12], .p 2, .p 3, .p 4, .p 6, .p 7, .p 8, .w 5 [5, 11, 12], .w 9 [9, 10, 11, 12], .p 10, .p 11, .p 12]) (.c (.s .d .d) .d)) (.s (.q [] [] [.p 0, .p 1, .p 2, .p 4, .w 3 [3, 6, 7, 8], .w 5 [5, 6, 7, 8], .p 6, .w 7 [7, 8], .p 8]) (.s (.q [9] [7] [.p 0, .p 1, .p 2, .p 4, .p 6, .w 3 [3, 8, 10], .w 5 [5, 8, 10], .w 7 [7, 8, 10], .p 8, .o 9, .o 10]) (.s (.r [1]) (.j [.box 7 kapiAccess, .box 8 kapiEffect] (.s .d (.b (.s .d (.c (.s .d .d) (.s .d (.c (.s .d (.q [] [] [.p 0, .p 1, .p 2, .p 4, .p 6, .w 3 [3, 8, 9], .w 5 [5, 8, 9], .w 7 [7, 8, 9], .p 8, .o 9])) (.s .d (.c (.s .d (.s .d (.s .d (.s .d (.s .d (.c (.q [] [] [.p 0, .p 1, .p 2, .p 4, .p 6, .w 3 [3, 8, 9], .w 5 [5, 8, 9], .w 7 [7, 8, 9], .p 8, .o 9]) .d)))))) (.s .d (.s .d (.s .d (.q [] [] [.p 0, .p 1, .p 2, .p 4, .p 6, .p 7, .w 3 [3, 10, 11], .w 5 [5, 10, 11], .w 8 [8, 9, 10, 11], .p 9, .p 10, .o 11])))))))))))) (.s .d (.s .d .d))))))))))

def cells_Arena_outside.M (c_cells_ledger_has : Option Addr → Int → Heap → (Bool → Heap → Prop) → Prop) (a1 : Option Addr) (addr2 : Int) (h3 : Heap) (Q : Bool → Heap → Prop) : Prop :=
    (((Option.isNone a1) = true →
    Q true h3) ∧
    ((Option.isNone a1) = false →
    deref a1 fun a4 =>
    c_cells_ledger_has (some (a4.add 0)) addr2 h3 fun r5 h6 =>
    Q (!r5) h6))
def cells_Arena_outside.mk : Mk := (.s .d (.s .d .d))

def cells_Arena_note.M  (a1 : Option Addr) (kind2 : Int) (addr3 : Int) (x4 : Int) (y5 : Int) (ok6 : Bool) (h7 : Heap) (Q : Unit → Heap → Prop) : Prop :=
    deref a1 fun a8 =>
    ld (.bool : Kd) h7 (a8.add 5) fun t9 =>
    ((t9 = true →
    deref a1 fun a10 =>
    deref a1 fun a11 =>
    ld (.sl : Kd) h7 (a10.add 3) fun t12 =>
    ld ((.int .i64) : Kd) h7 (a11.add 4) fun t13 =>
    new h7 (([(t13, (kind2, (addr3, (x4, (y5, (ok6, ()))))))] : List (Den kapiAccess)).flatMap (Kd.cells kapiAccess)) fun p14 h15 =>
    appendM 6 48 h15 t12 ⟨some p14, 1, 1⟩ fun t16 h17 =>
    deref a1 fun a18 =>
    st (.sl : Kd) h17 (a18.add 3) t16 fun h19 =>
    Q () h19) ∧
    (t9 = false →
    Q () h7))
def cells_Arena_note.mk : Mk := (.s .d (.c (.q [] [] [.p 0, .p 1, .p 2, .p 3, .p 5, .p 6, .p 7, .p 9, .p 10, .p 11, .p 12, .p 13, .w 4 [4, 16, 17, 18, 19], .w 8 [8, 14, 15, 16, 17, 18, 19], .p 14, .o 15, .o 16, .p 17, .p 18, .o 19]) .d))

def cells_ledger_Size.M  (l1 : Option Addr) (h2 : Heap) (Q : Int → Heap → Prop) : Prop :=
    (((Option.isNone l1) = true →
    Q 0 h2) ∧
    ((Option.isNone l1) = false →
    deref l1 fun a3 =>
    ld ((.int .i64) : Kd) h2 (a3.add 0) fun t4 =>
    Q t4 h2))
def cells_ledger_Size.mk : Mk := (.s .d (.s (.s .d (.c (.s .d .d) .d)) (.s .d .d)))

def cells_ledger_Mark.M  (l1 : Option Addr) (h2 : Heap) (Q : Int → Heap → Prop) : Prop :=
    (((Option.isNone l1) = true →
    Q 0 h2) ∧
    ((Option.isNone l1) = false →
    deref l1 fun a3 =>
    ld ((.int .i64) : Kd) h2 (a3.add 1) fun t4 =>
    Q t4 h2))
def cells_ledger_Mark.mk : Mk := (.s .d (.s (.s .d (.c (.s .d .d) .d)) (.s .d .d)))

def cells_ledger_refuse.j1 (Q : Int → Heap → Prop) (s4 : Unit) (h5 : Heap) : Prop :=
    Q 0 h5
def cells_ledger_refuse.j2 (Q : Int → Heap → Prop) (s6 : (Bool × Unit)) (h7 : Heap) : Prop :=
    ((s6.1 = true →
    Q 22 h7) ∧
    (s6.1 = false →
    cells_ledger_refuse.j1 Q () h7))
def cells_ledger_refuse.M  (l1 : Option Addr) (n2 : Int) (h3 : Heap) (Q : Int → Heap → Prop) : Prop :=
    (((decide (n2 < 1)) = true →
    Q 21 h3) ∧
    ((decide (n2 < 1)) = false →
    (((Option.isNone l1) = true →
    cells_ledger_refuse.j2 Q (true, ()) h3) ∧
    ((Option.isNone l1) = false →
    deref l1 fun a8 =>
    deref l1 fun a9 =>
    ld ((.int .i64) : Kd) h3 (a8.add 0) fun t10 =>
    ld ((.int .i64) : Kd) h3 (a9.add 1) fun t11 =>
    cells_ledger_refuse.j2 Q ((decide ((w64 (t10 - t11)) < n2)), ()) h3))))
def cells_ledger_refuse.mk : Mk := (.s .d (.s (.s .d (.c (.s .d .d) .d)) (.j [] (.j [.slot 21 .bool] (.q [] [] [.p 0, .p 1, .p 2, .p 3, .p 4, .p 5, .p 6, .p 8, .p 9, .p 10, .w 7 [7, 12, 13, 14], .w 11 [11, 12, 13, 14], .p 12, .p 13, .p 14]) (.c (.s .d .d) .d)) (.s .d .d))))

def cells_ledger_take.M  (l1 : Option Addr) (n2 : Int) (h3 : Heap) (Q : Int → Heap → Prop) : Prop :=
    deref l1 fun a4 =>
    ld ((.int .i64) : Kd) h3 (a4.add 1) fun t5 =>
    deref l1 fun a6 =>
    ld ((.int .i64) : Kd) h3 (a6.add 1) fun t7 =>
    deref l1 fun a8 =>
    st ((.int .i64) : Kd) h3 (a8.add 1) (w64 (t7 + n2)) fun h9 =>
    Q t5 h9
def cells_ledger_take.mk : Mk := (.s .d (.s .d (.s .d (.s .d .d))))

def ref21_Memory_inUse.M  (m1 : Option Addr) (addr2 : Int) (h3 : Heap) (Q : Bool → Heap → Prop) : Prop :=
    (((decide ((0 : Int) ≤ addr2)) = true →
    deref m1 fun a4 =>
    ld (.ptr : Kd) h3 (a4.add 0) fun t5 =>
    deref t5 fun a6 =>
    ld (.sl : Kd) h3 (a6.add 1) fun t7 =>
    Q (decide (addr2 < (t7.len : Int))) h3) ∧
    ((decide ((0 : Int) ≤ addr2)) = false →
    Q false h3))
def ref21_Memory_inUse.mk : Mk := (.s .d (.s .d .d))

def ref2_refused.M  (e1 : Int) (h2 : Heap) (Q : Den kapiEffect → Heap → Prop) : Prop :=
    Q (0, (false, (e1, ()))) h2
def ref2_refused.mk : Mk := (.s (.r [0]) (.s .d .d))

def ref2_Arena_reserve.l1 (c_ref2_Arena_note : Option Addr → Den kapiAccess → Heap → (Unit → Heap → Prop) → Prop) (a1 : Option Addr) (n2 : Int) (Q : Den kapiEffect → Heap → Prop) (t13 : Sl) (go16 : (Int × Unit) → Heap → Prop) (s14 : (Int × Unit)) (h15 : Heap) : Prop :=
    (((decide (s14.1 < n2)) = true →
    deref a1 fun a17 =>
    ld (.sl : Kd) h15 (a17.add 1) fun t18 =>
    new h15 (([0] : List (Den ((.int .i64) : Kd))).flatMap (Kd.cells ((.int .i64) : Kd))) fun p19 h20 =>
    appendM 1 8 h20 t18 ⟨some p19, 1, 1⟩ fun t21 h22 =>
    deref a1 fun a23 =>
    st (.sl : Kd) h22 (a23.add 1) t21 fun h24 =>
    go16 ((w64 (s14.1 + 1)), ()) h24) ∧
    ((decide (s14.1 < n2)) = false →
    deref a1 fun a25 =>
    ld ((.int .i64) : Kd) h15 (a25.add 3) fun t26 =>
    c_ref2_Arena_note a1 (t26, (4, ((t13.len : Int), (n2, (0, (true, ())))))) h15 fun r27 h28 =>
    Q ((t13.len : Int), (true, (0, ()))) h28))
def ref2_Arena_reserve.M (c_ref2_refused : Int → Heap → (Den kapiEffect → Heap → Prop) → Prop) (c_ref2_Arena_note : Option Addr → Den kapiAccess → Heap → (Unit → Heap → Prop) → Prop) (a1 : Option Addr) (n2 : Int) (h3 : Heap) (Q : Den kapiEffect → Heap → Prop) : Prop :=
    (((decide (n2 < 1)) = true →
    c_ref2_refused 21 h3 fun r4 h5 =>
    Q (r4.1, (r4.2.1, (r4.2.2.1, ()))) h5) ∧
    ((decide (n2 < 1)) = false →
    deref a1 fun a6 =>
    deref a1 fun a7 =>
    ld ((.int .i64) : Kd) h3 (a6.add 0) fun t8 =>
    ld (.sl : Kd) h3 (a7.add 1) fun t9 =>
    (((decide ((w64 (t8 - (t9.len : Int))) < n2)) = true →
    c_ref2_refused 22 h3 fun r10 h11 =>
    Q (r10.1, (r10.2.1, (r10.2.2.1, ()))) h11) ∧
    ((decide ((w64 (t8 - (t9.len : Int))) < n2)) = false →
    deref a1 fun a12 =>
    ld (.sl : Kd) h3 (a12.add 1) fun t13 =>
    Loop (ref2_Arena_reserve.l1 c_ref2_Arena_note a1 n2 Q t13) (0, ()) h3))))
def ref2_Arena_reserve.mk : Mk := (.s (.r [0]) (.s (.s .d (.c (.s .d .d) .d)) (.s (.s (.q [] [] [.p 0, .p 1, .p 2, .p 3, .p 5, .p 6, .p 7, .w 4 [4, 10, 11], .w 8 [8, 9, 10, 11], .p 9, .p 10, .p 11]) (.c (.s .d .d) .d)) (.s .d (.s (.s .d (.b (.l [.slot 6 (.int .i64)] (.s (.s .d (.c .d .d)) (.s (.b .d) .d))))) (.s .d (.s .d .d)))))))

def ref2_Arena_note.M  (a1 : Option Addr) (x2 : Den kapiAccess) (h3 : Heap) (Q : Unit → Heap → Prop) : Prop :=
    deref a1 fun a4 =>
    ld (.bool : Kd) h3 (a4.add 2) fun t5 =>
    ((t5 = true →
    deref a1 fun a6 =>
    ld (.sl : Kd) h3 (a6.add 4) fun t7 =>
    new h3 (([(x2.1, (x2.2.1, (x2.2.2.1, (x2.2.2.2.1, (x2.2.2.2.2.1, (x2.2.2.2.2.2.1, ()))))))] : List (Den kapiAccess)).flatMap (Kd.cells kapiAccess)) fun p8 h9 =>
    appendM 6 48 h9 t7 ⟨some p8, 1, 1⟩ fun t10 h11 =>
    deref a1 fun a12 =>
    st (.sl : Kd) h11 (a12.add 4) t10 fun h13 =>
    Q () h13) ∧
    (t5 = false →
    Q () h3))
def ref2_Arena_note.mk : Mk := (.s (.r [0]) (.s .d (.c (.q [] [] [.p 0, .p 1, .p 2, .p 3, .w 4 [4, 7, 8, 9, 10], .w 5 [5, 6, 7, 8, 9, 10], .o 6, .o 7, .p 8, .p 9, .o 10]) .d)))

def cells_ledger_has.M  (l1 : Option Addr) (addr2 : Int) (h3 : Heap) (Q : Bool → Heap → Prop) : Prop :=
    (((decide ((0 : Int) ≤ addr2)) = true →
    deref l1 fun a4 =>
    ld ((.int .i64) : Kd) h3 (a4.add 1) fun t5 =>
    Q (decide (addr2 < t5)) h3) ∧
    ((decide ((0 : Int) ≤ addr2)) = false →
    Q false h3))
def cells_ledger_has.mk : Mk := (.s .d (.s .d .d))

end Go.Mx
