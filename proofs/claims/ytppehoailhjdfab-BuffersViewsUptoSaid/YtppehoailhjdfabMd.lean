/-
  What the functions of this seat come to over abstract heaps: printed by a program of this workplace.
-/
import Derived.Test.YtppehoailhjdfabMxN
set_option linter.unusedVariables false
namespace Go.Mx
abbrev kbuffersplace : Kd := (.pair .ptr (.pair (.int .i64) .nil))
abbrev kbuffersView : Kd := (.pair kbuffersplace .nil)
abbrev kbuffersMemory : Kd := (.pair .ptr (.pair (.int .i64) (.pair (.int .i64) (.pair (.arr 8 .sl) (.pair (.arr 8 kbuffersView) .nil)))))
abbrev klaw21shelf : Kd := (.pair .sl (.pair .sl (.pair .sl .nil)))
abbrev klaw21Move : Kd := (.pair (.int .i64) (.pair (.int .i64) (.pair (.int .i64) (.pair (.int .i64) (.pair (.int .i64) .nil)))))
abbrev kref2Arena : Kd := (.pair (.int .i64) (.pair .sl (.pair .bool (.pair (.int .i64) (.pair .sl .nil)))))
abbrev kref21Memory : Kd := (.pair .ptr (.pair (.int .i64) (.pair .sl .nil)))
abbrev kapiBufferRun : Kd := (.pair .sl (.pair .sl (.pair .sl (.pair .sl (.pair .bool .nil)))))
abbrev klaw21gift : Kd := (.pair .sl (.pair .sl .nil))
abbrev kapiEffect : Kd := (.pair (.int .i64) (.pair .bool (.pair (.int .i64) .nil)))
abbrev kapiWait : Kd := (.pair (.int .i64) (.pair (.int .i64) .nil))
abbrev kapiAccess : Kd := (.pair (.int .i64) (.pair (.int .i64) (.pair (.int .i64) (.pair (.int .i64) (.pair (.int .i64) (.pair .bool .nil))))))
abbrev klaw21Kept : Kd := (.pair .sl (.pair .sl (.pair .sl (.pair .sl (.pair .sl (.pair .sl (.pair (.int .i64) .nil)))))))
abbrev kcellsArena : Kd := (.pair kapiWait (.pair .sl (.pair .sl (.pair (.int .i64) (.pair .bool .nil)))))

def law21_BuffersViews.j1 (go16 : (Int × Unit) → Heap → Prop) (s14 : (Int × Unit)) (s17 : Unit) (h18 : Heap) : Prop :=
    go16 ((w64 (s14.1 + 1)), ()) h18
def law21_BuffersViews.j2 (Q : Bool → Heap → Prop) (go16 : (Int × Unit) → Heap → Prop) (s14 : (Int × Unit)) (s23 : (Bool × Unit)) (h24 : Heap) : Prop :=
    ((s23.1 = true →
    Q false h24) ∧
    (s23.1 = false →
    law21_BuffersViews.j1 go16 s14 () h24))
def law21_BuffersViews.l3 (c_law21_moved : Option Addr → Option Addr → Den klaw21Move → Option Addr → Heap → (Bool → Heap → Prop) → Prop) (c_law21_shelf_stands : Option Addr → Heap → (Bool → Heap → Prop) → Prop) (c_buffers_Memory_Cells : Option Addr → Heap → (Sl → Heap → Prop) → Prop) (c_law21_sameNumbers : Sl → Sl → Heap → (Bool → Heap → Prop) → Prop) (c_buffers_Memory_Log : Option Addr → Heap → (Sl → Heap → Prop) → Prop) (c_law21_sameLog : Sl → Sl → Heap → (Bool → Heap → Prop) → Prop) (c_law21_untold : Int → Int → Int → Sl → Heap → (Bool → Heap → Prop) → Prop) (size1 : Int) (actors2 : Int) (room3 : Int) (moves4 : Sl) (Q : Bool → Heap → Prop) (r6 : Den kbuffersplace) (r8 : Den kbuffersplace) (p12 : Addr) (go16 : (Int × Unit) → Heap → Prop) (s14 : (Int × Unit)) (h15 : Heap) : Prop :=
    (((decide (s14.1 < (moves4.len : Int))) = true →
    (0 ≤ s14.1 ∧ s14.1 < (moves4.len : Int)) ∧
    deref moves4.a fun a19 =>
    ld klaw21Move h15 (a19.add ((s14.1 : Int).toNat * 5)) fun t20 =>
    c_law21_moved r8.1 r6.1 t20 (some p12) h15 fun r21 h22 =>
    (((!r21) = true →
    law21_BuffersViews.j2 Q go16 s14 (true, ()) h22) ∧
    ((!r21) = false →
    c_law21_shelf_stands (some p12) h22 fun r25 h26 =>
    law21_BuffersViews.j2 Q go16 s14 ((!r25), ()) h26))) ∧
    ((decide (s14.1 < (moves4.len : Int))) = false →
    deref r6.1 fun a27 =>
    ld (.ptr : Kd) h15 (a27.add 0) fun t28 =>
    deref t28 fun a29 =>
    ld (.sl : Kd) h15 (a29.add 1) fun t30 =>
    c_buffers_Memory_Cells r8.1 h15 fun r31 h32 =>
    sees h32 (some (a29.add 1)) (.sl : Kd) t30 ∧
    sees h32 (some (a27.add 0)) (.ptr : Kd) t28 ∧
    c_law21_sameNumbers r31 t30 h32 fun r33 h34 =>
    ((r33 = true →
    deref r6.1 fun a35 =>
    ld (.ptr : Kd) h34 (a35.add 0) fun t36 =>
    deref t36 fun a37 =>
    ld (.sl : Kd) h34 (a37.add 4) fun t38 =>
    c_buffers_Memory_Log r8.1 h34 fun r39 h40 =>
    sees h40 (some (a37.add 4)) (.sl : Kd) t38 ∧
    sees h40 (some (a35.add 0)) (.ptr : Kd) t36 ∧
    c_law21_sameLog r39 t38 h40 fun r41 h42 =>
    ((r41 = true →
    c_law21_untold size1 actors2 room3 moves4 h42 fun r43 h44 =>
    Q r43 h44) ∧
    (r41 = false →
    Q false h42))) ∧
    (r33 = false →
    Q false h34))))
def law21_BuffersViews.j4 (c_law21_moved : Option Addr → Option Addr → Den klaw21Move → Option Addr → Heap → (Bool → Heap → Prop) → Prop) (c_law21_shelf_stands : Option Addr → Heap → (Bool → Heap → Prop) → Prop) (c_buffers_Memory_Cells : Option Addr → Heap → (Sl → Heap → Prop) → Prop) (c_law21_sameNumbers : Sl → Sl → Heap → (Bool → Heap → Prop) → Prop) (c_buffers_Memory_Log : Option Addr → Heap → (Sl → Heap → Prop) → Prop) (c_law21_sameLog : Sl → Sl → Heap → (Bool → Heap → Prop) → Prop) (c_law21_untold : Int → Int → Int → Sl → Heap → (Bool → Heap → Prop) → Prop) (size1 : Int) (actors2 : Int) (room3 : Int) (moves4 : Sl) (Q : Bool → Heap → Prop) (r6 : Den kbuffersplace) (r8 : Den kbuffersplace) (s10 : Unit) (h11 : Heap) : Prop :=
    new h11 (klaw21shelf.cells (Sl.none, (Sl.none, (Sl.none, ())))) fun p12 h13 =>
    Loop (law21_BuffersViews.l3 c_law21_moved c_law21_shelf_stands c_buffers_Memory_Cells c_law21_sameNumbers c_buffers_Memory_Log c_law21_sameLog c_law21_untold size1 actors2 room3 moves4 Q r6 r8 p12) (0, ()) h13
def law21_BuffersViews.j5 (c_law21_moved : Option Addr → Option Addr → Den klaw21Move → Option Addr → Heap → (Bool → Heap → Prop) → Prop) (c_law21_shelf_stands : Option Addr → Heap → (Bool → Heap → Prop) → Prop) (c_buffers_Memory_Cells : Option Addr → Heap → (Sl → Heap → Prop) → Prop) (c_law21_sameNumbers : Sl → Sl → Heap → (Bool → Heap → Prop) → Prop) (c_buffers_Memory_Log : Option Addr → Heap → (Sl → Heap → Prop) → Prop) (c_law21_sameLog : Sl → Sl → Heap → (Bool → Heap → Prop) → Prop) (c_law21_untold : Int → Int → Int → Sl → Heap → (Bool → Heap → Prop) → Prop) (size1 : Int) (actors2 : Int) (room3 : Int) (moves4 : Sl) (Q : Bool → Heap → Prop) (r6 : Den kbuffersplace) (r8 : Den kbuffersplace) (s45 : (Bool × Unit)) (h46 : Heap) : Prop :=
    ((s45.1 = true →
    Q false h46) ∧
    (s45.1 = false →
    law21_BuffersViews.j4 c_law21_moved c_law21_shelf_stands c_buffers_Memory_Cells c_law21_sameNumbers c_buffers_Memory_Log c_law21_sameLog c_law21_untold size1 actors2 room3 moves4 Q r6 r8 () h46))
def law21_BuffersViews.M (c_ref21_New : Int → Int → Int → Heap → (Den kbuffersplace → Heap → Prop) → Prop) (c_buffers_New : Int → Int → Int → Heap → (Den kbuffersplace → Heap → Prop) → Prop) (c_law21_moved : Option Addr → Option Addr → Den klaw21Move → Option Addr → Heap → (Bool → Heap → Prop) → Prop) (c_law21_shelf_stands : Option Addr → Heap → (Bool → Heap → Prop) → Prop) (c_buffers_Memory_Cells : Option Addr → Heap → (Sl → Heap → Prop) → Prop) (c_law21_sameNumbers : Sl → Sl → Heap → (Bool → Heap → Prop) → Prop) (c_buffers_Memory_Log : Option Addr → Heap → (Sl → Heap → Prop) → Prop) (c_law21_sameLog : Sl → Sl → Heap → (Bool → Heap → Prop) → Prop) (c_law21_untold : Int → Int → Int → Sl → Heap → (Bool → Heap → Prop) → Prop) (size1 : Int) (actors2 : Int) (room3 : Int) (moves4 : Sl) (h5 : Heap) (Q : Bool → Heap → Prop) : Prop :=
    c_ref21_New size1 actors2 room3 h5 fun r6 h7 =>
    c_buffers_New size1 actors2 room3 h7 fun r8 h9 =>
    (((decide (r8.2.1 ≠ r6.2.1)) = true →
    law21_BuffersViews.j5 c_law21_moved c_law21_shelf_stands c_buffers_Memory_Cells c_law21_sameNumbers c_buffers_Memory_Log c_law21_sameLog c_law21_untold size1 actors2 room3 moves4 Q r6 r8 (true, ()) h9) ∧
    ((decide (r8.2.1 ≠ r6.2.1)) = false →
    law21_BuffersViews.j5 c_law21_moved c_law21_shelf_stands c_buffers_Memory_Cells c_law21_sameNumbers c_buffers_Memory_Log c_law21_sameLog c_law21_untold size1 actors2 room3 moves4 Q r6 r8 ((!((Option.isNone r8.1) == (decide (r6.2.1 ≠ 0)))), ()) h9))
def law21_BuffersViews.mk : Mk := (.s .d (.s .d (.s .d (.j [] (.j [.slot 39 .bool] .d (.c (.s .d .d) .d)) (.s .d (.s (.s .d (.b (.l [.slot 14 (.int .i64)] (.s (.s .d (.c .d .d)) (.j [] (.b (.s .d (.j [.slot 62 .bool] .d (.c (.s .d .d) .d)))) .d))))) (.s (.q [] [] [.p 0, .p 2, .p 3, .p 4, .w 5 [5, 6, 7, 8, 9, 10, 11, 12, 13, 14, 15, 16, 17, 18, 19, 20, 21, 22, 23, 24, 25, 26, 27, 28, 29], .p 6, .p 7, .w 8 [8, 9, 10, 11, 12, 13, 14, 15, 16, 17, 18, 19, 20, 21, 22, 23, 24, 25, 26, 27, 28, 29], .o 1, .o 9, .p 10, .p 11, .p 13, .p 14, .p 15, .w 16 [16, 17, 18, 19, 20, 21, 22, 23, 24, 25, 26, 27, 28, 29], .p 17, .p 18, .w 19 [19, 20, 21, 22, 23, 24, 25, 26, 27, 28, 29], .o 12, .o 20, .p 21, .p 22, .p 23, .p 24, .p 25, .p 26, .o 27, .p 28, .p 29]) .d)))))))

def ref21_New.j1 (actors2 : Int) (room3 : Int) (Q : Den kbuffersplace → Heap → Prop) (r5 : Den kbuffersplace) (s9 : Unit) (h10 : Heap) : Prop :=
    deref r5.1 fun a11 =>
    st (.bool : Kd) h10 (a11.add 2) true fun h12 =>
    makeM (.sl : Kd) 24 h12 actors2 actors2 fun s13 h14 =>
    new h14 (kref21Memory.cells (r5.1, (room3, (s13, ())))) fun p15 h16 =>
    Q ((some p15), 0, ()) h16
def ref21_New.j2 (actors2 : Int) (room3 : Int) (Q : Den kbuffersplace → Heap → Prop) (r5 : Den kbuffersplace) (s17 : (Bool × Unit)) (h18 : Heap) : Prop :=
    ((s17.1 = true →
    new h18 (kref2Arena.cells (0, (Sl.none, (false, (0, (Sl.none, ())))))) fun p19 h20 =>
    new h20 (kref21Memory.cells ((some p19), (0, (Sl.none, ())))) fun p21 h22 =>
    Q ((some p21), 210, ()) h22) ∧
    (s17.1 = false →
    ref21_New.j1 actors2 room3 Q r5 () h18))
def ref21_New.M (c_ref2_New : Int → Heap → (Den kbuffersplace → Heap → Prop) → Prop) (size1 : Int) (actors2 : Int) (room3 : Int) (h4 : Heap) (Q : Den kbuffersplace → Heap → Prop) : Prop :=
    c_ref2_New size1 h4 fun r5 h6 =>
    (((decide (r5.2.1 ≠ 0)) = true →
    new h6 (kref21Memory.cells (r5.1, (0, (Sl.none, ())))) fun p7 h8 =>
    Q ((some p7), r5.2.1, ()) h8) ∧
    ((decide (r5.2.1 ≠ 0)) = false →
    (((decide (actors2 < 1)) = true →
    ref21_New.j2 actors2 room3 Q r5 (true, ()) h6) ∧
    ((decide (actors2 < 1)) = false →
    (((decide ((8 : Int) < actors2)) = true →
    ref21_New.j2 actors2 room3 Q r5 (true, ()) h6) ∧
    ((decide ((8 : Int) < actors2)) = false →
    (((decide (room3 < 1)) = true →
    ref21_New.j2 actors2 room3 Q r5 (true, ()) h6) ∧
    ((decide (room3 < 1)) = false →
    ref21_New.j2 actors2 room3 Q r5 ((decide ((64 : Int) < room3)), ()) h6))))))))
def ref21_New.mk : Mk := (.s .d (.s .d (.s (.s .d (.c (.s .d .d) .d)) (.j [] (.j [.slot 34 .bool] .d (.c (.s .d .d) .d)) (.s .d (.s .d .d))))))

def buffers_New.l1 (actors2 : Int) (Q : Den kbuffersplace → Heap → Prop) (p11 : Addr) (go15 : (Int × Unit) → Heap → Prop) (s13 : (Int × Unit)) (h14 : Heap) : Prop :=
    (((decide (s13.1 < actors2)) = true →
    (0 ≤ s13.1 ∧ s13.1 < (8 : Int)) ∧
    st kbuffersView h14 ((p11.add 11).add ((s13.1 : Int).toNat * 2)) (((some p11), (s13.1, ())), ()) fun h16 =>
    go15 ((w64 (s13.1 + 1)), ()) h16) ∧
    ((decide (s13.1 < actors2)) = false →
    Q ((some p11), 0, ()) h14))
def buffers_New.j2 (c_cells_Arena_Watch : Option Addr → Bool → Heap → (Unit → Heap → Prop) → Prop) (actors2 : Int) (room3 : Int) (Q : Den kbuffersplace → Heap → Prop) (r5 : Den kbuffersplace) (s7 : Unit) (h8 : Heap) : Prop :=
    c_cells_Arena_Watch r5.1 true h8 fun r9 h10 =>
    new h10 (kbuffersMemory.cells (r5.1, (actors2, (room3, ((fun _ => Sl.none), ((fun _ => ((none, (0, ())), ())), ())))))) fun p11 h12 =>
    Loop (buffers_New.l1 actors2 Q p11) (0, ()) h12
def buffers_New.j3 (c_cells_Arena_Watch : Option Addr → Bool → Heap → (Unit → Heap → Prop) → Prop) (actors2 : Int) (room3 : Int) (Q : Den kbuffersplace → Heap → Prop) (r5 : Den kbuffersplace) (s17 : (Bool × Unit)) (h18 : Heap) : Prop :=
    ((s17.1 = true →
    Q (none, 210, ()) h18) ∧
    (s17.1 = false →
    buffers_New.j2 c_cells_Arena_Watch actors2 room3 Q r5 () h18))
def buffers_New.M (c_cells_New : Int → Heap → (Den kbuffersplace → Heap → Prop) → Prop) (c_cells_Arena_Watch : Option Addr → Bool → Heap → (Unit → Heap → Prop) → Prop) (size1 : Int) (actors2 : Int) (room3 : Int) (h4 : Heap) (Q : Den kbuffersplace → Heap → Prop) : Prop :=
    c_cells_New size1 h4 fun r5 h6 =>
    (((decide (r5.2.1 ≠ 0)) = true →
    Q (none, r5.2.1, ()) h6) ∧
    ((decide (r5.2.1 ≠ 0)) = false →
    (((decide (actors2 < 1)) = true →
    buffers_New.j3 c_cells_Arena_Watch actors2 room3 Q r5 (true, ()) h6) ∧
    ((decide (actors2 < 1)) = false →
    (((decide ((8 : Int) < actors2)) = true →
    buffers_New.j3 c_cells_Arena_Watch actors2 room3 Q r5 (true, ()) h6) ∧
    ((decide ((8 : Int) < actors2)) = false →
    (((decide (room3 < 1)) = true →
    buffers_New.j3 c_cells_Arena_Watch actors2 room3 Q r5 (true, ()) h6) ∧
    ((decide (room3 < 1)) = false →
    buffers_New.j3 c_cells_Arena_Watch actors2 room3 Q r5 ((decide ((64 : Int) < room3)), ()) h6))))))))
def buffers_New.mk : Mk := (.s .d (.s .d (.s (.s .d (.c (.s .d .d) .d)) (.j [] (.j [.slot 33 .bool] .d (.c (.s .d .d) .d)) (.s .d (.s .d (.s (.s .d (.b (.l [.slot 42 (.int .i64)] (.s .d (.s (.c .d .d) (.s (.b (.s .d .d)) .d)))))) (.s .d .d))))))))

def law21_moved.j1 (Q : Bool → Heap → Prop) (s12 : Unit) (h13 : Heap) : Prop :=
    Q true h13
def law21_moved.j2 (c_law21_sameWaits : Sl → Sl → Heap → (Bool → Heap → Prop) → Prop) (c_law21_shelf_keep : Option Addr → Sl → Sl → Sl → Heap → (Unit → Heap → Prop) → Prop) (all4 : Option Addr) (Q : Bool → Heap → Prop) (r28 : Sl) (s30 : (Sl × Unit)) (h31 : Heap) : Prop :=
    c_law21_sameWaits r28 s30.1 h31 fun r32 h33 =>
    c_law21_shelf_keep all4 r28 ⟨none, 0, 0⟩ ⟨none, 0, 0⟩ h33 fun r34 h35 =>
    Q r32 h35
def law21_moved.j3 (c_law21_by : Option Addr → Den klaw21Move → Heap → (Den kapiEffect → Heap → Prop) → Prop) (c_ref21_Memory_Do : Option Addr → Int → Den klaw21Move → Heap → (Den kapiEffect → Heap → Prop) → Prop) (c_buffers_View_Fence : Option Addr → Heap → (Unit → Heap → Prop) → Prop) (c_ref21_Memory_Drain : Option Addr → Int → Heap → (Unit → Heap → Prop) → Prop) (c_buffers_Memory_Flush : Option Addr → Int → Heap → (Bool → Heap → Prop) → Prop) (c_ref21_Memory_Flush : Option Addr → Int → Heap → (Bool → Heap → Prop) → Prop) (c_buffers_Memory_Waiting : Option Addr → Int → Heap → (Sl → Heap → Prop) → Prop) (c_law21_sameWaits : Sl → Sl → Heap → (Bool → Heap → Prop) → Prop) (c_law21_shelf_keep : Option Addr → Sl → Sl → Sl → Heap → (Unit → Heap → Prop) → Prop) (c_buffers_Memory_Cells : Option Addr → Heap → (Sl → Heap → Prop) → Prop) (c_law21_sameNumbers : Sl → Sl → Heap → (Bool → Heap → Prop) → Prop) (c_buffers_Memory_Log : Option Addr → Heap → (Sl → Heap → Prop) → Prop) (c_law21_sameLog : Sl → Sl → Heap → (Bool → Heap → Prop) → Prop) (m1 : Option Addr) (r2 : Option Addr) (x3 : Den klaw21Move) (all4 : Option Addr) (Q : Bool → Heap → Prop) (r6 : Option Addr) (s8 : (Bool × Unit)) (s10 : (Option Addr × Unit)) (s14 : (Bool × Unit)) (h15 : Heap) : Prop :=
    ((s14.1 = true →
    c_law21_by r6 (x3.1, (x3.2.1, (x3.2.2.1, (x3.2.2.2.1, (x3.2.2.2.2.1, ()))))) h15 fun r16 h17 =>
    c_ref21_Memory_Do s10.1 x3.1 (0, (x3.2.1, (x3.2.2.1, (x3.2.2.2.1, (x3.2.2.2.2.1, ()))))) h17 fun r18 h19 =>
    Q (eqK kapiEffect (r16.1, (r16.2.1, (r16.2.2.1, ()))) (r18.1, (r18.2.1, (r18.2.2.1, ())))) h19) ∧
    (s14.1 = false →
    (((decide (x3.2.1 = 5)) = true →
    c_buffers_View_Fence r6 h15 fun r20 h21 =>
    c_ref21_Memory_Drain s10.1 x3.1 h21 fun r22 h23 =>
    law21_moved.j1 Q () h23) ∧
    ((decide (x3.2.1 = 5)) = false →
    (((decide (x3.2.1 = 6)) = true →
    c_buffers_Memory_Flush m1 x3.1 h15 fun r24 h25 =>
    c_ref21_Memory_Flush r2 x3.1 h25 fun r26 h27 =>
    Q (r24 == r26) h27) ∧
    ((decide (x3.2.1 = 6)) = false →
    (((decide (x3.2.1 = 7)) = true →
    c_buffers_Memory_Waiting m1 x3.1 h15 fun r28 h29 =>
    ((s8.1 = true →
    deref r2 fun a36 =>
    ld (.sl : Kd) h29 (a36.add 2) fun t37 =>
    (0 ≤ x3.1 ∧ x3.1 < (t37.len : Int)) ∧
    deref t37.a fun a38 =>
    ld (.sl : Kd) h29 (a38.add ((x3.1 : Int).toNat * 1)) fun t39 =>
    law21_moved.j2 c_law21_sameWaits c_law21_shelf_keep all4 Q r28 (t39, ()) h29) ∧
    (s8.1 = false →
    law21_moved.j2 c_law21_sameWaits c_law21_shelf_keep all4 Q r28 (⟨none, 0, 0⟩, ()) h29))) ∧
    ((decide (x3.2.1 = 7)) = false →
    (((decide (x3.2.1 = 8)) = true →
    c_buffers_Memory_Cells m1 h15 fun r40 h41 =>
    deref r2 fun a42 =>
    ld (.ptr : Kd) h41 (a42.add 0) fun t43 =>
    deref t43 fun a44 =>
    ld (.sl : Kd) h41 (a44.add 1) fun t45 =>
    c_law21_sameNumbers r40 t45 h41 fun r46 h47 =>
    c_law21_shelf_keep all4 ⟨none, 0, 0⟩ r40 ⟨none, 0, 0⟩ h47 fun r48 h49 =>
    Q r46 h49) ∧
    ((decide (x3.2.1 = 8)) = false →
    (((decide (x3.2.1 = 9)) = true →
    c_buffers_Memory_Log m1 h15 fun r50 h51 =>
    deref r2 fun a52 =>
    ld (.ptr : Kd) h51 (a52.add 0) fun t53 =>
    deref t53 fun a54 =>
    ld (.sl : Kd) h51 (a54.add 4) fun t55 =>
    c_law21_sameLog r50 t55 h51 fun r56 h57 =>
    c_law21_shelf_keep all4 ⟨none, 0, 0⟩ ⟨none, 0, 0⟩ r50 h57 fun r58 h59 =>
    Q r56 h59) ∧
    ((decide (x3.2.1 = 9)) = false →
    law21_moved.j1 Q () h15))))))))))))
def law21_moved.j4 (c_law21_by : Option Addr → Den klaw21Move → Heap → (Den kapiEffect → Heap → Prop) → Prop) (c_ref21_Memory_Do : Option Addr → Int → Den klaw21Move → Heap → (Den kapiEffect → Heap → Prop) → Prop) (c_buffers_View_Fence : Option Addr → Heap → (Unit → Heap → Prop) → Prop) (c_ref21_Memory_Drain : Option Addr → Int → Heap → (Unit → Heap → Prop) → Prop) (c_buffers_Memory_Flush : Option Addr → Int → Heap → (Bool → Heap → Prop) → Prop) (c_ref21_Memory_Flush : Option Addr → Int → Heap → (Bool → Heap → Prop) → Prop) (c_buffers_Memory_Waiting : Option Addr → Int → Heap → (Sl → Heap → Prop) → Prop) (c_law21_sameWaits : Sl → Sl → Heap → (Bool → Heap → Prop) → Prop) (c_law21_shelf_keep : Option Addr → Sl → Sl → Sl → Heap → (Unit → Heap → Prop) → Prop) (c_buffers_Memory_Cells : Option Addr → Heap → (Sl → Heap → Prop) → Prop) (c_law21_sameNumbers : Sl → Sl → Heap → (Bool → Heap → Prop) → Prop) (c_buffers_Memory_Log : Option Addr → Heap → (Sl → Heap → Prop) → Prop) (c_law21_sameLog : Sl → Sl → Heap → (Bool → Heap → Prop) → Prop) (m1 : Option Addr) (r2 : Option Addr) (x3 : Den klaw21Move) (all4 : Option Addr) (Q : Bool → Heap → Prop) (r6 : Option Addr) (s8 : (Bool × Unit)) (s10 : (Option Addr × Unit)) (h11 : Heap) : Prop :=
    (((decide (x3.2.1 = 0)) = true →
    law21_moved.j3 c_law21_by c_ref21_Memory_Do c_buffers_View_Fence c_ref21_Memory_Drain c_buffers_Memory_Flush c_ref21_Memory_Flush c_buffers_Memory_Waiting c_law21_sameWaits c_law21_shelf_keep c_buffers_Memory_Cells c_law21_sameNumbers c_buffers_Memory_Log c_law21_sameLog m1 r2 x3 all4 Q r6 s8 s10 ((decide (x3.2.1 = 0)), ()) h11) ∧
    ((decide (x3.2.1 = 0)) = false →
    (((decide (x3.2.1 = 1)) = true →
    law21_moved.j3 c_law21_by c_ref21_Memory_Do c_buffers_View_Fence c_ref21_Memory_Drain c_buffers_Memory_Flush c_ref21_Memory_Flush c_buffers_Memory_Waiting c_law21_sameWaits c_law21_shelf_keep c_buffers_Memory_Cells c_law21_sameNumbers c_buffers_Memory_Log c_law21_sameLog m1 r2 x3 all4 Q r6 s8 s10 ((decide (x3.2.1 = 1)), ()) h11) ∧
    ((decide (x3.2.1 = 1)) = false →
    (((decide (x3.2.1 = 2)) = true →
    law21_moved.j3 c_law21_by c_ref21_Memory_Do c_buffers_View_Fence c_ref21_Memory_Drain c_buffers_Memory_Flush c_ref21_Memory_Flush c_buffers_Memory_Waiting c_law21_sameWaits c_law21_shelf_keep c_buffers_Memory_Cells c_law21_sameNumbers c_buffers_Memory_Log c_law21_sameLog m1 r2 x3 all4 Q r6 s8 s10 ((decide (x3.2.1 = 2)), ()) h11) ∧
    ((decide (x3.2.1 = 2)) = false →
    (((decide (x3.2.1 = 3)) = true →
    law21_moved.j3 c_law21_by c_ref21_Memory_Do c_buffers_View_Fence c_ref21_Memory_Drain c_buffers_Memory_Flush c_ref21_Memory_Flush c_buffers_Memory_Waiting c_law21_sameWaits c_law21_shelf_keep c_buffers_Memory_Cells c_law21_sameNumbers c_buffers_Memory_Log c_law21_sameLog m1 r2 x3 all4 Q r6 s8 s10 ((decide (x3.2.1 = 3)), ()) h11) ∧
    ((decide (x3.2.1 = 3)) = false →
    law21_moved.j3 c_law21_by c_ref21_Memory_Do c_buffers_View_Fence c_ref21_Memory_Drain c_buffers_Memory_Flush c_ref21_Memory_Flush c_buffers_Memory_Waiting c_law21_sameWaits c_law21_shelf_keep c_buffers_Memory_Cells c_law21_sameNumbers c_buffers_Memory_Log c_law21_sameLog m1 r2 x3 all4 Q r6 s8 s10 ((decide (x3.2.1 = 4)), ()) h11))))))))
def law21_moved.j5 (c_ref21_New : Int → Int → Int → Heap → (Den kbuffersplace → Heap → Prop) → Prop) (c_law21_by : Option Addr → Den klaw21Move → Heap → (Den kapiEffect → Heap → Prop) → Prop) (c_ref21_Memory_Do : Option Addr → Int → Den klaw21Move → Heap → (Den kapiEffect → Heap → Prop) → Prop) (c_buffers_View_Fence : Option Addr → Heap → (Unit → Heap → Prop) → Prop) (c_ref21_Memory_Drain : Option Addr → Int → Heap → (Unit → Heap → Prop) → Prop) (c_buffers_Memory_Flush : Option Addr → Int → Heap → (Bool → Heap → Prop) → Prop) (c_ref21_Memory_Flush : Option Addr → Int → Heap → (Bool → Heap → Prop) → Prop) (c_buffers_Memory_Waiting : Option Addr → Int → Heap → (Sl → Heap → Prop) → Prop) (c_law21_sameWaits : Sl → Sl → Heap → (Bool → Heap → Prop) → Prop) (c_law21_shelf_keep : Option Addr → Sl → Sl → Sl → Heap → (Unit → Heap → Prop) → Prop) (c_buffers_Memory_Cells : Option Addr → Heap → (Sl → Heap → Prop) → Prop) (c_law21_sameNumbers : Sl → Sl → Heap → (Bool → Heap → Prop) → Prop) (c_buffers_Memory_Log : Option Addr → Heap → (Sl → Heap → Prop) → Prop) (c_law21_sameLog : Sl → Sl → Heap → (Bool → Heap → Prop) → Prop) (m1 : Option Addr) (r2 : Option Addr) (x3 : Den klaw21Move) (all4 : Option Addr) (Q : Bool → Heap → Prop) (r6 : Option Addr) (s8 : (Bool × Unit)) (h9 : Heap) : Prop :=
    (((!((Option.isSome r6) == s8.1)) = true →
    Q false h9) ∧
    ((!((Option.isSome r6) == s8.1)) = false →
    (((!s8.1) = true →
    c_ref21_New 0 0 0 h9 fun r60 h61 =>
    law21_moved.j4 c_law21_by c_ref21_Memory_Do c_buffers_View_Fence c_ref21_Memory_Drain c_buffers_Memory_Flush c_ref21_Memory_Flush c_buffers_Memory_Waiting c_law21_sameWaits c_law21_shelf_keep c_buffers_Memory_Cells c_law21_sameNumbers c_buffers_Memory_Log c_law21_sameLog m1 r2 x3 all4 Q r6 s8 (r60.1, ()) h61) ∧
    ((!s8.1) = false →
    law21_moved.j4 c_law21_by c_ref21_Memory_Do c_buffers_View_Fence c_ref21_Memory_Drain c_buffers_Memory_Flush c_ref21_Memory_Flush c_buffers_Memory_Waiting c_law21_sameWaits c_law21_shelf_keep c_buffers_Memory_Cells c_law21_sameNumbers c_buffers_Memory_Log c_law21_sameLog m1 r2 x3 all4 Q r6 s8 (r2, ()) h9))))
def law21_moved.M (c_buffers_Memory_View : Option Addr → Int → Heap → (Option Addr → Heap → Prop) → Prop) (c_ref21_New : Int → Int → Int → Heap → (Den kbuffersplace → Heap → Prop) → Prop) (c_law21_by : Option Addr → Den klaw21Move → Heap → (Den kapiEffect → Heap → Prop) → Prop) (c_ref21_Memory_Do : Option Addr → Int → Den klaw21Move → Heap → (Den kapiEffect → Heap → Prop) → Prop) (c_buffers_View_Fence : Option Addr → Heap → (Unit → Heap → Prop) → Prop) (c_ref21_Memory_Drain : Option Addr → Int → Heap → (Unit → Heap → Prop) → Prop) (c_buffers_Memory_Flush : Option Addr → Int → Heap → (Bool → Heap → Prop) → Prop) (c_ref21_Memory_Flush : Option Addr → Int → Heap → (Bool → Heap → Prop) → Prop) (c_buffers_Memory_Waiting : Option Addr → Int → Heap → (Sl → Heap → Prop) → Prop) (c_law21_sameWaits : Sl → Sl → Heap → (Bool → Heap → Prop) → Prop) (c_law21_shelf_keep : Option Addr → Sl → Sl → Sl → Heap → (Unit → Heap → Prop) → Prop) (c_buffers_Memory_Cells : Option Addr → Heap → (Sl → Heap → Prop) → Prop) (c_law21_sameNumbers : Sl → Sl → Heap → (Bool → Heap → Prop) → Prop) (c_buffers_Memory_Log : Option Addr → Heap → (Sl → Heap → Prop) → Prop) (c_law21_sameLog : Sl → Sl → Heap → (Bool → Heap → Prop) → Prop) (m1 : Option Addr) (r2 : Option Addr) (x3 : Den klaw21Move) (all4 : Option Addr) (h5 : Heap) (Q : Bool → Heap → Prop) : Prop :=
    c_buffers_Memory_View m1 x3.1 h5 fun r6 h7 =>
    (((decide ((0 : Int) ≤ x3.1)) = true →
    deref r2 fun a62 =>
    ld (.sl : Kd) h7 (a62.add 2) fun t63 =>
    law21_moved.j5 c_ref21_New c_law21_by c_ref21_Memory_Do c_buffers_View_Fence c_ref21_Memory_Drain c_buffers_Memory_Flush c_ref21_Memory_Flush c_buffers_Memory_Waiting c_law21_sameWaits c_law21_shelf_keep c_buffers_Memory_Cells c_law21_sameNumbers c_buffers_Memory_Log c_law21_sameLog m1 r2 x3 all4 Q r6 ((decide (x3.1 < (t63.len : Int))), ()) h7) ∧
    ((decide ((0 : Int) ≤ x3.1)) = false →
    law21_moved.j5 c_ref21_New c_law21_by c_ref21_Memory_Do c_buffers_View_Fence c_ref21_Memory_Drain c_buffers_Memory_Flush c_ref21_Memory_Flush c_buffers_Memory_Waiting c_law21_sameWaits c_law21_shelf_keep c_buffers_Memory_Cells c_law21_sameNumbers c_buffers_Memory_Log c_law21_sameLog m1 r2 x3 all4 Q r6 (false, ()) h7))
def law21_moved.mk : Mk := (.s (.r [0]) (.s .d (.j [.slot 10 .bool] (.q [] [] [.p 0, .w 1 [1, 2, 3, 4, 5, 6, 7, 8, 9, 10, 11, 12, 13], .p 2, .p 3, .p 4, .p 6, .p 7, .p 8, .w 5 [5, 11, 12, 13], .w 9 [9, 10, 11, 12, 13], .p 10, .p 11, .p 12, .p 13]) (.s (.s .d (.c (.s .d .d) .d)) (.s .d (.j [.slot 11 .ptr] (.s .d (.c .d .d)) (.j [] (.s .d (.b (.j [.slot 53 .bool] (.s .d (.c .d (.s .d (.c .d (.s .d (.c .d (.s .d (.c .d .d)))))))) (.c (.s (.r [3]) (.s (.r [13]) (.s .d .d))) (.s .d (.c (.s .d .d) (.s .d (.c (.s .d (.s .d (.s .d .d))) (.s .d (.c (.s .d (.s .d (.j [.slot 17 .sl] (.s .d (.c (.q [] [] [.p 0, .p 1, .p 2, .p 4, .w 3 [3, 6, 7, 8], .w 5 [5, 6, 7, 8], .p 6, .w 7 [7, 8], .p 8]) .d)) (.s .d (.s .d (.s .d .d)))))) (.s .d (.c (.s .d (.s .d (.s .d (.s .d .d)))) (.s .d (.c (.s .d (.s .d (.s .d (.s .d .d)))) .d)))))))))))))) (.s .d .d))))))))

def law21_shelf_stands.l1 (s1 : Option Addr) (Q : Bool → Heap → Prop) (go5 : (Int × Unit) → Heap → Prop) (s3 : (Int × Unit)) (go36 : (Int × Unit) → Heap → Prop) (s34 : (Int × Unit)) (h35 : Heap) : Prop :=
    deref s1 fun a37 =>
    ld (.sl : Kd) h35 (a37.add 2) fun t38 =>
    (0 ≤ s3.1 ∧ s3.1 < (t38.len : Int)) ∧
    deref t38.a fun a39 =>
    ld (.sl : Kd) h35 (a39.add ((s3.1 : Int).toNat * 1)) fun t40 =>
    (((decide (s34.1 < (t40.len : Int))) = true →
    deref s1 fun a41 =>
    ld (.sl : Kd) h35 (a41.add 2) fun t42 =>
    (0 ≤ s3.1 ∧ s3.1 < (t42.len : Int)) ∧
    deref t42.a fun a43 =>
    ld (.sl : Kd) h35 (a43.add ((s3.1 : Int).toNat * 1)) fun t44 =>
    (0 ≤ s34.1 ∧ s34.1 < (t44.len : Int)) ∧
    deref t44.a fun a45 =>
    ld kapiAccess h35 (a45.add ((s34.1 : Int).toNat * 6)) fun t46 =>
    (((!(eqK kapiAccess t46 ((w64 ((-9) - s3.1)), (9, (0, (0, (0, (false, ())))))))) = true →
    Q false h35) ∧
    ((!(eqK kapiAccess t46 ((w64 ((-9) - s3.1)), (9, (0, (0, (0, (false, ())))))))) = false →
    go36 ((w64 (s34.1 + 1)), ()) h35))) ∧
    ((decide (s34.1 < (t40.len : Int))) = false →
    go5 ((w64 (s3.1 + 1)), ()) h35))
def law21_shelf_stands.l2 (s1 : Option Addr) (Q : Bool → Heap → Prop) (go5 : (Int × Unit) → Heap → Prop) (s3 : (Int × Unit)) (go23 : (Int × Unit) → Heap → Prop) (s21 : (Int × Unit)) (h22 : Heap) : Prop :=
    deref s1 fun a24 =>
    ld (.sl : Kd) h22 (a24.add 1) fun t25 =>
    (0 ≤ s3.1 ∧ s3.1 < (t25.len : Int)) ∧
    deref t25.a fun a26 =>
    ld (.sl : Kd) h22 (a26.add ((s3.1 : Int).toNat * 1)) fun t27 =>
    (((decide (s21.1 < (t27.len : Int))) = true →
    deref s1 fun a28 =>
    ld (.sl : Kd) h22 (a28.add 1) fun t29 =>
    (0 ≤ s3.1 ∧ s3.1 < (t29.len : Int)) ∧
    deref t29.a fun a30 =>
    ld (.sl : Kd) h22 (a30.add ((s3.1 : Int).toNat * 1)) fun t31 =>
    (0 ≤ s21.1 ∧ s21.1 < (t31.len : Int)) ∧
    deref t31.a fun a32 =>
    ld ((.int .i64) : Kd) h22 (a32.add ((s21.1 : Int).toNat * 1)) fun t33 =>
    (((decide (t33 ≠ (w64 ((-1000) - s3.1)))) = true →
    Q false h22) ∧
    ((decide (t33 ≠ (w64 ((-1000) - s3.1)))) = false →
    go23 ((w64 (s21.1 + 1)), ()) h22))) ∧
    ((decide (s21.1 < (t27.len : Int))) = false →
    Loop (law21_shelf_stands.l1 s1 Q go5 s3) (0, ()) h22))
def law21_shelf_stands.l3 (s1 : Option Addr) (Q : Bool → Heap → Prop) (go5 : (Int × Unit) → Heap → Prop) (s3 : (Int × Unit)) (go10 : (Int × Unit) → Heap → Prop) (s8 : (Int × Unit)) (h9 : Heap) : Prop :=
    deref s1 fun a11 =>
    ld (.sl : Kd) h9 (a11.add 0) fun t12 =>
    (0 ≤ s3.1 ∧ s3.1 < (t12.len : Int)) ∧
    deref t12.a fun a13 =>
    ld (.sl : Kd) h9 (a13.add ((s3.1 : Int).toNat * 1)) fun t14 =>
    (((decide (s8.1 < (t14.len : Int))) = true →
    deref s1 fun a15 =>
    ld (.sl : Kd) h9 (a15.add 0) fun t16 =>
    (0 ≤ s3.1 ∧ s3.1 < (t16.len : Int)) ∧
    deref t16.a fun a17 =>
    ld (.sl : Kd) h9 (a17.add ((s3.1 : Int).toNat * 1)) fun t18 =>
    (0 ≤ s8.1 ∧ s8.1 < (t18.len : Int)) ∧
    deref t18.a fun a19 =>
    ld kapiWait h9 (a19.add ((s8.1 : Int).toNat * 2)) fun t20 =>
    (((!(eqK kapiWait t20 ((w64 ((-9) - s3.1)), ((-9), ())))) = true →
    Q false h9) ∧
    ((!(eqK kapiWait t20 ((w64 ((-9) - s3.1)), ((-9), ())))) = false →
    go10 ((w64 (s8.1 + 1)), ()) h9))) ∧
    ((decide (s8.1 < (t14.len : Int))) = false →
    Loop (law21_shelf_stands.l2 s1 Q go5 s3) (0, ()) h9))
def law21_shelf_stands.l4 (s1 : Option Addr) (Q : Bool → Heap → Prop) (go5 : (Int × Unit) → Heap → Prop) (s3 : (Int × Unit)) (h4 : Heap) : Prop :=
    deref s1 fun a6 =>
    ld (.sl : Kd) h4 (a6.add 0) fun t7 =>
    (((decide (s3.1 < (t7.len : Int))) = true →
    Loop (law21_shelf_stands.l3 s1 Q go5 s3) (0, ()) h4) ∧
    ((decide (s3.1 < (t7.len : Int))) = false →
    Q true h4))
def law21_shelf_stands.M  (s1 : Option Addr) (h2 : Heap) (Q : Bool → Heap → Prop) : Prop :=
    Loop (law21_shelf_stands.l4 s1 Q) (0, ()) h2
def law21_shelf_stands.mk : Mk := (.s .d (.s (.s .d (.b (.l [.slot 3 (.int .i64)] (.s (.s .d (.c .d .d)) (.s (.b (.s (.s .d (.b (.l [.slot 4 (.int .i64)] (.s (.s .d (.c .d .d)) (.s (.b (.s .d (.c (.s .d .d) .d))) .d))))) (.s (.s .d (.b (.l [.slot 5 (.int .i64)] (.s (.s .d (.c .d .d)) (.s (.b (.s .d (.c (.s .d .d) .d))) .d))))) (.s .d (.b (.l [.slot 6 (.int .i64)] (.s (.s .d (.c .d .d)) (.s (.b (.s .d (.c (.s .d .d) .d))) .d)))))))) .d))))) (.s .d .d)))

def law21_sameNumbers.l1 (a1 : Sl) (b2 : Sl) (Q : Bool → Heap → Prop) (go6 : (Int × Unit) → Heap → Prop) (s4 : (Int × Unit)) (h5 : Heap) : Prop :=
    (((decide (s4.1 < (a1.len : Int))) = true →
    (0 ≤ s4.1 ∧ s4.1 < (a1.len : Int)) ∧
    deref a1.a fun a7 =>
    (0 ≤ s4.1 ∧ s4.1 < (b2.len : Int)) ∧
    deref b2.a fun a8 =>
    ld ((.int .i64) : Kd) h5 (a7.add ((s4.1 : Int).toNat * 1)) fun t9 =>
    ld ((.int .i64) : Kd) h5 (a8.add ((s4.1 : Int).toNat * 1)) fun t10 =>
    (((decide (t9 ≠ t10)) = true →
    Q false h5) ∧
    ((decide (t9 ≠ t10)) = false →
    go6 ((w64 (s4.1 + 1)), ()) h5))) ∧
    ((decide (s4.1 < (a1.len : Int))) = false →
    Q true h5))
def law21_sameNumbers.M  (a1 : Sl) (b2 : Sl) (h3 : Heap) (Q : Bool → Heap → Prop) : Prop :=
    (((decide ((a1.len : Int) ≠ (b2.len : Int))) = true →
    Q false h3) ∧
    ((decide ((a1.len : Int) ≠ (b2.len : Int))) = false →
    Loop (law21_sameNumbers.l1 a1 b2 Q) (0, ()) h3))
def law21_sameNumbers.mk : Mk := (.s .d (.s (.s .d (.c (.s .d .d) .d)) (.s (.s .d (.b (.l [.slot 5 (.int .i64)] (.s (.s .d (.c .d .d)) (.s (.b (.s (.q [] [] [.p 0, .p 1, .p 2, .p 4, .p 5, .p 6, .w 3 [3, 8], .w 7 [7, 8], .p 8]) (.c (.s .d .d) .d))) .d))))) (.s .d .d))))

def buffers_Memory_Cells.M (c_cells_Arena_Cells : Option Addr → Heap → (Sl → Heap → Prop) → Prop) (m1 : Option Addr) (h2 : Heap) (Q : Sl → Heap → Prop) : Prop :=
    (((Option.isNone m1) = true →
    Q ⟨none, 0, 0⟩ h2) ∧
    ((Option.isNone m1) = false →
    deref m1 fun a3 =>
    ld (.ptr : Kd) h2 (a3.add 0) fun t4 =>
    c_cells_Arena_Cells t4 h2 fun r5 h6 =>
    Q r5 h6))
def buffers_Memory_Cells.mk : Mk := (.s .d (.s (.s .d (.c (.s .d .d) .d)) (.s .d .d)))

def law21_sameLog.l1 (a1 : Sl) (b2 : Sl) (Q : Bool → Heap → Prop) (go6 : (Int × Unit) → Heap → Prop) (s4 : (Int × Unit)) (h5 : Heap) : Prop :=
    (((decide (s4.1 < (a1.len : Int))) = true →
    (0 ≤ s4.1 ∧ s4.1 < (a1.len : Int)) ∧
    deref a1.a fun a7 =>
    (0 ≤ s4.1 ∧ s4.1 < (b2.len : Int)) ∧
    deref b2.a fun a8 =>
    ld kapiAccess h5 (a7.add ((s4.1 : Int).toNat * 6)) fun t9 =>
    ld kapiAccess h5 (a8.add ((s4.1 : Int).toNat * 6)) fun t10 =>
    (((!(eqK kapiAccess t9 t10)) = true →
    Q false h5) ∧
    ((!(eqK kapiAccess t9 t10)) = false →
    go6 ((w64 (s4.1 + 1)), ()) h5))) ∧
    ((decide (s4.1 < (a1.len : Int))) = false →
    Q true h5))
def law21_sameLog.M  (a1 : Sl) (b2 : Sl) (h3 : Heap) (Q : Bool → Heap → Prop) : Prop :=
    (((decide ((a1.len : Int) ≠ (b2.len : Int))) = true →
    Q false h3) ∧
    ((decide ((a1.len : Int) ≠ (b2.len : Int))) = false →
    Loop (law21_sameLog.l1 a1 b2 Q) (0, ()) h3))
def law21_sameLog.mk : Mk := (.s .d (.s (.s .d (.c (.s .d .d) .d)) (.s (.s .d (.b (.l [.slot 5 (.int .i64)] (.s (.s .d (.c .d .d)) (.s (.b (.s (.q [] [] [.p 0, .p 1, .p 2, .p 4, .p 5, .p 6, .w 3 [3, 8], .w 7 [7, 8], .p 8]) (.c (.s .d .d) .d))) .d))))) (.s .d .d))))

def buffers_Memory_Log.M (c_cells_Arena_Log : Option Addr → Heap → (Sl → Heap → Prop) → Prop) (m1 : Option Addr) (h2 : Heap) (Q : Sl → Heap → Prop) : Prop :=
    (((Option.isNone m1) = true →
    Q ⟨none, 0, 0⟩ h2) ∧
    ((Option.isNone m1) = false →
    deref m1 fun a3 =>
    ld (.ptr : Kd) h2 (a3.add 0) fun t4 =>
    c_cells_Arena_Log t4 h2 fun r5 h6 =>
    Q r5 h6))
def buffers_Memory_Log.mk : Mk := (.s .d (.s (.s .d (.c (.s .d .d) .d)) (.s .d .d)))

def law21_untold.j1 (go14 : (Int × Unit) → Heap → Prop) (s12 : (Int × Unit)) (s15 : Unit) (h16 : Heap) : Prop :=
    go14 ((w64 (s12.1 + 1)), ()) h16
def law21_untold.j2 (Q : Bool → Heap → Prop) (go14 : (Int × Unit) → Heap → Prop) (s12 : (Int × Unit)) (s17 : (Bool × Unit)) (h18 : Heap) : Prop :=
    (((!s17.1) = true →
    Q false h18) ∧
    ((!s17.1) = false →
    law21_untold.j1 go14 s12 () h18))
def law21_untold.j3 (c_law21_Kept_asked : Option Addr → Option Addr → Option Addr → Heap → (Bool → Heap → Prop) → Prop) (Q : Bool → Heap → Prop) (r6 : Den kbuffersplace) (r8 : Den kbuffersplace) (p10 : Addr) (go14 : (Int × Unit) → Heap → Prop) (s12 : (Int × Unit)) (s27 : (Bool × Unit)) (h28 : Heap) : Prop :=
    ((s27.1 = true →
    c_law21_Kept_asked (some p10) r8.1 r6.1 h28 fun r29 h30 =>
    law21_untold.j2 Q go14 s12 (r29, ()) h30) ∧
    (s27.1 = false →
    law21_untold.j2 Q go14 s12 (true, ()) h28))
def law21_untold.j4 (c_law21_moved : Option Addr → Option Addr → Den klaw21Move → Option Addr → Heap → (Bool → Heap → Prop) → Prop) (c_law21_Kept_asked : Option Addr → Option Addr → Option Addr → Heap → (Bool → Heap → Prop) → Prop) (moves4 : Sl) (Q : Bool → Heap → Prop) (r6 : Den kbuffersplace) (r8 : Den kbuffersplace) (p10 : Addr) (go14 : (Int × Unit) → Heap → Prop) (s12 : (Int × Unit)) (s19 : (Bool × Unit)) (h20 : Heap) : Prop :=
    ((s19.1 = true →
    (0 ≤ s12.1 ∧ s12.1 < (moves4.len : Int)) ∧
    deref moves4.a fun a21 =>
    ld klaw21Move h20 (a21.add ((s12.1 : Int).toNat * 5)) fun t22 =>
    new h20 (klaw21shelf.cells (Sl.none, (Sl.none, (Sl.none, ())))) fun p23 h24 =>
    c_law21_moved r8.1 r6.1 t22 (some p23) h24 fun r25 h26 =>
    law21_untold.j2 Q go14 s12 (r25, ()) h26) ∧
    (s19.1 = false →
    ld (.sl : Kd) h20 (p10.add 2) fun t31 =>
    (((decide ((t31.len : Int) < 200)) = true →
    ld ((.int .i64) : Kd) h20 (p10.add 6) fun t32 =>
    law21_untold.j3 c_law21_Kept_asked Q r6 r8 p10 go14 s12 ((decide (t32 < 100000)), ()) h20) ∧
    ((decide ((t31.len : Int) < 200)) = false →
    law21_untold.j3 c_law21_Kept_asked Q r6 r8 p10 go14 s12 (false, ()) h20))))
def law21_untold.l5 (c_law21_moved : Option Addr → Option Addr → Den klaw21Move → Option Addr → Heap → (Bool → Heap → Prop) → Prop) (c_law21_Kept_asked : Option Addr → Option Addr → Option Addr → Heap → (Bool → Heap → Prop) → Prop) (c_law21_Kept_alone : Option Addr → Heap → (Bool → Heap → Prop) → Prop) (moves4 : Sl) (Q : Bool → Heap → Prop) (r6 : Den kbuffersplace) (r8 : Den kbuffersplace) (p10 : Addr) (go14 : (Int × Unit) → Heap → Prop) (s12 : (Int × Unit)) (h13 : Heap) : Prop :=
    (((decide (s12.1 < (moves4.len : Int))) = true →
    (0 ≤ s12.1 ∧ s12.1 < (moves4.len : Int)) ∧
    deref moves4.a fun a33 =>
    ld ((.int .i64) : Kd) h13 ((a33.add ((s12.1 : Int).toNat * 5)).add 1) fun t34 =>
    (((decide (t34 < 7)) = true →
    law21_untold.j4 c_law21_moved c_law21_Kept_asked moves4 Q r6 r8 p10 go14 s12 (true, ()) h13) ∧
    ((decide (t34 < 7)) = false →
    (0 ≤ s12.1 ∧ s12.1 < (moves4.len : Int)) ∧
    deref moves4.a fun a35 =>
    ld ((.int .i64) : Kd) h13 ((a35.add ((s12.1 : Int).toNat * 5)).add 1) fun t36 =>
    law21_untold.j4 c_law21_moved c_law21_Kept_asked moves4 Q r6 r8 p10 go14 s12 ((decide ((9 : Int) < t36)), ()) h13))) ∧
    ((decide (s12.1 < (moves4.len : Int))) = false →
    c_law21_Kept_asked (some p10) r8.1 r6.1 h13 fun r37 h38 =>
    ((r37 = true →
    c_law21_Kept_alone (some p10) h38 fun r39 h40 =>
    Q r39 h40) ∧
    (r37 = false →
    Q false h38))))
def law21_untold.M (c_ref21_New : Int → Int → Int → Heap → (Den kbuffersplace → Heap → Prop) → Prop) (c_buffers_New : Int → Int → Int → Heap → (Den kbuffersplace → Heap → Prop) → Prop) (c_law21_moved : Option Addr → Option Addr → Den klaw21Move → Option Addr → Heap → (Bool → Heap → Prop) → Prop) (c_law21_Kept_asked : Option Addr → Option Addr → Option Addr → Heap → (Bool → Heap → Prop) → Prop) (c_law21_Kept_alone : Option Addr → Heap → (Bool → Heap → Prop) → Prop) (size1 : Int) (actors2 : Int) (room3 : Int) (moves4 : Sl) (h5 : Heap) (Q : Bool → Heap → Prop) : Prop :=
    c_ref21_New size1 actors2 room3 h5 fun r6 h7 =>
    c_buffers_New size1 actors2 room3 h7 fun r8 h9 =>
    (((decide (r8.2.1 ≠ r6.2.1)) = true →
    Q false h9) ∧
    ((decide (r8.2.1 ≠ r6.2.1)) = false →
    new h9 (klaw21Kept.cells (Sl.none, (Sl.none, (Sl.none, (Sl.none, (Sl.none, (Sl.none, (0, ())))))))) fun p10 h11 =>
    Loop (law21_untold.l5 c_law21_moved c_law21_Kept_asked c_law21_Kept_alone moves4 Q r6 r8 p10) (0, ()) h11))
def law21_untold.mk : Mk := (.s .d (.s .d (.s .d (.s (.s .d (.c (.s .d .d) .d)) (.s .d (.s (.s .d (.b (.l [.slot 14 (.int .i64)] (.s (.s .d (.c .d .d)) (.j [] (.b (.s .d (.j [.slot 15 .bool] (.j [.slot 54 .bool] .d (.c .d (.j [.slot 76 .bool] .d (.c .d .d)))) (.s .d (.c (.s .d .d) .d))))) .d))))) (.s .d .d)))))))

def law21_sameWaits.l1 (a1 : Sl) (b2 : Sl) (Q : Bool → Heap → Prop) (go6 : (Int × Unit) → Heap → Prop) (s4 : (Int × Unit)) (h5 : Heap) : Prop :=
    (((decide (s4.1 < (a1.len : Int))) = true →
    (0 ≤ s4.1 ∧ s4.1 < (a1.len : Int)) ∧
    deref a1.a fun a7 =>
    (0 ≤ s4.1 ∧ s4.1 < (b2.len : Int)) ∧
    deref b2.a fun a8 =>
    ld kapiWait h5 (a7.add ((s4.1 : Int).toNat * 2)) fun t9 =>
    ld kapiWait h5 (a8.add ((s4.1 : Int).toNat * 2)) fun t10 =>
    (((!(eqK kapiWait t9 t10)) = true →
    Q false h5) ∧
    ((!(eqK kapiWait t9 t10)) = false →
    go6 ((w64 (s4.1 + 1)), ()) h5))) ∧
    ((decide (s4.1 < (a1.len : Int))) = false →
    Q true h5))
def law21_sameWaits.M  (a1 : Sl) (b2 : Sl) (h3 : Heap) (Q : Bool → Heap → Prop) : Prop :=
    (((decide ((a1.len : Int) ≠ (b2.len : Int))) = true →
    Q false h3) ∧
    ((decide ((a1.len : Int) ≠ (b2.len : Int))) = false →
    Loop (law21_sameWaits.l1 a1 b2 Q) (0, ()) h3))
def law21_sameWaits.mk : Mk := (.s .d (.s (.s .d (.c (.s .d .d) .d)) (.s (.s .d (.b (.l [.slot 5 (.int .i64)] (.s (.s .d (.c .d .d)) (.s (.b (.s (.q [] [] [.p 0, .p 1, .p 2, .p 4, .p 5, .p 6, .w 3 [3, 8], .w 7 [7, 8], .p 8]) (.c (.s .d .d) .d))) .d))))) (.s .d .d))))

def buffers_Memory_View.M (c_buffers_Memory_has : Option Addr → Int → Heap → (Bool → Heap → Prop) → Prop) (m1 : Option Addr) (actor2 : Int) (h3 : Heap) (Q : Option Addr → Heap → Prop) : Prop :=
    c_buffers_Memory_has m1 actor2 h3 fun r4 h5 =>
    (((!r4) = true →
    Q none h5) ∧
    ((!r4) = false →
    deref m1 fun a6 =>
    (0 ≤ actor2 ∧ actor2 < (8 : Int)) ∧
    Q (some ((a6.add 11).add ((actor2 : Int).toNat * 2))) h5))
def buffers_Memory_View.mk : Mk := (.s .d (.s (.s .d (.c (.s .d .d) .d)) (.s .d .d)))

def buffers_Memory_Flush.j1 (c_cells_Arena_Who : Option Addr → Int → Heap → (Unit → Heap → Prop) → Prop) (c_cells_Arena_Store : Option Addr → Int → Int → Heap → (Int → Heap → Prop) → Prop) (m1 : Option Addr) (actor2 : Int) (Q : Bool → Heap → Prop) (s4 : Unit) (h5 : Heap) : Prop :=
    deref m1 fun a6 =>
    (0 ≤ actor2 ∧ actor2 < (8 : Int)) ∧
    ld (.sl : Kd) h5 ((a6.add 3).add ((actor2 : Int).toNat * 1)) fun t7 =>
    (0 ≤ (0 : Int) ∧ (0 : Int) < (t7.len : Int)) ∧
    deref t7.a fun a8 =>
    ld kapiWait h5 (a8.add (((0 : Int) : Int).toNat * 2)) fun t9 =>
    deref m1 fun a10 =>
    (0 ≤ actor2 ∧ actor2 < (8 : Int)) ∧
    deref m1 fun a11 =>
    ld (.sl : Kd) h5 ((a10.add 3).add ((actor2 : Int).toNat * 1)) fun t12 =>
    (0 ≤ (1 : Int) ∧ (1 : Int) ≤ (t12.len : Int)) ∧
    (0 ≤ actor2 ∧ actor2 < (8 : Int)) ∧
    st (.sl : Kd) h5 ((a11.add 3).add ((actor2 : Int).toNat * 1)) (t12.cut (((1 : Int) : Int).toNat) t12.len 2) fun h13 =>
    deref m1 fun a14 =>
    ld (.ptr : Kd) h13 (a14.add 0) fun t15 =>
    c_cells_Arena_Who t15 actor2 h13 fun r16 h17 =>
    deref m1 fun a18 =>
    ld (.ptr : Kd) h17 (a18.add 0) fun t19 =>
    c_cells_Arena_Store t19 t9.1 t9.2.1 h17 fun r20 h21 =>
    Q true h21
def buffers_Memory_Flush.j2 (c_cells_Arena_Who : Option Addr → Int → Heap → (Unit → Heap → Prop) → Prop) (c_cells_Arena_Store : Option Addr → Int → Int → Heap → (Int → Heap → Prop) → Prop) (m1 : Option Addr) (actor2 : Int) (Q : Bool → Heap → Prop) (s22 : (Bool × Unit)) (h23 : Heap) : Prop :=
    ((s22.1 = true →
    Q false h23) ∧
    (s22.1 = false →
    buffers_Memory_Flush.j1 c_cells_Arena_Who c_cells_Arena_Store m1 actor2 Q () h23))
def buffers_Memory_Flush.M (c_buffers_Memory_has : Option Addr → Int → Heap → (Bool → Heap → Prop) → Prop) (c_cells_Arena_Who : Option Addr → Int → Heap → (Unit → Heap → Prop) → Prop) (c_cells_Arena_Store : Option Addr → Int → Int → Heap → (Int → Heap → Prop) → Prop) (m1 : Option Addr) (actor2 : Int) (h3 : Heap) (Q : Bool → Heap → Prop) : Prop :=
    c_buffers_Memory_has m1 actor2 h3 fun r24 h25 =>
    (((!r24) = true →
    buffers_Memory_Flush.j2 c_cells_Arena_Who c_cells_Arena_Store m1 actor2 Q (true, ()) h25) ∧
    ((!r24) = false →
    deref m1 fun a26 =>
    (0 ≤ actor2 ∧ actor2 < (8 : Int)) ∧
    ld (.sl : Kd) h25 ((a26.add 3).add ((actor2 : Int).toNat * 1)) fun t27 =>
    buffers_Memory_Flush.j2 c_cells_Arena_Who c_cells_Arena_Store m1 actor2 Q ((decide ((t27.len : Int) = 0)), ()) h25))
def buffers_Memory_Flush.mk : Mk := (.s .d (.j [] (.j [.slot 19 .bool] .d (.c (.s .d .d) .d)) (.s (.r [8]) (.s (.q [] [] [.p 0, .p 1, .p 2, .p 3, .p 4, .p 5, .p 6, .p 9, .p 10, .w 7 [7, 8, 11, 12], .p 8, .p 11, .o 12]) (.s .d (.s (.q [] [] [.p 0, .p 1, .p 2, .p 4, .p 6, .w 3 [3, 8], .w 5 [5, 8], .w 7 [7, 8], .o 8]) (.s .d .d)))))))

def buffers_Memory_Waiting.M (c_buffers_Memory_has : Option Addr → Int → Heap → (Bool → Heap → Prop) → Prop) (m1 : Option Addr) (actor2 : Int) (h3 : Heap) (Q : Sl → Heap → Prop) : Prop :=
    c_buffers_Memory_has m1 actor2 h3 fun r4 h5 =>
    (((!r4) = true →
    Q ⟨none, 0, 0⟩ h5) ∧
    ((!r4) = false →
    deref m1 fun a6 =>
    (0 ≤ actor2 ∧ actor2 < (8 : Int)) ∧
    ld (.sl : Kd) h5 ((a6.add 3).add ((actor2 : Int).toNat * 1)) fun t7 =>
    appendM 2 16 h5 ⟨none, 0, 0⟩ t7 fun t8 h9 =>
    Q t8 h9))
def buffers_Memory_Waiting.mk : Mk := (.s .d (.s (.s .d (.c (.s .d .d) .d)) (.s .d .d)))

def buffers_View_Fence.j1 (c_buffers_Memory_drain : Option Addr → Int → Heap → (Unit → Heap → Prop) → Prop) (v1 : Option Addr) (Q : Unit → Heap → Prop) (s3 : (Bool × Unit)) (h4 : Heap) : Prop :=
    ((s3.1 = true →
    deref v1 fun a5 =>
    deref v1 fun a6 =>
    ld (.ptr : Kd) h4 ((a5.add 0).add 0) fun t7 =>
    ld ((.int .i64) : Kd) h4 ((a6.add 0).add 1) fun t8 =>
    c_buffers_Memory_drain t7 t8 h4 fun r9 h10 =>
    Q () h10) ∧
    (s3.1 = false →
    Q () h4))
def buffers_View_Fence.M (c_buffers_Memory_drain : Option Addr → Int → Heap → (Unit → Heap → Prop) → Prop) (v1 : Option Addr) (h2 : Heap) (Q : Unit → Heap → Prop) : Prop :=
    (((Option.isSome v1) = true →
    deref v1 fun a11 =>
    ld (.ptr : Kd) h2 ((a11.add 0).add 0) fun t12 =>
    buffers_View_Fence.j1 c_buffers_Memory_drain v1 Q ((Option.isSome t12), ()) h2) ∧
    ((Option.isSome v1) = false →
    buffers_View_Fence.j1 c_buffers_Memory_drain v1 Q (false, ()) h2))
def buffers_View_Fence.mk : Mk := (.j [.slot 11 .bool] .d (.c (.q [] [] [.p 0, .p 1, .p 2, .p 3, .p 5, .p 6, .p 7, .p 8, .w 4 [4, 10], .w 9 [9, 10], .o 10]) .d))

def buffers_View_Load.l1 (c_buffers_place_cells : Den kbuffersplace → Heap → (Option Addr → Heap → Prop) → Prop) (c_cells_Arena_Load : Option Addr → Int → Heap → (Den kapiWait → Heap → Prop) → Prop) (v1 : Option Addr) (addr2 : Int) (Q : Den kapiWait → Heap → Prop) (t11 : Sl) (go14 : (Int × Unit) → Heap → Prop) (s12 : (Int × Unit)) (h13 : Heap) : Prop :=
    (((decide ((0 : Int) ≤ s12.1)) = true →
    (0 ≤ s12.1 ∧ s12.1 < (t11.len : Int)) ∧
    deref t11.a fun a15 =>
    ld ((.int .i64) : Kd) h13 ((a15.add ((s12.1 : Int).toNat * 2)).add 0) fun t16 =>
    (((decide (t16 = addr2)) = true →
    (0 ≤ s12.1 ∧ s12.1 < (t11.len : Int)) ∧
    deref t11.a fun a17 =>
    ld ((.int .i64) : Kd) h13 ((a17.add ((s12.1 : Int).toNat * 2)).add 1) fun t18 =>
    Q (t18, 0, ()) h13) ∧
    ((decide (t16 = addr2)) = false →
    go14 ((w64 (s12.1 - 1)), ()) h13))) ∧
    ((decide ((0 : Int) ≤ s12.1)) = false →
    deref v1 fun a19 =>
    ld kbuffersplace h13 (a19.add 0) fun t20 =>
    c_buffers_place_cells t20 h13 fun r21 h22 =>
    c_cells_Arena_Load r21 addr2 h22 fun r23 h24 =>
    Q (r23.1, r23.2.1, ()) h24))
def buffers_View_Load.M (c_buffers_View_none : Option Addr → Int → Heap → (Bool → Heap → Prop) → Prop) (c_buffers_place_cells : Den kbuffersplace → Heap → (Option Addr → Heap → Prop) → Prop) (c_cells_Arena_Load : Option Addr → Int → Heap → (Den kapiWait → Heap → Prop) → Prop) (v1 : Option Addr) (addr2 : Int) (h3 : Heap) (Q : Den kapiWait → Heap → Prop) : Prop :=
    c_buffers_View_none v1 addr2 h3 fun r4 h5 =>
    ((r4 = true →
    Q (0, 20, ()) h5) ∧
    (r4 = false →
    deref v1 fun a6 =>
    deref v1 fun a7 =>
    ld (.ptr : Kd) h5 ((a6.add 0).add 0) fun t8 =>
    deref t8 fun a9 =>
    ld ((.int .i64) : Kd) h5 ((a7.add 0).add 1) fun t10 =>
    (0 ≤ t10 ∧ t10 < (8 : Int)) ∧
    ld (.sl : Kd) h5 ((a9.add 3).add ((t10 : Int).toNat * 1)) fun t11 =>
    Loop (buffers_View_Load.l1 c_buffers_place_cells c_cells_Arena_Load v1 addr2 Q t11) ((w64 ((t11.len : Int) - 1)), ()) h5))
def buffers_View_Load.mk : Mk := (.s .d (.s (.s .d (.c (.s .d .d) .d)) (.s (.q [] [] [.p 0, .p 1, .p 2, .p 3, .p 5, .p 6, .p 7, .p 8, .w 4 [4, 10, 11, 12, 13, 14], .p 10, .p 11, .w 9 [9, 12, 13, 14], .p 12, .w 13 [13, 14], .p 14]) (.s (.s .d (.b (.l [.slot 7 (.int .i64)] (.s (.s .d (.c .d .d)) (.s (.b (.s .d (.c (.s .d .d) .d))) .d))))) (.s .d .d)))))

def buffers_View_Store.j1 (v1 : Option Addr) (addr2 : Int) (w3 : Int) (Q : Int → Heap → Prop) (s7 : Unit) (h8 : Heap) : Prop :=
    deref v1 fun a9 =>
    deref v1 fun a10 =>
    deref v1 fun a11 =>
    deref v1 fun a12 =>
    ld (.ptr : Kd) h8 ((a9.add 0).add 0) fun t13 =>
    deref t13 fun a14 =>
    ld ((.int .i64) : Kd) h8 ((a10.add 0).add 1) fun t15 =>
    ld (.ptr : Kd) h8 ((a11.add 0).add 0) fun t16 =>
    deref t16 fun a17 =>
    ld ((.int .i64) : Kd) h8 ((a12.add 0).add 1) fun t18 =>
    (0 ≤ t18 ∧ t18 < (8 : Int)) ∧
    ld (.sl : Kd) h8 ((a17.add 3).add ((t18 : Int).toNat * 1)) fun t19 =>
    new h8 (([(addr2, (w3, ()))] : List (Den kapiWait)).flatMap (Kd.cells kapiWait)) fun p20 h21 =>
    appendM 2 16 h21 t19 ⟨some p20, 1, 1⟩ fun t22 h23 =>
    sees h23 (some ((a10.add 0).add 1)) ((.int .i64) : Kd) t15 ∧
    sees h23 (some ((a9.add 0).add 0)) (.ptr : Kd) t13 ∧
    (0 ≤ t15 ∧ t15 < (8 : Int)) ∧
    st (.sl : Kd) h23 ((a14.add 3).add ((t15 : Int).toNat * 1)) t22 fun h24 =>
    Q 0 h24
def buffers_View_Store.M (c_buffers_View_none : Option Addr → Int → Heap → (Bool → Heap → Prop) → Prop) (c_buffers_Memory_Flush : Option Addr → Int → Heap → (Bool → Heap → Prop) → Prop) (v1 : Option Addr) (addr2 : Int) (w3 : Int) (h4 : Heap) (Q : Int → Heap → Prop) : Prop :=
    c_buffers_View_none v1 addr2 h4 fun r5 h6 =>
    ((r5 = true →
    Q 20 h6) ∧
    (r5 = false →
    deref v1 fun a25 =>
    deref v1 fun a26 =>
    deref v1 fun a27 =>
    ld (.ptr : Kd) h6 ((a25.add 0).add 0) fun t28 =>
    deref t28 fun a29 =>
    ld ((.int .i64) : Kd) h6 ((a26.add 0).add 1) fun t30 =>
    (0 ≤ t30 ∧ t30 < (8 : Int)) ∧
    ld (.sl : Kd) h6 ((a29.add 3).add ((t30 : Int).toNat * 1)) fun t31 =>
    ld (.ptr : Kd) h6 ((a27.add 0).add 0) fun t32 =>
    deref t32 fun a33 =>
    ld ((.int .i64) : Kd) h6 (a33.add 2) fun t34 =>
    (((decide (t34 ≤ (t31.len : Int))) = true →
    deref v1 fun a35 =>
    deref v1 fun a36 =>
    ld (.ptr : Kd) h6 ((a35.add 0).add 0) fun t37 =>
    ld ((.int .i64) : Kd) h6 ((a36.add 0).add 1) fun t38 =>
    c_buffers_Memory_Flush t37 t38 h6 fun r39 h40 =>
    buffers_View_Store.j1 v1 addr2 w3 Q () h40) ∧
    ((decide (t34 ≤ (t31.len : Int))) = false →
    buffers_View_Store.j1 v1 addr2 w3 Q () h6))))
def buffers_View_Store.mk : Mk := (.s .d (.s (.s .d (.c (.s .d .d) .d)) (.j [] (.s (.q [] [] [.p 0, .p 1, .p 2, .p 3, .p 5, .p 6, .p 7, .p 8, .p 15, .p 16, .p 17, .p 18, .w 4 [4, 10, 11, 12, 13, 14, 23], .p 10, .p 11, .w 9 [9, 12, 13, 14, 23], .p 12, .w 13 [13, 14, 23], .p 14, .w 19 [19, 20, 21, 22, 23], .p 20, .p 21, .w 22 [22, 23], .p 23]) (.c (.q [] [] [.p 0, .p 1, .p 2, .p 3, .p 5, .p 6, .p 7, .p 8, .w 4 [4, 10], .w 9 [9, 10], .o 10]) .d)) (.s (.q [] [] [.p 0, .p 1, .p 2, .p 3, .p 5, .p 6, .p 7, .p 8, .p 10, .p 11, .p 12, .p 13, .p 15, .p 16, .p 17, .p 18, .p 24, .p 25, .p 26, .w 4 [4, 29, 30, 31, 32], .p 29, .p 30, .w 9 [9, 31, 32], .w 14 [14, 20, 21, 22, 23, 28, 31, 32], .p 20, .p 21, .w 19 [19, 22, 23, 28, 31, 32], .p 22, .w 23 [23, 28, 31, 32], .o 27, .o 28, .p 31, .o 32]) (.s .d .d)))))

def buffers_View_CAS.M (c_buffers_View_none : Option Addr → Int → Heap → (Bool → Heap → Prop) → Prop) (c_buffers_Memory_drain : Option Addr → Int → Heap → (Unit → Heap → Prop) → Prop) (c_buffers_place_cells : Den kbuffersplace → Heap → (Option Addr → Heap → Prop) → Prop) (c_cells_Arena_CAS : Option Addr → Int → Int → Int → Heap → ((Bool × (Int × Unit)) → Heap → Prop) → Prop) (v1 : Option Addr) (addr2 : Int) (old3 : Int) (next4 : Int) (h5 : Heap) (Q : (Bool × (Int × Unit)) → Heap → Prop) : Prop :=
    c_buffers_View_none v1 addr2 h5 fun r6 h7 =>
    ((r6 = true →
    Q (false, 20, ()) h7) ∧
    (r6 = false →
    deref v1 fun a8 =>
    deref v1 fun a9 =>
    ld (.ptr : Kd) h7 ((a8.add 0).add 0) fun t10 =>
    ld ((.int .i64) : Kd) h7 ((a9.add 0).add 1) fun t11 =>
    c_buffers_Memory_drain t10 t11 h7 fun r12 h13 =>
    deref v1 fun a14 =>
    ld kbuffersplace h13 (a14.add 0) fun t15 =>
    c_buffers_place_cells t15 h13 fun r16 h17 =>
    c_cells_Arena_CAS r16 addr2 old3 next4 h17 fun r18 h19 =>
    Q (r18.1, r18.2.1, ()) h19))
def buffers_View_CAS.mk : Mk := (.s .d (.s (.s .d (.c (.s .d .d) .d)) (.s (.q [] [] [.p 0, .p 1, .p 2, .p 3, .p 5, .p 6, .p 7, .p 8, .w 4 [4, 10], .w 9 [9, 10], .o 10]) (.s .d .d))))

def buffers_View_Add.M (c_buffers_View_none : Option Addr → Int → Heap → (Bool → Heap → Prop) → Prop) (c_buffers_Memory_drain : Option Addr → Int → Heap → (Unit → Heap → Prop) → Prop) (c_buffers_place_cells : Den kbuffersplace → Heap → (Option Addr → Heap → Prop) → Prop) (c_cells_Arena_Add : Option Addr → Int → Int → Heap → (Den kapiWait → Heap → Prop) → Prop) (v1 : Option Addr) (addr2 : Int) (d3 : Int) (h4 : Heap) (Q : Den kapiWait → Heap → Prop) : Prop :=
    c_buffers_View_none v1 addr2 h4 fun r5 h6 =>
    ((r5 = true →
    Q (0, 20, ()) h6) ∧
    (r5 = false →
    deref v1 fun a7 =>
    deref v1 fun a8 =>
    ld (.ptr : Kd) h6 ((a7.add 0).add 0) fun t9 =>
    ld ((.int .i64) : Kd) h6 ((a8.add 0).add 1) fun t10 =>
    c_buffers_Memory_drain t9 t10 h6 fun r11 h12 =>
    deref v1 fun a13 =>
    ld kbuffersplace h12 (a13.add 0) fun t14 =>
    c_buffers_place_cells t14 h12 fun r15 h16 =>
    c_cells_Arena_Add r15 addr2 d3 h16 fun r17 h18 =>
    Q (r17.1, r17.2.1, ()) h18))
def buffers_View_Add.mk : Mk := (.s .d (.s (.s .d (.c (.s .d .d) .d)) (.s (.q [] [] [.p 0, .p 1, .p 2, .p 3, .p 5, .p 6, .p 7, .p 8, .w 4 [4, 10], .w 9 [9, 10], .o 10]) (.s .d .d))))

def buffers_View_Reserve.j1 (c_buffers_Memory_drain : Option Addr → Int → Heap → (Unit → Heap → Prop) → Prop) (c_buffers_place_cells : Den kbuffersplace → Heap → (Option Addr → Heap → Prop) → Prop) (c_cells_Arena_Reserve : Option Addr → Int → Heap → (Den kapiWait → Heap → Prop) → Prop) (v1 : Option Addr) (n2 : Int) (Q : Den kapiWait → Heap → Prop) (s4 : Unit) (h5 : Heap) : Prop :=
    deref v1 fun a6 =>
    deref v1 fun a7 =>
    ld (.ptr : Kd) h5 ((a6.add 0).add 0) fun t8 =>
    ld ((.int .i64) : Kd) h5 ((a7.add 0).add 1) fun t9 =>
    c_buffers_Memory_drain t8 t9 h5 fun r10 h11 =>
    deref v1 fun a12 =>
    ld kbuffersplace h11 (a12.add 0) fun t13 =>
    c_buffers_place_cells t13 h11 fun r14 h15 =>
    c_cells_Arena_Reserve r14 n2 h15 fun r16 h17 =>
    Q (r16.1, r16.2.1, ()) h17
def buffers_View_Reserve.j2 (c_buffers_Memory_drain : Option Addr → Int → Heap → (Unit → Heap → Prop) → Prop) (c_buffers_place_cells : Den kbuffersplace → Heap → (Option Addr → Heap → Prop) → Prop) (c_cells_Arena_Reserve : Option Addr → Int → Heap → (Den kapiWait → Heap → Prop) → Prop) (v1 : Option Addr) (n2 : Int) (Q : Den kapiWait → Heap → Prop) (s18 : (Bool × Unit)) (h19 : Heap) : Prop :=
    ((s18.1 = true →
    Q (0, 22, ()) h19) ∧
    (s18.1 = false →
    buffers_View_Reserve.j1 c_buffers_Memory_drain c_buffers_place_cells c_cells_Arena_Reserve v1 n2 Q () h19))
def buffers_View_Reserve.M (c_cells_Arena_Size : Option Addr → Heap → (Int → Heap → Prop) → Prop) (c_cells_Arena_Mark : Option Addr → Heap → (Int → Heap → Prop) → Prop) (c_buffers_Memory_drain : Option Addr → Int → Heap → (Unit → Heap → Prop) → Prop) (c_buffers_place_cells : Den kbuffersplace → Heap → (Option Addr → Heap → Prop) → Prop) (c_cells_Arena_Reserve : Option Addr → Int → Heap → (Den kapiWait → Heap → Prop) → Prop) (v1 : Option Addr) (n2 : Int) (h3 : Heap) (Q : Den kapiWait → Heap → Prop) : Prop :=
    (((decide (n2 < 1)) = true →
    Q (0, 21, ()) h3) ∧
    ((decide (n2 < 1)) = false →
    (((Option.isNone v1) = true →
    buffers_View_Reserve.j2 c_buffers_Memory_drain c_buffers_place_cells c_cells_Arena_Reserve v1 n2 Q (true, ()) h3) ∧
    ((Option.isNone v1) = false →
    deref v1 fun a20 =>
    ld (.ptr : Kd) h3 ((a20.add 0).add 0) fun t21 =>
    (((Option.isNone t21) = true →
    buffers_View_Reserve.j2 c_buffers_Memory_drain c_buffers_place_cells c_cells_Arena_Reserve v1 n2 Q (true, ()) h3) ∧
    ((Option.isNone t21) = false →
    deref v1 fun a22 =>
    deref v1 fun a23 =>
    ld (.ptr : Kd) h3 ((a22.add 0).add 0) fun t24 =>
    deref t24 fun a25 =>
    ld (.ptr : Kd) h3 (a25.add 0) fun t26 =>
    ld (.ptr : Kd) h3 ((a23.add 0).add 0) fun t27 =>
    deref t27 fun a28 =>
    ld (.ptr : Kd) h3 (a28.add 0) fun t29 =>
    c_cells_Arena_Size t26 h3 fun r30 h31 =>
    sees h31 (some (a28.add 0)) (.ptr : Kd) t29 ∧
    sees h31 (some ((a23.add 0).add 0)) (.ptr : Kd) t27 ∧
    c_cells_Arena_Mark t29 h31 fun r32 h33 =>
    buffers_View_Reserve.j2 c_buffers_Memory_drain c_buffers_place_cells c_cells_Arena_Reserve v1 n2 Q ((decide ((w64 (r30 - r32)) < n2)), ()) h33))))))
def buffers_View_Reserve.mk : Mk := (.s .d (.s (.s .d (.c (.s .d .d) .d)) (.j [] (.j [.slot 40 .bool] (.q [] [] [.p 0, .p 1, .p 2, .p 3, .p 4, .p 5, .p 6, .w 7 [7, 8, 9, 10, 11, 12, 13, 14, 15, 16, 17, 18, 19, 20, 21, 22, 23, 24, 25, 26, 27, 28, 29, 30, 31, 32], .p 8, .p 9, .p 10, .p 11, .p 12, .p 13, .p 14, .p 15, .p 21, .p 22, .p 23, .p 24, .w 16 [16, 17, 18, 19, 20, 29, 30, 31, 32], .p 17, .p 18, .w 19 [19, 20, 29, 30, 31, 32], .w 25 [25, 26, 27, 28, 29, 30, 31, 32], .p 26, .p 27, .w 28 [28, 29, 30, 31, 32], .o 20, .o 29, .p 30, .p 31, .p 32]) (.c (.s .d .d) .d)) (.s (.q [] [] [.p 0, .p 1, .p 2, .p 3, .p 5, .p 6, .p 7, .p 8, .w 4 [4, 10], .w 9 [9, 10], .o 10]) (.s .d .d)))))

def ref2_New.j1 (size1 : Int) (Q : Den kbuffersplace → Heap → Prop) (s3 : Unit) (h4 : Heap) : Prop :=
    new h4 (kref2Arena.cells (size1, (Sl.none, (false, (0, (Sl.none, ())))))) fun p5 h6 =>
    Q ((some p5), 0, ()) h6
def ref2_New.j2 (size1 : Int) (Q : Den kbuffersplace → Heap → Prop) (s7 : (Bool × Unit)) (h8 : Heap) : Prop :=
    ((s7.1 = true →
    new h8 (kref2Arena.cells (0, (Sl.none, (false, (0, (Sl.none, ())))))) fun p9 h10 =>
    Q ((some p9), 3, ()) h10) ∧
    (s7.1 = false →
    ref2_New.j1 size1 Q () h8))
def ref2_New.M  (size1 : Int) (h2 : Heap) (Q : Den kbuffersplace → Heap → Prop) : Prop :=
    (((decide (size1 < 0)) = true →
    ref2_New.j2 size1 Q (true, ()) h2) ∧
    ((decide (size1 < 0)) = false →
    ref2_New.j2 size1 Q ((decide ((1048576 : Int) < size1)), ()) h2))
def ref2_New.mk : Mk := (.s .d (.j [] (.j [.slot 9 .bool] .d (.c (.s .d .d) .d)) (.s .d .d)))

def cells_New.M (c_cells_good : Int → Heap → (Bool → Heap → Prop) → Prop) (size1 : Int) (h2 : Heap) (Q : Den kbuffersplace → Heap → Prop) : Prop :=
    c_cells_good size1 h2 fun r3 h4 =>
    (((!r3) = true →
    Q (none, 3, ()) h4) ∧
    ((!r3) = false →
    new h4 (kcellsArena.cells ((size1, (0, ())), (Sl.none, (Sl.none, (0, (false, ())))))) fun p5 h6 =>
    Q ((some p5), 0, ()) h6))
def cells_New.mk : Mk := (.s .d (.s (.s .d (.c (.s .d .d) .d)) (.s .d .d)))

def cells_Arena_Watch.M  (a1 : Option Addr) (on2 : Bool) (h3 : Heap) (Q : Unit → Heap → Prop) : Prop :=
    (((Option.isSome a1) = true →
    deref a1 fun a4 =>
    st (.bool : Kd) h3 (a4.add 5) on2 fun h5 =>
    Q () h5) ∧
    ((Option.isSome a1) = false →
    Q () h3))
def cells_Arena_Watch.mk : Mk := (.s .d (.c .d .d))

def law21_by.M (c_buffers_View_Load : Option Addr → Int → Heap → (Den kapiWait → Heap → Prop) → Prop) (c_buffers_View_Store : Option Addr → Int → Int → Heap → (Int → Heap → Prop) → Prop) (c_buffers_View_CAS : Option Addr → Int → Int → Int → Heap → ((Bool × (Int × Unit)) → Heap → Prop) → Prop) (c_buffers_View_Add : Option Addr → Int → Int → Heap → (Den kapiWait → Heap → Prop) → Prop) (c_buffers_View_Reserve : Option Addr → Int → Heap → (Den kapiWait → Heap → Prop) → Prop) (v1 : Option Addr) (m2 : Den klaw21Move) (h3 : Heap) (Q : Den kapiEffect → Heap → Prop) : Prop :=
    (((decide (m2.2.1 = 0)) = true →
    c_buffers_View_Load v1 m2.2.2.1 h3 fun r4 h5 =>
    Q (r4.1, ((decide (r4.2.1 = 0)), (r4.2.1, ()))) h5) ∧
    ((decide (m2.2.1 = 0)) = false →
    (((decide (m2.2.1 = 1)) = true →
    c_buffers_View_Store v1 m2.2.2.1 m2.2.2.2.1 h3 fun r6 h7 =>
    Q (0, ((decide (r6 = 0)), (r6, ()))) h7) ∧
    ((decide (m2.2.1 = 1)) = false →
    (((decide (m2.2.1 = 2)) = true →
    c_buffers_View_CAS v1 m2.2.2.1 m2.2.2.2.1 m2.2.2.2.2.1 h3 fun r8 h9 =>
    Q (0, (r8.1, (r8.2.1, ()))) h9) ∧
    ((decide (m2.2.1 = 2)) = false →
    (((decide (m2.2.1 = 3)) = true →
    c_buffers_View_Add v1 m2.2.2.1 m2.2.2.2.1 h3 fun r10 h11 =>
    Q (r10.1, ((decide (r10.2.1 = 0)), (r10.2.1, ()))) h11) ∧
    ((decide (m2.2.1 = 3)) = false →
    c_buffers_View_Reserve v1 m2.2.2.2.1 h3 fun r12 h13 =>
    Q (r12.1, ((decide (r12.2.1 = 0)), (r12.2.1, ()))) h13))))))))
def law21_by.mk : Mk := (.s (.r [0, 1]) (.s (.s .d (.b (.s .d (.c (.s .d (.s .d .d)) (.s .d (.c (.s .d (.s .d .d)) (.s .d (.c (.s .d (.s .d .d)) (.s .d (.c (.s .d (.s .d .d)) .d)))))))))) (.s .d (.s .d .d))))

def ref21_Memory_Do.j1 (c_ref2_Arena_Do : Option Addr → Den klaw21Move → Heap → (Den kapiEffect → Heap → Prop) → Prop) (m1 : Option Addr) (k2 : Int) (x3 : Den klaw21Move) (Q : Den kapiEffect → Heap → Prop) (s11 : (Den kapiEffect × Unit)) (h12 : Heap) : Prop :=
    deref m1 fun a13 =>
    ld (.ptr : Kd) h12 (a13.add 0) fun t14 =>
    deref t14 fun a15 =>
    st ((.int .i64) : Kd) h12 (a15.add 3) k2 fun h16 =>
    deref m1 fun a17 =>
    ld (.ptr : Kd) h16 (a17.add 0) fun t18 =>
    c_ref2_Arena_Do t18 (x3.1, (x3.2.1, (x3.2.2.1, (x3.2.2.2.1, (x3.2.2.2.2.1, ()))))) h16 fun r19 h20 =>
    Q (r19.1, (r19.2.1, (r19.2.2.1, ()))) h20
def ref21_Memory_Do.l2 (c_ref2_Arena_Do : Option Addr → Den klaw21Move → Heap → (Den kapiEffect → Heap → Prop) → Prop) (m1 : Option Addr) (k2 : Int) (x3 : Den klaw21Move) (Q : Den kapiEffect → Heap → Prop) (go27 : (Int × (Den kapiEffect × Unit)) → Heap → Prop) (s25 : (Int × (Den kapiEffect × Unit))) (h26 : Heap) : Prop :=
    (((decide ((0 : Int) ≤ s25.1)) = true →
    deref m1 fun a28 =>
    ld (.sl : Kd) h26 (a28.add 2) fun t29 =>
    (0 ≤ k2 ∧ k2 < (t29.len : Int)) ∧
    deref t29.a fun a30 =>
    ld (.sl : Kd) h26 (a30.add ((k2 : Int).toNat * 1)) fun t31 =>
    (0 ≤ s25.1 ∧ s25.1 < (t31.len : Int)) ∧
    deref t31.a fun a32 =>
    ld ((.int .i64) : Kd) h26 ((a32.add ((s25.1 : Int).toNat * 2)).add 0) fun t33 =>
    (((decide (t33 = x3.2.2.1)) = true →
    deref m1 fun a34 =>
    ld (.sl : Kd) h26 (a34.add 2) fun t35 =>
    (0 ≤ k2 ∧ k2 < (t35.len : Int)) ∧
    deref t35.a fun a36 =>
    ld (.sl : Kd) h26 (a36.add ((k2 : Int).toNat * 1)) fun t37 =>
    (0 ≤ s25.1 ∧ s25.1 < (t37.len : Int)) ∧
    deref t37.a fun a38 =>
    ld ((.int .i64) : Kd) h26 ((a38.add ((s25.1 : Int).toNat * 2)).add 1) fun t39 =>
    Q (t39, (true, (0, ()))) h26) ∧
    ((decide (t33 = x3.2.2.1)) = false →
    go27 ((w64 (s25.1 - 1)), (s25.2.1.1, (s25.2.1.2.1, (s25.2.1.2.2.1, ()))), ()) h26))) ∧
    ((decide ((0 : Int) ≤ s25.1)) = false →
    ref21_Memory_Do.j1 c_ref2_Arena_Do m1 k2 x3 Q ((s25.2.1.1, (s25.2.1.2.1, (s25.2.1.2.2.1, ()))), ()) h26))
def ref21_Memory_Do.j3 (m1 : Option Addr) (k2 : Int) (x3 : Den klaw21Move) (Q : Den kapiEffect → Heap → Prop) (s40 : Unit) (h41 : Heap) : Prop :=
    deref m1 fun a42 =>
    deref m1 fun a43 =>
    ld (.sl : Kd) h41 (a42.add 2) fun t44 =>
    ld (.sl : Kd) h41 (a43.add 2) fun t45 =>
    (0 ≤ k2 ∧ k2 < (t45.len : Int)) ∧
    deref t45.a fun a46 =>
    ld (.sl : Kd) h41 (a46.add ((k2 : Int).toNat * 1)) fun t47 =>
    new h41 (([(x3.2.2.1, (x3.2.2.2.1, ()))] : List (Den kapiWait)).flatMap (Kd.cells kapiWait)) fun p48 h49 =>
    appendM 2 16 h49 t47 ⟨some p48, 1, 1⟩ fun t50 h51 =>
    sees h51 (some (a42.add 2)) (.sl : Kd) t44 ∧
    (0 ≤ k2 ∧ k2 < (t44.len : Int)) ∧
    deref t44.a fun a52 =>
    st (.sl : Kd) h51 (a52.add ((k2 : Int).toNat * 1)) t50 fun h53 =>
    Q (0, (true, (0, ()))) h53
def ref21_Memory_Do.j4 (c_ref21_Memory_Drain : Option Addr → Int → Heap → (Unit → Heap → Prop) → Prop) (c_ref21_Memory_refused : Option Addr → Den klaw21Move → Heap → (Int → Heap → Prop) → Prop) (c_ref21_Memory_Flush : Option Addr → Int → Heap → (Bool → Heap → Prop) → Prop) (c_ref2_Arena_Do : Option Addr → Den klaw21Move → Heap → (Den kapiEffect → Heap → Prop) → Prop) (m1 : Option Addr) (k2 : Int) (x3 : Den klaw21Move) (Q : Den kapiEffect → Heap → Prop) (s5 : (Den kapiEffect × Unit)) (h6 : Heap) : Prop :=
    (((decide (x3.2.1 = 5)) = true →
    c_ref21_Memory_Drain m1 k2 h6 fun r7 h8 =>
    Q (0, (true, (0, ()))) h8) ∧
    ((decide (x3.2.1 = 5)) = false →
    c_ref21_Memory_refused m1 (x3.1, (x3.2.1, (x3.2.2.1, (x3.2.2.2.1, (x3.2.2.2.2.1, ()))))) h6 fun r9 h10 =>
    (((decide (r9 ≠ 0)) = true →
    Q (0, (false, (r9, ()))) h10) ∧
    ((decide (r9 ≠ 0)) = false →
    (((decide (x3.2.1 = 0)) = true →
    deref m1 fun a21 =>
    ld (.sl : Kd) h10 (a21.add 2) fun t22 =>
    (0 ≤ k2 ∧ k2 < (t22.len : Int)) ∧
    deref t22.a fun a23 =>
    ld (.sl : Kd) h10 (a23.add ((k2 : Int).toNat * 1)) fun t24 =>
    Loop (ref21_Memory_Do.l2 c_ref2_Arena_Do m1 k2 x3 Q) ((w64 ((t24.len : Int) - 1)), (s5.1.1, (s5.1.2.1, (s5.1.2.2.1, ()))), ()) h10) ∧
    ((decide (x3.2.1 = 0)) = false →
    (((decide (x3.2.1 = 1)) = true →
    deref m1 fun a54 =>
    deref m1 fun a55 =>
    ld (.sl : Kd) h10 (a54.add 2) fun t56 =>
    (0 ≤ k2 ∧ k2 < (t56.len : Int)) ∧
    deref t56.a fun a57 =>
    ld (.sl : Kd) h10 (a57.add ((k2 : Int).toNat * 1)) fun t58 =>
    ld ((.int .i64) : Kd) h10 (a55.add 1) fun t59 =>
    (((decide ((t58.len : Int) = t59)) = true →
    c_ref21_Memory_Flush m1 k2 h10 fun r60 h61 =>
    ref21_Memory_Do.j3 m1 k2 x3 Q () h61) ∧
    ((decide ((t58.len : Int) = t59)) = false →
    ref21_Memory_Do.j3 m1 k2 x3 Q () h10))) ∧
    ((decide (x3.2.1 = 1)) = false →
    c_ref21_Memory_Drain m1 k2 h10 fun r62 h63 =>
    ref21_Memory_Do.j1 c_ref2_Arena_Do m1 k2 x3 Q ((s5.1.1, (s5.1.2.1, (s5.1.2.2.1, ()))), ()) h63))))))))
def ref21_Memory_Do.j5 (c_ref21_Memory_Drain : Option Addr → Int → Heap → (Unit → Heap → Prop) → Prop) (c_ref21_Memory_refused : Option Addr → Den klaw21Move → Heap → (Int → Heap → Prop) → Prop) (c_ref21_Memory_Flush : Option Addr → Int → Heap → (Bool → Heap → Prop) → Prop) (c_ref2_Arena_Do : Option Addr → Den klaw21Move → Heap → (Den kapiEffect → Heap → Prop) → Prop) (m1 : Option Addr) (k2 : Int) (x3 : Den klaw21Move) (Q : Den kapiEffect → Heap → Prop) (s64 : (Bool × Unit)) (h65 : Heap) : Prop :=
    ((s64.1 = true →
    Q (0, (false, (23, ()))) h65) ∧
    (s64.1 = false →
    ref21_Memory_Do.j4 c_ref21_Memory_Drain c_ref21_Memory_refused c_ref21_Memory_Flush c_ref2_Arena_Do m1 k2 x3 Q ((0, (false, (0, ()))), ()) h65))
def ref21_Memory_Do.M (c_ref21_Memory_Drain : Option Addr → Int → Heap → (Unit → Heap → Prop) → Prop) (c_ref21_Memory_refused : Option Addr → Den klaw21Move → Heap → (Int → Heap → Prop) → Prop) (c_ref21_Memory_Flush : Option Addr → Int → Heap → (Bool → Heap → Prop) → Prop) (c_ref2_Arena_Do : Option Addr → Den klaw21Move → Heap → (Den kapiEffect → Heap → Prop) → Prop) (m1 : Option Addr) (k2 : Int) (x3 : Den klaw21Move) (h4 : Heap) (Q : Den kapiEffect → Heap → Prop) : Prop :=
    (((decide (x3.2.1 < 0)) = true →
    ref21_Memory_Do.j5 c_ref21_Memory_Drain c_ref21_Memory_refused c_ref21_Memory_Flush c_ref2_Arena_Do m1 k2 x3 Q (true, ()) h4) ∧
    ((decide (x3.2.1 < 0)) = false →
    ref21_Memory_Do.j5 c_ref21_Memory_Drain c_ref21_Memory_refused c_ref21_Memory_Flush c_ref2_Arena_Do m1 k2 x3 Q ((decide ((5 : Int) < x3.2.1)), ()) h4))
def ref21_Memory_Do.mk : Mk := (.s (.r [0, 1]) (.j [.box 6 kapiEffect] (.j [.slot 17 .bool] .d (.c (.s .d .d) .d)) (.s (.s .d (.c (.s .d (.s .d .d)) .d)) (.s .d (.s (.s .d (.c (.s .d .d) .d)) (.j [.box 6 kapiEffect] (.s .d (.b (.s .d (.c (.s .d (.b (.l [.slot 8 (.int .i64), .box 6 kapiEffect] (.s (.s .d (.c .d .d)) (.s (.b (.s (.q [] [] [.p 0, .p 1, .p 2, .p 4, .p 7, .p 11, .w 3 [3, 5, 6, 8, 9, 10, 13], .p 5, .w 6 [6, 8, 9, 10, 13], .p 8, .p 9, .w 10 [10, 13], .w 12 [12, 13], .p 13]) (.c (.s .d .d) .d))) .d))))) (.s .d (.c (.j [] (.s (.q [] [] [.p 0, .p 1, .p 2, .p 4, .p 8, .p 9, .p 10, .w 3 [3, 5, 6, 7, 12], .p 5, .w 6 [6, 7, 12], .p 7, .w 11 [11, 12], .p 12]) (.c .d .d)) (.s (.q [] [] [.p 0, .p 1, .p 2, .p 4, .p 5, .p 6, .p 7, .p 9, .p 12, .p 14, .w 3 [3, 19, 20], .w 8 [8, 10, 11, 18, 19, 20], .p 10, .w 11 [11, 18, 19, 20], .w 13 [13, 16, 17, 18, 19, 20], .w 15 [15, 16, 17, 18, 19, 20], .p 16, .o 17, .o 18, .p 19, .o 20]) (.s .d .d))) .d)))))) (.s .d (.s (.q [6] [9] [.p 0, .p 1, .p 2, .w 3 [3, 5, 7], .w 4 [4, 5, 7], .o 5, .a 6, .o 7]) (.s .d .d)))))))))

def ref21_Memory_Drain.j1 (c_ref21_Memory_Flush : Option Addr → Int → Heap → (Bool → Heap → Prop) → Prop) (m1 : Option Addr) (k2 : Int) (go6 : Unit → Heap → Prop) (s7 : Unit) (h8 : Heap) : Prop :=
    c_ref21_Memory_Flush m1 k2 h8 fun r9 h10 =>
    go6 () h10
def ref21_Memory_Drain.j2 (c_ref21_Memory_Flush : Option Addr → Int → Heap → (Bool → Heap → Prop) → Prop) (m1 : Option Addr) (k2 : Int) (Q : Unit → Heap → Prop) (go6 : Unit → Heap → Prop) (s11 : (Bool × Unit)) (h12 : Heap) : Prop :=
    ((s11.1 = true →
    ref21_Memory_Drain.j1 c_ref21_Memory_Flush m1 k2 go6 () h12) ∧
    (s11.1 = false →
    Q () h12))
def ref21_Memory_Drain.l3 (c_ref21_Memory_Flush : Option Addr → Int → Heap → (Bool → Heap → Prop) → Prop) (m1 : Option Addr) (k2 : Int) (Q : Unit → Heap → Prop) (go6 : Unit → Heap → Prop) (s4 : Unit) (h5 : Heap) : Prop :=
    (((decide ((0 : Int) ≤ k2)) = true →
    deref m1 fun a13 =>
    ld (.sl : Kd) h5 (a13.add 2) fun t14 =>
    (((decide (k2 < (t14.len : Int))) = true →
    deref m1 fun a15 =>
    ld (.sl : Kd) h5 (a15.add 2) fun t16 =>
    (0 ≤ k2 ∧ k2 < (t16.len : Int)) ∧
    deref t16.a fun a17 =>
    ld (.sl : Kd) h5 (a17.add ((k2 : Int).toNat * 1)) fun t18 =>
    ref21_Memory_Drain.j2 c_ref21_Memory_Flush m1 k2 Q go6 ((decide ((0 : Int) < (t18.len : Int))), ()) h5) ∧
    ((decide (k2 < (t14.len : Int))) = false →
    ref21_Memory_Drain.j2 c_ref21_Memory_Flush m1 k2 Q go6 (false, ()) h5))) ∧
    ((decide ((0 : Int) ≤ k2)) = false →
    ref21_Memory_Drain.j2 c_ref21_Memory_Flush m1 k2 Q go6 (false, ()) h5))
def ref21_Memory_Drain.M (c_ref21_Memory_Flush : Option Addr → Int → Heap → (Bool → Heap → Prop) → Prop) (m1 : Option Addr) (k2 : Int) (h3 : Heap) (Q : Unit → Heap → Prop) : Prop :=
    Loop (ref21_Memory_Drain.l3 c_ref21_Memory_Flush m1 k2 Q) () h3
def ref21_Memory_Drain.mk : Mk := (.b (.l [] (.j [] (.j [.slot 25 .bool] .d (.c .d .d)) (.b .d))))

def ref21_Memory_Flush.l1 (c_ref2_Arena_Do : Option Addr → Den klaw21Move → Heap → (Den kapiEffect → Heap → Prop) → Prop) (m1 : Option Addr) (k2 : Int) (Q : Bool → Heap → Prop) (t11 : Den kapiWait) (go14 : (Sl × (Int × Unit)) → Heap → Prop) (s12 : (Sl × (Int × Unit))) (h13 : Heap) : Prop :=
    deref m1 fun a15 =>
    ld (.sl : Kd) h13 (a15.add 2) fun t16 =>
    (0 ≤ k2 ∧ k2 < (t16.len : Int)) ∧
    deref t16.a fun a17 =>
    ld (.sl : Kd) h13 (a17.add ((k2 : Int).toNat * 1)) fun t18 =>
    (((decide (s12.2.1 < (t18.len : Int))) = true →
    deref m1 fun a19 =>
    ld (.sl : Kd) h13 (a19.add 2) fun t20 =>
    (0 ≤ k2 ∧ k2 < (t20.len : Int)) ∧
    deref t20.a fun a21 =>
    ld (.sl : Kd) h13 (a21.add ((k2 : Int).toNat * 1)) fun t22 =>
    (0 ≤ s12.2.1 ∧ s12.2.1 < (t22.len : Int)) ∧
    deref t22.a fun a23 =>
    ld kapiWait h13 (a23.add ((s12.2.1 : Int).toNat * 2)) fun t24 =>
    new h13 (([t24] : List (Den kapiWait)).flatMap (Kd.cells kapiWait)) fun p25 h26 =>
    appendM 2 16 h26 s12.1 ⟨some p25, 1, 1⟩ fun t27 h28 =>
    go14 (t27, (w64 (s12.2.1 + 1)), ()) h28) ∧
    ((decide (s12.2.1 < (t18.len : Int))) = false →
    deref m1 fun a29 =>
    ld (.sl : Kd) h13 (a29.add 2) fun t30 =>
    (0 ≤ k2 ∧ k2 < (t30.len : Int)) ∧
    deref t30.a fun a31 =>
    st (.sl : Kd) h13 (a31.add ((k2 : Int).toNat * 1)) s12.1 fun h32 =>
    deref m1 fun a33 =>
    ld (.ptr : Kd) h32 (a33.add 0) fun t34 =>
    deref t34 fun a35 =>
    st ((.int .i64) : Kd) h32 (a35.add 3) k2 fun h36 =>
    deref m1 fun a37 =>
    ld (.ptr : Kd) h36 (a37.add 0) fun t38 =>
    c_ref2_Arena_Do t38 (0, (1, (t11.1, (t11.2.1, (0, ()))))) h36 fun r39 h40 =>
    Q true h40))
def ref21_Memory_Flush.j2 (c_ref2_Arena_Do : Option Addr → Den klaw21Move → Heap → (Den kapiEffect → Heap → Prop) → Prop) (m1 : Option Addr) (k2 : Int) (Q : Bool → Heap → Prop) (s4 : Unit) (h5 : Heap) : Prop :=
    deref m1 fun a6 =>
    ld (.sl : Kd) h5 (a6.add 2) fun t7 =>
    (0 ≤ k2 ∧ k2 < (t7.len : Int)) ∧
    deref t7.a fun a8 =>
    ld (.sl : Kd) h5 (a8.add ((k2 : Int).toNat * 1)) fun t9 =>
    (0 ≤ (0 : Int) ∧ (0 : Int) < (t9.len : Int)) ∧
    deref t9.a fun a10 =>
    ld kapiWait h5 (a10.add (((0 : Int) : Int).toNat * 2)) fun t11 =>
    Loop (ref21_Memory_Flush.l1 c_ref2_Arena_Do m1 k2 Q t11) (⟨none, 0, 0⟩, 1, ()) h5
def ref21_Memory_Flush.j3 (c_ref2_Arena_Do : Option Addr → Den klaw21Move → Heap → (Den kapiEffect → Heap → Prop) → Prop) (m1 : Option Addr) (k2 : Int) (Q : Bool → Heap → Prop) (s41 : (Bool × Unit)) (h42 : Heap) : Prop :=
    ((s41.1 = true →
    Q false h42) ∧
    (s41.1 = false →
    ref21_Memory_Flush.j2 c_ref2_Arena_Do m1 k2 Q () h42))
def ref21_Memory_Flush.M (c_ref2_Arena_Do : Option Addr → Den klaw21Move → Heap → (Den kapiEffect → Heap → Prop) → Prop) (m1 : Option Addr) (k2 : Int) (h3 : Heap) (Q : Bool → Heap → Prop) : Prop :=
    (((decide (k2 < 0)) = true →
    ref21_Memory_Flush.j3 c_ref2_Arena_Do m1 k2 Q (true, ()) h3) ∧
    ((decide (k2 < 0)) = false →
    deref m1 fun a43 =>
    ld (.sl : Kd) h3 (a43.add 2) fun t44 =>
    (((decide ((t44.len : Int) ≤ k2)) = true →
    ref21_Memory_Flush.j3 c_ref2_Arena_Do m1 k2 Q (true, ()) h3) ∧
    ((decide ((t44.len : Int) ≤ k2)) = false →
    deref m1 fun a45 =>
    ld (.sl : Kd) h3 (a45.add 2) fun t46 =>
    (0 ≤ k2 ∧ k2 < (t46.len : Int)) ∧
    deref t46.a fun a47 =>
    ld (.sl : Kd) h3 (a47.add ((k2 : Int).toNat * 1)) fun t48 =>
    ref21_Memory_Flush.j3 c_ref2_Arena_Do m1 k2 Q ((decide ((t48.len : Int) = 0)), ()) h3))))
def ref21_Memory_Flush.mk : Mk := (.s .d (.j [] (.j [.slot 29 .bool] .d (.c (.s .d .d) .d)) (.s (.r [9]) (.s .d (.s (.s .d (.b (.l [.slot 6 .sl, .slot 7 (.int .i64)] (.s (.s .d (.c .d .d)) (.s (.b .d) .d))))) (.s .d (.s .d (.s (.q [] [] [.p 0, .p 1, .p 2, .p 4, .p 6, .w 3 [3, 9], .w 5 [5, 8, 9], .w 7 [7, 8, 9], .p 8, .o 9]) (.s .d .d)))))))))

def law21_shelf_keep.l1 (Q : Unit → Heap → Prop) (go53 : (Sl × (Sl × (Sl × (Int × Unit)))) → Heap → Prop) (s51 : (Sl × (Sl × (Sl × (Int × Unit))))) (h52 : Heap) : Prop :=
    (((decide (s51.2.2.2.1 < 64)) = true →
    new h52 (([((-7), (0, ()))] : List (Den kapiWait)).flatMap (Kd.cells kapiWait)) fun p54 h55 =>
    appendM 2 16 h55 s51.1 ⟨some p54, 1, 1⟩ fun t56 h57 =>
    new h57 (([(-7)] : List (Den ((.int .i64) : Kd))).flatMap (Kd.cells ((.int .i64) : Kd))) fun p58 h59 =>
    appendM 1 8 h59 s51.2.1 ⟨some p58, 1, 1⟩ fun t60 h61 =>
    new h61 (([((-7), (0, (0, (0, (0, (false, ()))))))] : List (Den kapiAccess)).flatMap (Kd.cells kapiAccess)) fun p62 h63 =>
    appendM 6 48 h63 s51.2.2.1 ⟨some p62, 1, 1⟩ fun t64 h65 =>
    go53 (t56, t60, t64, (w64 (s51.2.2.2.1 + 1)), ()) h65) ∧
    ((decide (s51.2.2.2.1 < 64)) = false →
    Q () h52))
def law21_shelf_keep.l2 (s1 : Option Addr) (w2 : Sl) (c3 : Sl) (l4 : Sl) (Q : Unit → Heap → Prop) (go22 : (Int × Unit) → Heap → Prop) (s20 : (Int × Unit)) (h21 : Heap) : Prop :=
    (((decide (s20.1 < (l4.len : Int))) = true →
    deref s1 fun a23 =>
    ld (.sl : Kd) h21 (a23.add 2) fun t24 =>
    (0 ≤ s20.1 ∧ s20.1 < (l4.len : Int)) ∧
    deref l4.a fun a25 =>
    st kapiAccess h21 (a25.add ((s20.1 : Int).toNat * 6)) ((w64 ((-9) - (t24.len : Int))), (9, (0, (0, (0, (false, ())))))) fun h26 =>
    go22 ((w64 (s20.1 + 1)), ()) h26) ∧
    ((decide (s20.1 < (l4.len : Int))) = false →
    deref s1 fun a27 =>
    ld (.sl : Kd) h21 (a27.add 0) fun t28 =>
    new h21 (([w2] : List (Den (.sl : Kd))).flatMap (Kd.cells (.sl : Kd))) fun p29 h30 =>
    appendM 1 24 h30 t28 ⟨some p29, 1, 1⟩ fun t31 h32 =>
    deref s1 fun a33 =>
    st (.sl : Kd) h32 (a33.add 0) t31 fun h34 =>
    deref s1 fun a35 =>
    ld (.sl : Kd) h34 (a35.add 1) fun t36 =>
    new h34 (([c3] : List (Den (.sl : Kd))).flatMap (Kd.cells (.sl : Kd))) fun p37 h38 =>
    appendM 1 24 h38 t36 ⟨some p37, 1, 1⟩ fun t39 h40 =>
    deref s1 fun a41 =>
    st (.sl : Kd) h40 (a41.add 1) t39 fun h42 =>
    deref s1 fun a43 =>
    ld (.sl : Kd) h42 (a43.add 2) fun t44 =>
    new h42 (([l4] : List (Den (.sl : Kd))).flatMap (Kd.cells (.sl : Kd))) fun p45 h46 =>
    appendM 1 24 h46 t44 ⟨some p45, 1, 1⟩ fun t47 h48 =>
    deref s1 fun a49 =>
    st (.sl : Kd) h48 (a49.add 2) t47 fun h50 =>
    Loop (law21_shelf_keep.l1 Q) (w2, c3, l4, 0, ()) h50))
def law21_shelf_keep.l3 (s1 : Option Addr) (w2 : Sl) (c3 : Sl) (l4 : Sl) (Q : Unit → Heap → Prop) (go15 : (Int × Unit) → Heap → Prop) (s13 : (Int × Unit)) (h14 : Heap) : Prop :=
    (((decide (s13.1 < (c3.len : Int))) = true →
    deref s1 fun a16 =>
    ld (.sl : Kd) h14 (a16.add 1) fun t17 =>
    (0 ≤ s13.1 ∧ s13.1 < (c3.len : Int)) ∧
    deref c3.a fun a18 =>
    st ((.int .i64) : Kd) h14 (a18.add ((s13.1 : Int).toNat * 1)) (w64 ((-1000) - (t17.len : Int))) fun h19 =>
    go15 ((w64 (s13.1 + 1)), ()) h19) ∧
    ((decide (s13.1 < (c3.len : Int))) = false →
    Loop (law21_shelf_keep.l2 s1 w2 c3 l4 Q) (0, ()) h14))
def law21_shelf_keep.l4 (s1 : Option Addr) (w2 : Sl) (c3 : Sl) (l4 : Sl) (Q : Unit → Heap → Prop) (go8 : (Int × Unit) → Heap → Prop) (s6 : (Int × Unit)) (h7 : Heap) : Prop :=
    (((decide (s6.1 < (w2.len : Int))) = true →
    deref s1 fun a9 =>
    ld (.sl : Kd) h7 (a9.add 0) fun t10 =>
    (0 ≤ s6.1 ∧ s6.1 < (w2.len : Int)) ∧
    deref w2.a fun a11 =>
    st kapiWait h7 (a11.add ((s6.1 : Int).toNat * 2)) ((w64 ((-9) - (t10.len : Int))), ((-9), ())) fun h12 =>
    go8 ((w64 (s6.1 + 1)), ()) h12) ∧
    ((decide (s6.1 < (w2.len : Int))) = false →
    Loop (law21_shelf_keep.l3 s1 w2 c3 l4 Q) (0, ()) h7))
def law21_shelf_keep.M  (s1 : Option Addr) (w2 : Sl) (c3 : Sl) (l4 : Sl) (h5 : Heap) (Q : Unit → Heap → Prop) : Prop :=
    Loop (law21_shelf_keep.l4 s1 w2 c3 l4 Q) (0, ()) h5
def law21_shelf_keep.mk : Mk := (.s (.s .d (.b (.l [.slot 8 (.int .i64)] (.s (.s .d (.c .d .d)) (.s (.b .d) .d))))) (.s (.s .d (.b (.l [.slot 9 (.int .i64)] (.s (.s .d (.c .d .d)) (.s (.b .d) .d))))) (.s (.s .d (.b (.l [.slot 10 (.int .i64)] (.s (.s .d (.c .d .d)) (.s (.b .d) .d))))) (.s .d (.s .d (.s .d (.s .d (.b (.l [.slot 1 .sl, .slot 2 .sl, .slot 3 .sl, .slot 11 (.int .i64)] (.s (.s .d (.c .d .d)) (.s (.b (.s .d (.s .d .d))) .d)))))))))))

def cells_Arena_Cells.M  (a1 : Option Addr) (h2 : Heap) (Q : Sl → Heap → Prop) : Prop :=
    (((Option.isNone a1) = true →
    Q ⟨none, 0, 0⟩ h2) ∧
    ((Option.isNone a1) = false →
    deref a1 fun a3 =>
    ld (.sl : Kd) h2 (a3.add 2) fun t4 =>
    makeM ((.int .i64) : Kd) 8 h2 (t4.len : Int) (t4.len : Int) fun s5 h6 =>
    deref a1 fun a7 =>
    ld (.sl : Kd) h6 (a7.add 2) fun t8 =>
    copyM 1 h6 s5 t8 fun n9 h10 =>
    Q s5 h10))
def cells_Arena_Cells.mk : Mk := (.s .d (.s (.s .d (.c (.s .d .d) .d)) (.s .d (.s .d (.s .d .d)))))

def cells_Arena_Log.M  (a1 : Option Addr) (h2 : Heap) (Q : Sl → Heap → Prop) : Prop :=
    (((Option.isNone a1) = true →
    Q ⟨none, 0, 0⟩ h2) ∧
    ((Option.isNone a1) = false →
    deref a1 fun a3 =>
    ld (.sl : Kd) h2 (a3.add 3) fun t4 =>
    makeM kapiAccess 48 h2 (t4.len : Int) (t4.len : Int) fun s5 h6 =>
    deref a1 fun a7 =>
    ld (.sl : Kd) h6 (a7.add 3) fun t8 =>
    copyM 6 h6 s5 t8 fun n9 h10 =>
    Q s5 h10))
def cells_Arena_Log.mk : Mk := (.s .d (.s (.s .d (.c (.s .d .d) .d)) (.s .d (.s .d (.s .d .d)))))

def law21_Kept_asked.l1 (c_buffers_Memory_Waiting : Option Addr → Int → Heap → (Sl → Heap → Prop) → Prop) (c_law21_Kept_waits : Option Addr → Sl → Sl → Heap → (Bool → Heap → Prop) → Prop) (c_buffers_Memory_Cells : Option Addr → Heap → (Sl → Heap → Prop) → Prop) (c_law21_Kept_numbers : Option Addr → Sl → Sl → Heap → (Bool → Heap → Prop) → Prop) (c_buffers_Memory_Log : Option Addr → Heap → (Sl → Heap → Prop) → Prop) (c_law21_Kept_accesses : Option Addr → Sl → Sl → Heap → (Bool → Heap → Prop) → Prop) (k1 : Option Addr) (m2 : Option Addr) (r3 : Option Addr) (Q : Bool → Heap → Prop) (go7 : (Int × Unit) → Heap → Prop) (s5 : (Int × Unit)) (go10 : (Int × Unit) → Heap → Prop) (s8 : (Int × Unit)) (h9 : Heap) : Prop :=
    deref r3 fun a11 =>
    ld (.sl : Kd) h9 (a11.add 2) fun t12 =>
    (((decide (s8.1 < (t12.len : Int))) = true →
    deref r3 fun a13 =>
    ld (.sl : Kd) h9 (a13.add 2) fun t14 =>
    (0 ≤ s8.1 ∧ s8.1 < (t14.len : Int)) ∧
    deref t14.a fun a15 =>
    ld (.sl : Kd) h9 (a15.add ((s8.1 : Int).toNat * 1)) fun t16 =>
    c_buffers_Memory_Waiting m2 s8.1 h9 fun r17 h18 =>
    sees h18 (some (a15.add ((s8.1 : Int).toNat * 1))) (.sl : Kd) t16 ∧
    sees h18 (some (a13.add 2)) (.sl : Kd) t14 ∧
    c_law21_Kept_waits k1 r17 t16 h18 fun r19 h20 =>
    (((!r19) = true →
    Q false h20) ∧
    ((!r19) = false →
    go10 ((w64 (s8.1 + 1)), ()) h20))) ∧
    ((decide (s8.1 < (t12.len : Int))) = false →
    deref r3 fun a21 =>
    ld (.ptr : Kd) h9 (a21.add 0) fun t22 =>
    deref t22 fun a23 =>
    ld (.sl : Kd) h9 (a23.add 1) fun t24 =>
    c_buffers_Memory_Cells m2 h9 fun r25 h26 =>
    sees h26 (some (a23.add 1)) (.sl : Kd) t24 ∧
    sees h26 (some (a21.add 0)) (.ptr : Kd) t22 ∧
    c_law21_Kept_numbers k1 r25 t24 h26 fun r27 h28 =>
    (((!r27) = true →
    Q false h28) ∧
    ((!r27) = false →
    deref r3 fun a29 =>
    ld (.ptr : Kd) h28 (a29.add 0) fun t30 =>
    deref t30 fun a31 =>
    ld (.sl : Kd) h28 (a31.add 4) fun t32 =>
    c_buffers_Memory_Log m2 h28 fun r33 h34 =>
    sees h34 (some (a31.add 4)) (.sl : Kd) t32 ∧
    sees h34 (some (a29.add 0)) (.ptr : Kd) t30 ∧
    c_law21_Kept_accesses k1 r33 t32 h34 fun r35 h36 =>
    (((!r35) = true →
    Q false h36) ∧
    ((!r35) = false →
    go7 ((w64 (s5.1 + 1)), ()) h36))))))
def law21_Kept_asked.l2 (c_buffers_Memory_Waiting : Option Addr → Int → Heap → (Sl → Heap → Prop) → Prop) (c_law21_Kept_waits : Option Addr → Sl → Sl → Heap → (Bool → Heap → Prop) → Prop) (c_buffers_Memory_Cells : Option Addr → Heap → (Sl → Heap → Prop) → Prop) (c_law21_Kept_numbers : Option Addr → Sl → Sl → Heap → (Bool → Heap → Prop) → Prop) (c_buffers_Memory_Log : Option Addr → Heap → (Sl → Heap → Prop) → Prop) (c_law21_Kept_accesses : Option Addr → Sl → Sl → Heap → (Bool → Heap → Prop) → Prop) (k1 : Option Addr) (m2 : Option Addr) (r3 : Option Addr) (Q : Bool → Heap → Prop) (go7 : (Int × Unit) → Heap → Prop) (s5 : (Int × Unit)) (h6 : Heap) : Prop :=
    (((decide (s5.1 < 2)) = true →
    Loop (law21_Kept_asked.l1 c_buffers_Memory_Waiting c_law21_Kept_waits c_buffers_Memory_Cells c_law21_Kept_numbers c_buffers_Memory_Log c_law21_Kept_accesses k1 m2 r3 Q go7 s5) (0, ()) h6) ∧
    ((decide (s5.1 < 2)) = false →
    Q true h6))
def law21_Kept_asked.M (c_buffers_Memory_Waiting : Option Addr → Int → Heap → (Sl → Heap → Prop) → Prop) (c_law21_Kept_waits : Option Addr → Sl → Sl → Heap → (Bool → Heap → Prop) → Prop) (c_buffers_Memory_Cells : Option Addr → Heap → (Sl → Heap → Prop) → Prop) (c_law21_Kept_numbers : Option Addr → Sl → Sl → Heap → (Bool → Heap → Prop) → Prop) (c_buffers_Memory_Log : Option Addr → Heap → (Sl → Heap → Prop) → Prop) (c_law21_Kept_accesses : Option Addr → Sl → Sl → Heap → (Bool → Heap → Prop) → Prop) (k1 : Option Addr) (m2 : Option Addr) (r3 : Option Addr) (h4 : Heap) (Q : Bool → Heap → Prop) : Prop :=
    Loop (law21_Kept_asked.l2 c_buffers_Memory_Waiting c_law21_Kept_waits c_buffers_Memory_Cells c_law21_Kept_numbers c_buffers_Memory_Log c_law21_Kept_accesses k1 m2 r3 Q) (0, ()) h4
def law21_Kept_asked.mk : Mk := (.s .d (.s (.s .d (.b (.l [.slot 7 (.int .i64)] (.s (.s .d (.c .d .d)) (.s (.b (.s (.s .d (.b (.l [.slot 8 (.int .i64)] (.s (.s .d (.c .d .d)) (.s (.b (.s (.q [] [] [.p 0, .p 1, .p 2, .p 4, .p 5, .p 6, .p 8, .w 7 [7, 9, 10, 11, 12], .p 9, .w 10 [10, 11, 12], .o 3, .o 11, .p 12]) (.s .d (.c (.s .d .d) .d)))) .d))))) (.s (.q [] [] [.p 0, .p 1, .p 3, .p 4, .p 5, .w 6 [6, 7, 8, 9, 10, 11], .p 7, .p 8, .w 9 [9, 10, 11], .o 2, .o 10, .p 11]) (.s (.s .d (.c (.s .d .d) .d)) (.s (.q [] [] [.p 0, .p 1, .p 3, .p 4, .p 5, .w 6 [6, 7, 8, 9, 10, 11], .p 7, .p 8, .w 9 [9, 10, 11], .o 2, .o 10, .p 11]) (.s .d (.c (.s .d .d) .d))))))) .d))))) (.s .d .d)))

def law21_Kept_alone.l1 (c_law21_shelf_keep : Option Addr → Sl → Sl → Sl → Heap → (Unit → Heap → Prop) → Prop) (c_law21_shelf_stands : Option Addr → Heap → (Bool → Heap → Prop) → Prop) (k1 : Option Addr) (Q : Bool → Heap → Prop) (p48 : Addr) (go74 : (Int × Unit) → Heap → Prop) (s72 : (Int × Unit)) (h73 : Heap) : Prop :=
    deref k1 fun a75 =>
    ld (.sl : Kd) h73 (a75.add 4) fun t76 =>
    (((decide (s72.1 < (t76.len : Int))) = true →
    deref k1 fun a77 =>
    ld (.sl : Kd) h73 (a77.add 4) fun t78 =>
    (0 ≤ s72.1 ∧ s72.1 < (t78.len : Int)) ∧
    deref t78.a fun a79 =>
    ld (.sl : Kd) h73 (a79.add ((s72.1 : Int).toNat * 1)) fun t80 =>
    c_law21_shelf_keep (some p48) ⟨none, 0, 0⟩ ⟨none, 0, 0⟩ t80 h73 fun r81 h82 =>
    go74 ((w64 (s72.1 + 1)), ()) h82) ∧
    ((decide (s72.1 < (t76.len : Int))) = false →
    c_law21_shelf_stands (some p48) h73 fun r83 h84 =>
    Q r83 h84))
def law21_Kept_alone.l2 (c_law21_shelf_keep : Option Addr → Sl → Sl → Sl → Heap → (Unit → Heap → Prop) → Prop) (c_law21_shelf_stands : Option Addr → Heap → (Bool → Heap → Prop) → Prop) (k1 : Option Addr) (Q : Bool → Heap → Prop) (p48 : Addr) (go63 : (Int × Unit) → Heap → Prop) (s61 : (Int × Unit)) (h62 : Heap) : Prop :=
    deref k1 fun a64 =>
    ld (.sl : Kd) h62 (a64.add 2) fun t65 =>
    (((decide (s61.1 < (t65.len : Int))) = true →
    deref k1 fun a66 =>
    ld (.sl : Kd) h62 (a66.add 2) fun t67 =>
    (0 ≤ s61.1 ∧ s61.1 < (t67.len : Int)) ∧
    deref t67.a fun a68 =>
    ld (.sl : Kd) h62 (a68.add ((s61.1 : Int).toNat * 1)) fun t69 =>
    c_law21_shelf_keep (some p48) ⟨none, 0, 0⟩ t69 ⟨none, 0, 0⟩ h62 fun r70 h71 =>
    go63 ((w64 (s61.1 + 1)), ()) h71) ∧
    ((decide (s61.1 < (t65.len : Int))) = false →
    Loop (law21_Kept_alone.l1 c_law21_shelf_keep c_law21_shelf_stands k1 Q p48) (0, ()) h62))
def law21_Kept_alone.l3 (c_law21_shelf_keep : Option Addr → Sl → Sl → Sl → Heap → (Unit → Heap → Prop) → Prop) (c_law21_shelf_stands : Option Addr → Heap → (Bool → Heap → Prop) → Prop) (k1 : Option Addr) (Q : Bool → Heap → Prop) (p48 : Addr) (go52 : (Int × Unit) → Heap → Prop) (s50 : (Int × Unit)) (h51 : Heap) : Prop :=
    deref k1 fun a53 =>
    ld (.sl : Kd) h51 (a53.add 0) fun t54 =>
    (((decide (s50.1 < (t54.len : Int))) = true →
    deref k1 fun a55 =>
    ld (.sl : Kd) h51 (a55.add 0) fun t56 =>
    (0 ≤ s50.1 ∧ s50.1 < (t56.len : Int)) ∧
    deref t56.a fun a57 =>
    ld (.sl : Kd) h51 (a57.add ((s50.1 : Int).toNat * 1)) fun t58 =>
    c_law21_shelf_keep (some p48) t58 ⟨none, 0, 0⟩ ⟨none, 0, 0⟩ h51 fun r59 h60 =>
    go52 ((w64 (s50.1 + 1)), ()) h60) ∧
    ((decide (s50.1 < (t54.len : Int))) = false →
    Loop (law21_Kept_alone.l2 c_law21_shelf_keep c_law21_shelf_stands k1 Q p48) (0, ()) h51))
def law21_Kept_alone.l4 (c_law21_sameLog : Sl → Sl → Heap → (Bool → Heap → Prop) → Prop) (c_law21_shelf_keep : Option Addr → Sl → Sl → Sl → Heap → (Unit → Heap → Prop) → Prop) (c_law21_shelf_stands : Option Addr → Heap → (Bool → Heap → Prop) → Prop) (k1 : Option Addr) (Q : Bool → Heap → Prop) (go35 : (Int × Unit) → Heap → Prop) (s33 : (Int × Unit)) (h34 : Heap) : Prop :=
    deref k1 fun a36 =>
    ld (.sl : Kd) h34 (a36.add 4) fun t37 =>
    (((decide (s33.1 < (t37.len : Int))) = true →
    deref k1 fun a38 =>
    deref k1 fun a39 =>
    ld (.sl : Kd) h34 (a38.add 4) fun t40 =>
    (0 ≤ s33.1 ∧ s33.1 < (t40.len : Int)) ∧
    deref t40.a fun a41 =>
    ld (.sl : Kd) h34 (a41.add ((s33.1 : Int).toNat * 1)) fun t42 =>
    ld (.sl : Kd) h34 (a39.add 5) fun t43 =>
    (0 ≤ s33.1 ∧ s33.1 < (t43.len : Int)) ∧
    deref t43.a fun a44 =>
    ld (.sl : Kd) h34 (a44.add ((s33.1 : Int).toNat * 1)) fun t45 =>
    c_law21_sameLog t42 t45 h34 fun r46 h47 =>
    (((!r46) = true →
    Q false h47) ∧
    ((!r46) = false →
    go35 ((w64 (s33.1 + 1)), ()) h47))) ∧
    ((decide (s33.1 < (t37.len : Int))) = false →
    new h34 (klaw21shelf.cells (Sl.none, (Sl.none, (Sl.none, ())))) fun p48 h49 =>
    Loop (law21_Kept_alone.l3 c_law21_shelf_keep c_law21_shelf_stands k1 Q p48) (0, ()) h49))
def law21_Kept_alone.l5 (c_law21_sameNumbers : Sl → Sl → Heap → (Bool → Heap → Prop) → Prop) (c_law21_sameLog : Sl → Sl → Heap → (Bool → Heap → Prop) → Prop) (c_law21_shelf_keep : Option Addr → Sl → Sl → Sl → Heap → (Unit → Heap → Prop) → Prop) (c_law21_shelf_stands : Option Addr → Heap → (Bool → Heap → Prop) → Prop) (k1 : Option Addr) (Q : Bool → Heap → Prop) (go20 : (Int × Unit) → Heap → Prop) (s18 : (Int × Unit)) (h19 : Heap) : Prop :=
    deref k1 fun a21 =>
    ld (.sl : Kd) h19 (a21.add 2) fun t22 =>
    (((decide (s18.1 < (t22.len : Int))) = true →
    deref k1 fun a23 =>
    deref k1 fun a24 =>
    ld (.sl : Kd) h19 (a23.add 2) fun t25 =>
    (0 ≤ s18.1 ∧ s18.1 < (t25.len : Int)) ∧
    deref t25.a fun a26 =>
    ld (.sl : Kd) h19 (a26.add ((s18.1 : Int).toNat * 1)) fun t27 =>
    ld (.sl : Kd) h19 (a24.add 3) fun t28 =>
    (0 ≤ s18.1 ∧ s18.1 < (t28.len : Int)) ∧
    deref t28.a fun a29 =>
    ld (.sl : Kd) h19 (a29.add ((s18.1 : Int).toNat * 1)) fun t30 =>
    c_law21_sameNumbers t27 t30 h19 fun r31 h32 =>
    (((!r31) = true →
    Q false h32) ∧
    ((!r31) = false →
    go20 ((w64 (s18.1 + 1)), ()) h32))) ∧
    ((decide (s18.1 < (t22.len : Int))) = false →
    Loop (law21_Kept_alone.l4 c_law21_sameLog c_law21_shelf_keep c_law21_shelf_stands k1 Q) (0, ()) h19))
def law21_Kept_alone.l6 (c_law21_sameWaits : Sl → Sl → Heap → (Bool → Heap → Prop) → Prop) (c_law21_sameNumbers : Sl → Sl → Heap → (Bool → Heap → Prop) → Prop) (c_law21_sameLog : Sl → Sl → Heap → (Bool → Heap → Prop) → Prop) (c_law21_shelf_keep : Option Addr → Sl → Sl → Sl → Heap → (Unit → Heap → Prop) → Prop) (c_law21_shelf_stands : Option Addr → Heap → (Bool → Heap → Prop) → Prop) (k1 : Option Addr) (Q : Bool → Heap → Prop) (go5 : (Int × Unit) → Heap → Prop) (s3 : (Int × Unit)) (h4 : Heap) : Prop :=
    deref k1 fun a6 =>
    ld (.sl : Kd) h4 (a6.add 0) fun t7 =>
    (((decide (s3.1 < (t7.len : Int))) = true →
    deref k1 fun a8 =>
    deref k1 fun a9 =>
    ld (.sl : Kd) h4 (a8.add 0) fun t10 =>
    (0 ≤ s3.1 ∧ s3.1 < (t10.len : Int)) ∧
    deref t10.a fun a11 =>
    ld (.sl : Kd) h4 (a11.add ((s3.1 : Int).toNat * 1)) fun t12 =>
    ld (.sl : Kd) h4 (a9.add 1) fun t13 =>
    (0 ≤ s3.1 ∧ s3.1 < (t13.len : Int)) ∧
    deref t13.a fun a14 =>
    ld (.sl : Kd) h4 (a14.add ((s3.1 : Int).toNat * 1)) fun t15 =>
    c_law21_sameWaits t12 t15 h4 fun r16 h17 =>
    (((!r16) = true →
    Q false h17) ∧
    ((!r16) = false →
    go5 ((w64 (s3.1 + 1)), ()) h17))) ∧
    ((decide (s3.1 < (t7.len : Int))) = false →
    Loop (law21_Kept_alone.l5 c_law21_sameNumbers c_law21_sameLog c_law21_shelf_keep c_law21_shelf_stands k1 Q) (0, ()) h4))
def law21_Kept_alone.M (c_law21_sameWaits : Sl → Sl → Heap → (Bool → Heap → Prop) → Prop) (c_law21_sameNumbers : Sl → Sl → Heap → (Bool → Heap → Prop) → Prop) (c_law21_sameLog : Sl → Sl → Heap → (Bool → Heap → Prop) → Prop) (c_law21_shelf_keep : Option Addr → Sl → Sl → Sl → Heap → (Unit → Heap → Prop) → Prop) (c_law21_shelf_stands : Option Addr → Heap → (Bool → Heap → Prop) → Prop) (k1 : Option Addr) (h2 : Heap) (Q : Bool → Heap → Prop) : Prop :=
    Loop (law21_Kept_alone.l6 c_law21_sameWaits c_law21_sameNumbers c_law21_sameLog c_law21_shelf_keep c_law21_shelf_stands k1 Q) (0, ()) h2
def law21_Kept_alone.mk : Mk := (.s .d (.s (.s .d (.b (.l [.slot 3 (.int .i64)] (.s (.s .d (.c .d .d)) (.s (.b (.s (.q [] [] [.p 0, .p 1, .p 2, .p 4, .p 7, .p 8, .p 9, .p 11, .w 3 [3, 5, 6, 14, 15], .p 5, .w 6 [6, 14, 15], .w 10 [10, 12, 13, 14, 15], .p 12, .w 13 [13, 14, 15], .o 14, .p 15]) (.c (.s .d .d) .d))) .d))))) (.s (.s .d (.b (.l [.slot 4 (.int .i64)] (.s (.s .d (.c .d .d)) (.s (.b (.s (.q [] [] [.p 0, .p 1, .p 2, .p 4, .p 7, .p 8, .p 9, .p 11, .w 3 [3, 5, 6, 14, 15], .p 5, .w 6 [6, 14, 15], .w 10 [10, 12, 13, 14, 15], .p 12, .w 13 [13, 14, 15], .o 14, .p 15]) (.c (.s .d .d) .d))) .d))))) (.s (.s .d (.b (.l [.slot 5 (.int .i64)] (.s (.s .d (.c .d .d)) (.s (.b (.s (.q [] [] [.p 0, .p 1, .p 2, .p 4, .p 7, .p 8, .p 9, .p 11, .w 3 [3, 5, 6, 14, 15], .p 5, .w 6 [6, 14, 15], .w 10 [10, 12, 13, 14, 15], .p 12, .w 13 [13, 14, 15], .o 14, .p 15]) (.c (.s .d .d) .d))) .d))))) (.s .d (.s (.s .d (.b (.l [.slot 7 (.int .i64)] (.s (.s .d (.c .d .d)) (.s (.b .d) .d))))) (.s (.s .d (.b (.l [.slot 8 (.int .i64)] (.s (.s .d (.c .d .d)) (.s (.b .d) .d))))) (.s (.s .d (.b (.l [.slot 9 (.int .i64)] (.s (.s .d (.c .d .d)) (.s (.b .d) .d))))) (.s .d .d)))))))))

def buffers_Memory_has.M  (m1 : Option Addr) (actor2 : Int) (h3 : Heap) (Q : Bool → Heap → Prop) : Prop :=
    (((Option.isSome m1) = true →
    (((decide ((0 : Int) ≤ actor2)) = true →
    deref m1 fun a4 =>
    ld ((.int .i64) : Kd) h3 (a4.add 1) fun t5 =>
    Q (decide (actor2 < t5)) h3) ∧
    ((decide ((0 : Int) ≤ actor2)) = false →
    Q false h3))) ∧
    ((Option.isSome m1) = false →
    Q false h3))
def buffers_Memory_has.mk : Mk := (.s .d (.s .d .d))

def cells_Arena_Who.M  (a1 : Option Addr) (actor2 : Int) (h3 : Heap) (Q : Unit → Heap → Prop) : Prop :=
    (((Option.isSome a1) = true →
    deref a1 fun a4 =>
    st ((.int .i64) : Kd) h3 (a4.add 4) actor2 fun h5 =>
    Q () h5) ∧
    ((Option.isSome a1) = false →
    Q () h3))
def cells_Arena_Who.mk : Mk := (.s .d (.c .d .d))

def cells_Arena_Store.M (c_cells_Arena_outside : Option Addr → Int → Heap → (Bool → Heap → Prop) → Prop) (c_cells_Arena_note : Option Addr → Int → Int → Int → Int → Bool → Heap → (Unit → Heap → Prop) → Prop) (a1 : Option Addr) (addr2 : Int) (v3 : Int) (h4 : Heap) (Q : Int → Heap → Prop) : Prop :=
    c_cells_Arena_outside a1 addr2 h4 fun r5 h6 =>
    ((r5 = true →
    Q 20 h6) ∧
    (r5 = false →
    deref a1 fun a7 =>
    ld (.sl : Kd) h6 (a7.add 2) fun t8 =>
    (0 ≤ addr2 ∧ addr2 < (t8.len : Int)) ∧
    deref t8.a fun a9 =>
    st ((.int .i64) : Kd) h6 (a9.add ((addr2 : Int).toNat * 1)) v3 fun h10 =>
    c_cells_Arena_note a1 1 addr2 v3 0 true h10 fun r11 h12 =>
    Q 0 h12))
def cells_Arena_Store.mk : Mk := (.s .d (.s (.s .d (.c (.s .d .d) .d)) (.s .d (.s .d (.s .d .d)))))

def buffers_Memory_drain.l1 (c_buffers_Memory_Flush : Option Addr → Int → Heap → (Bool → Heap → Prop) → Prop) (m1 : Option Addr) (actor2 : Int) (Q : Unit → Heap → Prop) (go6 : Unit → Heap → Prop) (s4 : Unit) (h5 : Heap) : Prop :=
    c_buffers_Memory_Flush m1 actor2 h5 fun r7 h8 =>
    ((r7 = true →
    go6 () h8) ∧
    (r7 = false →
    Q () h8))
def buffers_Memory_drain.M (c_buffers_Memory_Flush : Option Addr → Int → Heap → (Bool → Heap → Prop) → Prop) (m1 : Option Addr) (actor2 : Int) (h3 : Heap) (Q : Unit → Heap → Prop) : Prop :=
    Loop (buffers_Memory_drain.l1 c_buffers_Memory_Flush m1 actor2 Q) () h3
def buffers_Memory_drain.mk : Mk := (.b (.l [] (.s (.s .d (.c .d .d)) (.b .d))))

def buffers_View_none.M (c_cells_Arena_Mark : Option Addr → Heap → (Int → Heap → Prop) → Prop) (v1 : Option Addr) (addr2 : Int) (h3 : Heap) (Q : Bool → Heap → Prop) : Prop :=
    (((Option.isNone v1) = true →
    Q true h3) ∧
    ((Option.isNone v1) = false →
    deref v1 fun a4 =>
    ld (.ptr : Kd) h3 ((a4.add 0).add 0) fun t5 =>
    (((Option.isNone t5) = true →
    Q true h3) ∧
    ((Option.isNone t5) = false →
    (((decide (addr2 < 0)) = true →
    Q true h3) ∧
    ((decide (addr2 < 0)) = false →
    deref v1 fun a6 =>
    ld (.ptr : Kd) h3 ((a6.add 0).add 0) fun t7 =>
    deref t7 fun a8 =>
    ld (.ptr : Kd) h3 (a8.add 0) fun t9 =>
    c_cells_Arena_Mark t9 h3 fun r10 h11 =>
    Q (decide (r10 ≤ addr2)) h11))))))
def buffers_View_none.mk : Mk := (.s .d (.s .d .d))

def buffers_place_cells.M (c_cells_Arena_Who : Option Addr → Int → Heap → (Unit → Heap → Prop) → Prop) (p1 : Den kbuffersplace) (h2 : Heap) (Q : Option Addr → Heap → Prop) : Prop :=
    deref p1.1 fun a3 =>
    ld (.ptr : Kd) h2 (a3.add 0) fun t4 =>
    c_cells_Arena_Who t4 p1.2.1 h2 fun r5 h6 =>
    deref p1.1 fun a7 =>
    ld (.ptr : Kd) h6 (a7.add 0) fun t8 =>
    Q t8 h6
def buffers_place_cells.mk : Mk := (.s (.r [0]) (.s (.q [] [] [.p 0, .p 5, .w 1 [1, 2, 3, 4, 7], .p 2, .p 3, .w 4 [4, 7], .w 6 [6, 7], .o 7]) (.s .d .d)))

def cells_Arena_Load.M (c_cells_Arena_outside : Option Addr → Int → Heap → (Bool → Heap → Prop) → Prop) (c_cells_Arena_note : Option Addr → Int → Int → Int → Int → Bool → Heap → (Unit → Heap → Prop) → Prop) (a1 : Option Addr) (addr2 : Int) (h3 : Heap) (Q : Den kapiWait → Heap → Prop) : Prop :=
    c_cells_Arena_outside a1 addr2 h3 fun r4 h5 =>
    ((r4 = true →
    Q (0, 20, ()) h5) ∧
    (r4 = false →
    deref a1 fun a6 =>
    ld (.sl : Kd) h5 (a6.add 2) fun t7 =>
    (0 ≤ addr2 ∧ addr2 < (t7.len : Int)) ∧
    deref t7.a fun a8 =>
    ld ((.int .i64) : Kd) h5 (a8.add ((addr2 : Int).toNat * 1)) fun t9 =>
    c_cells_Arena_note a1 0 addr2 t9 0 true h5 fun r10 h11 =>
    Q (t9, 0, ()) h11))
def cells_Arena_Load.mk : Mk := (.s .d (.s (.s .d (.c (.s .d .d) .d)) (.s .d (.s .d (.s .d .d)))))

def cells_Arena_CAS.j1 (c_cells_Arena_note : Option Addr → Int → Int → Int → Int → Bool → Heap → (Unit → Heap → Prop) → Prop) (a1 : Option Addr) (addr2 : Int) (old3 : Int) (next4 : Int) (Q : (Bool × (Int × Unit)) → Heap → Prop) (t11 : Int) (s12 : Unit) (h13 : Heap) : Prop :=
    c_cells_Arena_note a1 2 addr2 old3 next4 (decide (t11 = old3)) h13 fun r14 h15 =>
    Q ((decide (t11 = old3)), 0, ()) h15
def cells_Arena_CAS.M (c_cells_Arena_outside : Option Addr → Int → Heap → (Bool → Heap → Prop) → Prop) (c_cells_Arena_note : Option Addr → Int → Int → Int → Int → Bool → Heap → (Unit → Heap → Prop) → Prop) (a1 : Option Addr) (addr2 : Int) (old3 : Int) (next4 : Int) (h5 : Heap) (Q : (Bool × (Int × Unit)) → Heap → Prop) : Prop :=
    c_cells_Arena_outside a1 addr2 h5 fun r6 h7 =>
    ((r6 = true →
    Q (false, 20, ()) h7) ∧
    (r6 = false →
    deref a1 fun a8 =>
    ld (.sl : Kd) h7 (a8.add 2) fun t9 =>
    (0 ≤ addr2 ∧ addr2 < (t9.len : Int)) ∧
    deref t9.a fun a10 =>
    ld ((.int .i64) : Kd) h7 (a10.add ((addr2 : Int).toNat * 1)) fun t11 =>
    (((decide (t11 = old3)) = true →
    deref a1 fun a16 =>
    ld (.sl : Kd) h7 (a16.add 2) fun t17 =>
    (0 ≤ addr2 ∧ addr2 < (t17.len : Int)) ∧
    deref t17.a fun a18 =>
    st ((.int .i64) : Kd) h7 (a18.add ((addr2 : Int).toNat * 1)) next4 fun h19 =>
    cells_Arena_CAS.j1 c_cells_Arena_note a1 addr2 old3 next4 Q t11 () h19) ∧
    ((decide (t11 = old3)) = false →
    cells_Arena_CAS.j1 c_cells_Arena_note a1 addr2 old3 next4 Q t11 () h7))))
def cells_Arena_CAS.mk : Mk := (.s .d (.s (.s .d (.c (.s .d .d) .d)) (.s .d (.j [] (.s .d (.c .d .d)) (.s .d (.s .d .d))))))

def cells_Arena_Add.M (c_cells_Arena_outside : Option Addr → Int → Heap → (Bool → Heap → Prop) → Prop) (c_cells_Arena_note : Option Addr → Int → Int → Int → Int → Bool → Heap → (Unit → Heap → Prop) → Prop) (a1 : Option Addr) (addr2 : Int) (d3 : Int) (h4 : Heap) (Q : Den kapiWait → Heap → Prop) : Prop :=
    c_cells_Arena_outside a1 addr2 h4 fun r5 h6 =>
    ((r5 = true →
    Q (0, 20, ()) h6) ∧
    (r5 = false →
    deref a1 fun a7 =>
    ld (.sl : Kd) h6 (a7.add 2) fun t8 =>
    (0 ≤ addr2 ∧ addr2 < (t8.len : Int)) ∧
    deref t8.a fun a9 =>
    ld ((.int .i64) : Kd) h6 (a9.add ((addr2 : Int).toNat * 1)) fun t10 =>
    (0 ≤ addr2 ∧ addr2 < (t8.len : Int)) ∧
    deref t8.a fun a11 =>
    st ((.int .i64) : Kd) h6 (a11.add ((addr2 : Int).toNat * 1)) (w64 (t10 + d3)) fun h12 =>
    deref a1 fun a13 =>
    ld (.sl : Kd) h12 (a13.add 2) fun t14 =>
    (0 ≤ addr2 ∧ addr2 < (t14.len : Int)) ∧
    deref t14.a fun a15 =>
    ld ((.int .i64) : Kd) h12 (a15.add ((addr2 : Int).toNat * 1)) fun t16 =>
    c_cells_Arena_note a1 3 addr2 d3 t16 true h12 fun r17 h18 =>
    deref a1 fun a19 =>
    ld (.sl : Kd) h18 (a19.add 2) fun t20 =>
    (0 ≤ addr2 ∧ addr2 < (t20.len : Int)) ∧
    deref t20.a fun a21 =>
    ld ((.int .i64) : Kd) h18 (a21.add ((addr2 : Int).toNat * 1)) fun t22 =>
    Q (t22, 0, ()) h18))
def cells_Arena_Add.mk : Mk := (.s .d (.s (.s .d (.c (.s .d .d) .d)) (.s .d (.s .d (.s .d .d)))))

def cells_Arena_Size.M (c_cells_ledger_Size : Option Addr → Heap → (Int → Heap → Prop) → Prop) (a1 : Option Addr) (h2 : Heap) (Q : Int → Heap → Prop) : Prop :=
    (((Option.isNone a1) = true →
    Q 0 h2) ∧
    ((Option.isNone a1) = false →
    deref a1 fun a3 =>
    c_cells_ledger_Size (some (a3.add 0)) h2 fun r4 h5 =>
    Q r4 h5))
def cells_Arena_Size.mk : Mk := (.s .d (.s (.s .d (.c (.s .d .d) .d)) (.s .d .d)))

def cells_Arena_Mark.M (c_cells_ledger_Mark : Option Addr → Heap → (Int → Heap → Prop) → Prop) (a1 : Option Addr) (h2 : Heap) (Q : Int → Heap → Prop) : Prop :=
    (((Option.isNone a1) = true →
    Q 0 h2) ∧
    ((Option.isNone a1) = false →
    deref a1 fun a3 =>
    c_cells_ledger_Mark (some (a3.add 0)) h2 fun r4 h5 =>
    Q r4 h5))
def cells_Arena_Mark.mk : Mk := (.s .d (.s (.s .d (.c (.s .d .d) .d)) (.s .d .d)))

def cells_Arena_Reserve.j1 (c_cells_ledger_refuse : Option Addr → Int → Heap → (Int → Heap → Prop) → Prop) (c_cells_ledger_take : Option Addr → Int → Heap → (Int → Heap → Prop) → Prop) (c_cells_Arena_note : Option Addr → Int → Int → Int → Int → Bool → Heap → (Unit → Heap → Prop) → Prop) (a1 : Option Addr) (n2 : Int) (Q : Den kapiWait → Heap → Prop) (s4 : (Option Addr × Unit)) (h5 : Heap) : Prop :=
    c_cells_ledger_refuse s4.1 n2 h5 fun r6 h7 =>
    (((decide (r6 ≠ 0)) = true →
    Q (0, r6, ()) h7) ∧
    ((decide (r6 ≠ 0)) = false →
    c_cells_ledger_take s4.1 n2 h7 fun r8 h9 =>
    deref a1 fun a10 =>
    ld (.sl : Kd) h9 (a10.add 2) fun t11 =>
    appendZM ((.int .i64) : Kd) 8 h9 t11 n2 fun t12 h13 =>
    deref a1 fun a14 =>
    st (.sl : Kd) h13 (a14.add 2) t12 fun h15 =>
    c_cells_Arena_note a1 4 r8 n2 0 true h15 fun r16 h17 =>
    Q (r8, 0, ()) h17))
def cells_Arena_Reserve.M (c_cells_ledger_refuse : Option Addr → Int → Heap → (Int → Heap → Prop) → Prop) (c_cells_ledger_take : Option Addr → Int → Heap → (Int → Heap → Prop) → Prop) (c_cells_Arena_note : Option Addr → Int → Int → Int → Int → Bool → Heap → (Unit → Heap → Prop) → Prop) (a1 : Option Addr) (n2 : Int) (h3 : Heap) (Q : Den kapiWait → Heap → Prop) : Prop :=
    (((Option.isSome a1) = true →
    deref a1 fun a18 =>
    cells_Arena_Reserve.j1 c_cells_ledger_refuse c_cells_ledger_take c_cells_Arena_note a1 n2 Q ((some (a18.add 0)), ()) h3) ∧
    ((Option.isSome a1) = false →
    cells_Arena_Reserve.j1 c_cells_ledger_refuse c_cells_ledger_take c_cells_Arena_note a1 n2 Q (none, ()) h3))
def cells_Arena_Reserve.mk : Mk := (.s .d (.s .d (.j [.slot 6 .ptr] (.s .d (.c .d .d)) (.s (.s .d (.s .d (.c (.s .d .d) .d))) (.s .d (.s .d (.s .d (.s .d .d))))))))

def cells_good.M  (size1 : Int) (h2 : Heap) (Q : Bool → Heap → Prop) : Prop :=
    (((decide ((0 : Int) ≤ size1)) = true →
    Q (decide (size1 ≤ 1048576)) h2) ∧
    ((decide ((0 : Int) ≤ size1)) = false →
    Q false h2))
def cells_good.mk : Mk := (.s .d (.s .d .d))

def ref21_Memory_refused.M (c_ref21_Memory_inUse : Option Addr → Int → Heap → (Bool → Heap → Prop) → Prop) (m1 : Option Addr) (x2 : Den klaw21Move) (h3 : Heap) (Q : Int → Heap → Prop) : Prop :=
    (((decide (x2.2.1 = 4)) = true →
    (((decide (x2.2.2.2.1 < 1)) = true →
    Q 21 h3) ∧
    ((decide (x2.2.2.2.1 < 1)) = false →
    deref m1 fun a4 =>
    deref m1 fun a5 =>
    ld (.ptr : Kd) h3 (a4.add 0) fun t6 =>
    deref t6 fun a7 =>
    ld ((.int .i64) : Kd) h3 (a7.add 0) fun t8 =>
    ld (.ptr : Kd) h3 (a5.add 0) fun t9 =>
    deref t9 fun a10 =>
    ld (.sl : Kd) h3 (a10.add 1) fun t11 =>
    (((decide ((w64 (t8 - (t11.len : Int))) < x2.2.2.2.1)) = true →
    Q 22 h3) ∧
    ((decide ((w64 (t8 - (t11.len : Int))) < x2.2.2.2.1)) = false →
    Q 0 h3))))) ∧
    ((decide (x2.2.1 = 4)) = false →
    c_ref21_Memory_inUse m1 x2.2.2.1 h3 fun r12 h13 =>
    (((!r12) = true →
    Q 20 h13) ∧
    ((!r12) = false →
    Q 0 h13))))
def ref21_Memory_refused.mk : Mk := (.s (.r [0]) (.s (.s .d (.c (.s (.s .d (.c (.s .d .d) .d)) (.s (.s (.q [] [] [.p 0, .p 2, .p 3, .p 4, .p 9, .p 10, .p 11, .w 1 [1, 18], .w 5 [5, 6, 7, 8, 17, 18], .p 6, .p 7, .w 8 [8, 17, 18], .w 12 [12, 13, 14, 15, 16, 17, 18], .p 13, .p 14, .w 15 [15, 16, 17, 18], .p 16, .p 17, .p 18]) (.c (.s .d .d) .d)) (.s .d .d))) .d)) (.s (.s .d (.c (.s .d .d) .d)) (.s .d .d))))

def ref2_Arena_Do.j1 (c_ref2_Arena_note : Option Addr → Den kapiAccess → Heap → (Unit → Heap → Prop) → Prop) (a1 : Option Addr) (Q : Den kapiEffect → Heap → Prop) (s16 : (Den kapiAccess × (Den kapiEffect × Unit))) (h17 : Heap) : Prop :=
    c_ref2_Arena_note a1 (s16.1.1, (s16.1.2.1, (s16.1.2.2.1, (s16.1.2.2.2.1, (s16.1.2.2.2.2.1, (s16.1.2.2.2.2.2.1, ())))))) h17 fun r18 h19 =>
    Q (s16.2.1.1, (s16.2.1.2.1, (s16.2.1.2.2.1, ()))) h19
def ref2_Arena_Do.j2 (c_ref2_Arena_note : Option Addr → Den kapiAccess → Heap → (Unit → Heap → Prop) → Prop) (a1 : Option Addr) (x2 : Den klaw21Move) (Q : Den kapiEffect → Heap → Prop) (s8 : (Den kapiEffect × Unit)) (h9 : Heap) : Prop :=
    deref a1 fun a10 =>
    ld (.sl : Kd) h9 (a10.add 1) fun t11 =>
    (0 ≤ x2.2.2.1 ∧ x2.2.2.1 < (t11.len : Int)) ∧
    deref t11.a fun a12 =>
    ld ((.int .i64) : Kd) h9 (a12.add ((x2.2.2.1 : Int).toNat * 1)) fun t13 =>
    deref a1 fun a14 =>
    ld ((.int .i64) : Kd) h9 (a14.add 3) fun t15 =>
    (((decide (x2.2.1 = 0)) = true →
    ref2_Arena_Do.j1 c_ref2_Arena_note a1 Q ((t15, (x2.2.1, (x2.2.2.1, (t13, (0, (true, ())))))), (t13, (true, (0, ()))), ()) h9) ∧
    ((decide (x2.2.1 = 0)) = false →
    (((decide (x2.2.1 = 1)) = true →
    deref a1 fun a20 =>
    ld (.sl : Kd) h9 (a20.add 1) fun t21 =>
    (0 ≤ x2.2.2.1 ∧ x2.2.2.1 < (t21.len : Int)) ∧
    deref t21.a fun a22 =>
    st ((.int .i64) : Kd) h9 (a22.add ((x2.2.2.1 : Int).toNat * 1)) x2.2.2.2.1 fun h23 =>
    ref2_Arena_Do.j1 c_ref2_Arena_note a1 Q ((t15, (x2.2.1, (x2.2.2.1, (x2.2.2.2.1, (0, (true, ())))))), (0, (true, (0, ()))), ()) h23) ∧
    ((decide (x2.2.1 = 1)) = false →
    (((decide (x2.2.1 = 2)) = true →
    (((decide (t13 = x2.2.2.2.1)) = true →
    deref a1 fun a24 =>
    ld (.sl : Kd) h9 (a24.add 1) fun t25 =>
    (0 ≤ x2.2.2.1 ∧ x2.2.2.1 < (t25.len : Int)) ∧
    deref t25.a fun a26 =>
    st ((.int .i64) : Kd) h9 (a26.add ((x2.2.2.1 : Int).toNat * 1)) x2.2.2.2.2.1 fun h27 =>
    ref2_Arena_Do.j1 c_ref2_Arena_note a1 Q ((t15, (x2.2.1, (x2.2.2.1, (x2.2.2.2.1, (x2.2.2.2.2.1, ((decide (t13 = x2.2.2.2.1)), ())))))), (0, ((decide (t13 = x2.2.2.2.1)), (0, ()))), ()) h27) ∧
    ((decide (t13 = x2.2.2.2.1)) = false →
    ref2_Arena_Do.j1 c_ref2_Arena_note a1 Q ((t15, (x2.2.1, (x2.2.2.1, (x2.2.2.2.1, (x2.2.2.2.2.1, ((decide (t13 = x2.2.2.2.1)), ())))))), (0, ((decide (t13 = x2.2.2.2.1)), (0, ()))), ()) h9))) ∧
    ((decide (x2.2.1 = 2)) = false →
    deref a1 fun a28 =>
    ld (.sl : Kd) h9 (a28.add 1) fun t29 =>
    (0 ≤ x2.2.2.1 ∧ x2.2.2.1 < (t29.len : Int)) ∧
    deref t29.a fun a30 =>
    st ((.int .i64) : Kd) h9 (a30.add ((x2.2.2.1 : Int).toNat * 1)) (w64 (t13 + x2.2.2.2.1)) fun h31 =>
    ref2_Arena_Do.j1 c_ref2_Arena_note a1 Q ((t15, (x2.2.1, (x2.2.2.1, (x2.2.2.2.1, ((w64 (t13 + x2.2.2.2.1)), (true, ())))))), ((w64 (t13 + x2.2.2.2.1)), (true, (0, ()))), ()) h31))))))
def ref2_Arena_Do.j3 (c_ref2_refused : Int → Heap → (Den kapiEffect → Heap → Prop) → Prop) (c_ref2_Arena_note : Option Addr → Den kapiAccess → Heap → (Unit → Heap → Prop) → Prop) (a1 : Option Addr) (x2 : Den klaw21Move) (Q : Den kapiEffect → Heap → Prop) (s4 : (Den kapiEffect × Unit)) (s32 : (Bool × Unit)) (h33 : Heap) : Prop :=
    ((s32.1 = true →
    c_ref2_refused 20 h33 fun r34 h35 =>
    Q (r34.1, (r34.2.1, (r34.2.2.1, ()))) h35) ∧
    (s32.1 = false →
    ref2_Arena_Do.j2 c_ref2_Arena_note a1 x2 Q ((s4.1.1, (s4.1.2.1, (s4.1.2.2.1, ()))), ()) h33))
def ref2_Arena_Do.j4 (c_ref2_refused : Int → Heap → (Den kapiEffect → Heap → Prop) → Prop) (c_ref2_Arena_reserve : Option Addr → Int → Heap → (Den kapiEffect → Heap → Prop) → Prop) (c_ref2_Arena_note : Option Addr → Den kapiAccess → Heap → (Unit → Heap → Prop) → Prop) (a1 : Option Addr) (x2 : Den klaw21Move) (Q : Den kapiEffect → Heap → Prop) (s4 : (Den kapiEffect × Unit)) (h5 : Heap) : Prop :=
    (((decide (x2.2.1 = 4)) = true →
    c_ref2_Arena_reserve a1 x2.2.2.2.1 h5 fun r6 h7 =>
    Q (r6.1, (r6.2.1, (r6.2.2.1, ()))) h7) ∧
    ((decide (x2.2.1 = 4)) = false →
    (((decide (x2.2.2.1 < 0)) = true →
    ref2_Arena_Do.j3 c_ref2_refused c_ref2_Arena_note a1 x2 Q s4 (true, ()) h5) ∧
    ((decide (x2.2.2.1 < 0)) = false →
    deref a1 fun a36 =>
    ld (.sl : Kd) h5 (a36.add 1) fun t37 =>
    ref2_Arena_Do.j3 c_ref2_refused c_ref2_Arena_note a1 x2 Q s4 ((decide ((t37.len : Int) ≤ x2.2.2.1)), ()) h5))))
def ref2_Arena_Do.j5 (c_ref2_refused : Int → Heap → (Den kapiEffect → Heap → Prop) → Prop) (c_ref2_Arena_reserve : Option Addr → Int → Heap → (Den kapiEffect → Heap → Prop) → Prop) (c_ref2_Arena_note : Option Addr → Den kapiAccess → Heap → (Unit → Heap → Prop) → Prop) (a1 : Option Addr) (x2 : Den klaw21Move) (Q : Den kapiEffect → Heap → Prop) (s38 : (Bool × Unit)) (h39 : Heap) : Prop :=
    ((s38.1 = true →
    c_ref2_refused 23 h39 fun r40 h41 =>
    Q (r40.1, (r40.2.1, (r40.2.2.1, ()))) h41) ∧
    (s38.1 = false →
    ref2_Arena_Do.j4 c_ref2_refused c_ref2_Arena_reserve c_ref2_Arena_note a1 x2 Q ((0, (false, (0, ()))), ()) h39))
def ref2_Arena_Do.M (c_ref2_refused : Int → Heap → (Den kapiEffect → Heap → Prop) → Prop) (c_ref2_Arena_reserve : Option Addr → Int → Heap → (Den kapiEffect → Heap → Prop) → Prop) (c_ref2_Arena_note : Option Addr → Den kapiAccess → Heap → (Unit → Heap → Prop) → Prop) (a1 : Option Addr) (x2 : Den klaw21Move) (h3 : Heap) (Q : Den kapiEffect → Heap → Prop) : Prop :=
    (((decide (x2.2.1 < 0)) = true →
    ref2_Arena_Do.j5 c_ref2_refused c_ref2_Arena_reserve c_ref2_Arena_note a1 x2 Q (true, ()) h3) ∧
    ((decide (x2.2.1 < 0)) = false →
    ref2_Arena_Do.j5 c_ref2_refused c_ref2_Arena_reserve c_ref2_Arena_note a1 x2 Q ((decide ((4 : Int) < x2.2.1)), ()) h3))
def ref2_Arena_Do.mk : Mk := (.s (.r [0, 1]) (.j [.box 4 kapiEffect] (.j [.slot 16 .bool] .d (.c (.s .d .d) .d)) (.s (.s .d (.c (.s (.r [4]) (.s .d .d)) .d)) (.j [.box 4 kapiEffect] (.j [.slot 38 .bool] (.q [] [] [.p 0, .w 1 [1, 2, 3, 4, 5, 6, 7, 8, 9, 10, 11, 12], .p 2, .p 3, .p 4, .p 6, .p 7, .p 8, .w 5 [5, 11, 12], .w 9 [9, 10, 11, 12], .p 10, .p 11, .p 12]) (.c (.s .d .d) .d)) (.s (.q [] [] [.p 0, .p 1, .p 2, .p 4, .w 3 [3, 6, 7, 8], .w 5 [5, 6, 7, 8], .p 6, .w 7 [7, 8], .p 8]) (.s (.q [9] [7] [.p 0, .p 1, .p 2, .p 4, .p 6, .w 3 [3, 8, 10], .w 5 [5, 8, 10], .w 7 [7, 8, 10], .p 8, .o 9, .o 10]) (.s (.r [1]) (.j [.box 7 kapiAccess, .box 8 kapiEffect] (.s .d (.b (.s .d (.c (.s .d .d) (.s .d (.c (.s .d (.q [] [] [.p 0, .p 1, .p 2, .p 4, .p 6, .w 3 [3, 8, 9], .w 5 [5, 8, 9], .w 7 [7, 8, 9], .p 8, .o 9])) (.s .d (.c (.s .d (.s .d (.s .d (.s .d (.s .d (.c (.q [] [] [.p 0, .p 1, .p 2, .p 4, .p 6, .w 3 [3, 8, 9], .w 5 [5, 8, 9], .w 7 [7, 8, 9], .p 8, .o 9]) .d)))))) (.s .d (.s .d (.s .d (.q [] [] [.p 0, .p 1, .p 2, .p 4, .p 6, .p 7, .w 3 [3, 10, 11], .w 5 [5, 10, 11], .w 8 [8, 9, 10, 11], .p 9, .p 10, .o 11])))))))))))) (.s .d (.s .d .d))))))))))

def law21_Kept_waits.M (c_law21_sameWaits : Sl → Sl → Heap → (Bool → Heap → Prop) → Prop) (k1 : Option Addr) (l2 : Sl) (want3 : Sl) (h4 : Heap) (Q : Bool → Heap → Prop) : Prop :=
    appendM 2 16 h4 ⟨none, 0, 0⟩ want3 fun t5 h6 =>
    deref k1 fun a7 =>
    ld (.sl : Kd) h6 (a7.add 0) fun t8 =>
    new h6 (([l2] : List (Den (.sl : Kd))).flatMap (Kd.cells (.sl : Kd))) fun p9 h10 =>
    appendM 1 24 h10 t8 ⟨some p9, 1, 1⟩ fun t11 h12 =>
    deref k1 fun a13 =>
    st (.sl : Kd) h12 (a13.add 0) t11 fun h14 =>
    deref k1 fun a15 =>
    ld (.sl : Kd) h14 (a15.add 1) fun t16 =>
    new h14 (([t5] : List (Den (.sl : Kd))).flatMap (Kd.cells (.sl : Kd))) fun p17 h18 =>
    appendM 1 24 h18 t16 ⟨some p17, 1, 1⟩ fun t19 h20 =>
    deref k1 fun a21 =>
    st (.sl : Kd) h20 (a21.add 1) t19 fun h22 =>
    c_law21_sameWaits l2 want3 h22 fun r23 h24 =>
    Q r23 h24
def law21_Kept_waits.mk : Mk := (.s .d (.s .d (.s .d (.s .d (.s .d (.s .d .d))))))

def law21_Kept_numbers.M (c_law21_sameNumbers : Sl → Sl → Heap → (Bool → Heap → Prop) → Prop) (k1 : Option Addr) (l2 : Sl) (want3 : Sl) (h4 : Heap) (Q : Bool → Heap → Prop) : Prop :=
    appendM 1 8 h4 ⟨none, 0, 0⟩ want3 fun t5 h6 =>
    deref k1 fun a7 =>
    ld ((.int .i64) : Kd) h6 (a7.add 6) fun t8 =>
    deref k1 fun a9 =>
    st ((.int .i64) : Kd) h6 (a9.add 6) (w64 (t8 + (l2.len : Int))) fun h10 =>
    deref k1 fun a11 =>
    ld (.sl : Kd) h10 (a11.add 2) fun t12 =>
    new h10 (([l2] : List (Den (.sl : Kd))).flatMap (Kd.cells (.sl : Kd))) fun p13 h14 =>
    appendM 1 24 h14 t12 ⟨some p13, 1, 1⟩ fun t15 h16 =>
    deref k1 fun a17 =>
    st (.sl : Kd) h16 (a17.add 2) t15 fun h18 =>
    deref k1 fun a19 =>
    ld (.sl : Kd) h18 (a19.add 3) fun t20 =>
    new h18 (([t5] : List (Den (.sl : Kd))).flatMap (Kd.cells (.sl : Kd))) fun p21 h22 =>
    appendM 1 24 h22 t20 ⟨some p21, 1, 1⟩ fun t23 h24 =>
    deref k1 fun a25 =>
    st (.sl : Kd) h24 (a25.add 3) t23 fun h26 =>
    c_law21_sameNumbers l2 want3 h26 fun r27 h28 =>
    Q r27 h28
def law21_Kept_numbers.mk : Mk := (.s .d (.s .d (.s .d (.s .d (.s .d (.s .d (.s .d .d)))))))

def law21_Kept_accesses.M (c_law21_sameLog : Sl → Sl → Heap → (Bool → Heap → Prop) → Prop) (k1 : Option Addr) (l2 : Sl) (want3 : Sl) (h4 : Heap) (Q : Bool → Heap → Prop) : Prop :=
    appendM 6 48 h4 ⟨none, 0, 0⟩ want3 fun t5 h6 =>
    deref k1 fun a7 =>
    ld ((.int .i64) : Kd) h6 (a7.add 6) fun t8 =>
    deref k1 fun a9 =>
    st ((.int .i64) : Kd) h6 (a9.add 6) (w64 (t8 + (l2.len : Int))) fun h10 =>
    deref k1 fun a11 =>
    ld (.sl : Kd) h10 (a11.add 4) fun t12 =>
    new h10 (([l2] : List (Den (.sl : Kd))).flatMap (Kd.cells (.sl : Kd))) fun p13 h14 =>
    appendM 1 24 h14 t12 ⟨some p13, 1, 1⟩ fun t15 h16 =>
    deref k1 fun a17 =>
    st (.sl : Kd) h16 (a17.add 4) t15 fun h18 =>
    deref k1 fun a19 =>
    ld (.sl : Kd) h18 (a19.add 5) fun t20 =>
    new h18 (([t5] : List (Den (.sl : Kd))).flatMap (Kd.cells (.sl : Kd))) fun p21 h22 =>
    appendM 1 24 h22 t20 ⟨some p21, 1, 1⟩ fun t23 h24 =>
    deref k1 fun a25 =>
    st (.sl : Kd) h24 (a25.add 5) t23 fun h26 =>
    c_law21_sameLog l2 want3 h26 fun r27 h28 =>
    Q r27 h28
def law21_Kept_accesses.mk : Mk := (.s .d (.s .d (.s .d (.s .d (.s .d (.s .d (.s .d .d)))))))

def cells_Arena_outside.M (c_cells_ledger_has : Option Addr → Int → Heap → (Bool → Heap → Prop) → Prop) (a1 : Option Addr) (addr2 : Int) (h3 : Heap) (Q : Bool → Heap → Prop) : Prop :=
    (((Option.isNone a1) = true →
    Q true h3) ∧
    ((Option.isNone a1) = false →
    deref a1 fun a4 =>
    c_cells_ledger_has (some (a4.add 0)) addr2 h3 fun r5 h6 =>
    Q (!r5) h6))
def cells_Arena_outside.mk : Mk := (.s .d (.s .d .d))

def cells_Arena_note.M  (a1 : Option Addr) (kind2 : Int) (addr3 : Int) (x4 : Int) (y5 : Int) (ok6 : Bool) (h7 : Heap) (Q : Unit → Heap → Prop) : Prop :=
    deref a1 fun a8 =>
    ld (.bool : Kd) h7 (a8.add 5) fun t9 =>
    ((t9 = true →
    deref a1 fun a10 =>
    deref a1 fun a11 =>
    ld (.sl : Kd) h7 (a10.add 3) fun t12 =>
    ld ((.int .i64) : Kd) h7 (a11.add 4) fun t13 =>
    new h7 (([(t13, (kind2, (addr3, (x4, (y5, (ok6, ()))))))] : List (Den kapiAccess)).flatMap (Kd.cells kapiAccess)) fun p14 h15 =>
    appendM 6 48 h15 t12 ⟨some p14, 1, 1⟩ fun t16 h17 =>
    deref a1 fun a18 =>
    st (.sl : Kd) h17 (a18.add 3) t16 fun h19 =>
    Q () h19) ∧
    (t9 = false →
    Q () h7))
def cells_Arena_note.mk : Mk := (.s .d (.c (.q [] [] [.p 0, .p 1, .p 2, .p 3, .p 5, .p 6, .p 7, .p 9, .p 10, .p 11, .p 12, .p 13, .w 4 [4, 16, 17, 18, 19], .w 8 [8, 14, 15, 16, 17, 18, 19], .p 14, .o 15, .o 16, .p 17, .p 18, .o 19]) .d))

def cells_ledger_Size.M  (l1 : Option Addr) (h2 : Heap) (Q : Int → Heap → Prop) : Prop :=
    (((Option.isNone l1) = true →
    Q 0 h2) ∧
    ((Option.isNone l1) = false →
    deref l1 fun a3 =>
    ld ((.int .i64) : Kd) h2 (a3.add 0) fun t4 =>
    Q t4 h2))
def cells_ledger_Size.mk : Mk := (.s .d (.s (.s .d (.c (.s .d .d) .d)) (.s .d .d)))

def cells_ledger_Mark.M  (l1 : Option Addr) (h2 : Heap) (Q : Int → Heap → Prop) : Prop :=
    (((Option.isNone l1) = true →
    Q 0 h2) ∧
    ((Option.isNone l1) = false →
    deref l1 fun a3 =>
    ld ((.int .i64) : Kd) h2 (a3.add 1) fun t4 =>
    Q t4 h2))
def cells_ledger_Mark.mk : Mk := (.s .d (.s (.s .d (.c (.s .d .d) .d)) (.s .d .d)))

def cells_ledger_refuse.j1 (Q : Int → Heap → Prop) (s4 : Unit) (h5 : Heap) : Prop :=
    Q 0 h5
def cells_ledger_refuse.j2 (Q : Int → Heap → Prop) (s6 : (Bool × Unit)) (h7 : Heap) : Prop :=
    ((s6.1 = true →
    Q 22 h7) ∧
    (s6.1 = false →
    cells_ledger_refuse.j1 Q () h7))
def cells_ledger_refuse.M  (l1 : Option Addr) (n2 : Int) (h3 : Heap) (Q : Int → Heap → Prop) : Prop :=
    (((decide (n2 < 1)) = true →
    Q 21 h3) ∧
    ((decide (n2 < 1)) = false →
    (((Option.isNone l1) = true →
    cells_ledger_refuse.j2 Q (true, ()) h3) ∧
    ((Option.isNone l1) = false →
    deref l1 fun a8 =>
    deref l1 fun a9 =>
    ld ((.int .i64) : Kd) h3 (a8.add 0) fun t10 =>
    ld ((.int .i64) : Kd) h3 (a9.add 1) fun t11 =>
    cells_ledger_refuse.j2 Q ((decide ((w64 (t10 - t11)) < n2)), ()) h3))))
def cells_ledger_refuse.mk : Mk := (.s .d (.s (.s .d (.c (.s .d .d) .d)) (.j [] (.j [.slot 21 .bool] (.q [] [] [.p 0, .p 1, .p 2, .p 3, .p 4, .p 5, .p 6, .p 8, .p 9, .p 10, .w 7 [7, 12, 13, 14], .w 11 [11, 12, 13, 14], .p 12, .p 13, .p 14]) (.c (.s .d .d) .d)) (.s .d .d))))

def cells_ledger_take.M  (l1 : Option Addr) (n2 : Int) (h3 : Heap) (Q : Int → Heap → Prop) : Prop :=
    deref l1 fun a4 =>
    ld ((.int .i64) : Kd) h3 (a4.add 1) fun t5 =>
    deref l1 fun a6 =>
    ld ((.int .i64) : Kd) h3 (a6.add 1) fun t7 =>
    deref l1 fun a8 =>
    st ((.int .i64) : Kd) h3 (a8.add 1) (w64 (t7 + n2)) fun h9 =>
    Q t5 h9
def cells_ledger_take.mk : Mk := (.s .d (.s .d (.s .d (.s .d .d))))

def ref21_Memory_inUse.M  (m1 : Option Addr) (addr2 : Int) (h3 : Heap) (Q : Bool → Heap → Prop) : Prop :=
    (((decide ((0 : Int) ≤ addr2)) = true →
    deref m1 fun a4 =>
    ld (.ptr : Kd) h3 (a4.add 0) fun t5 =>
    deref t5 fun a6 =>
    ld (.sl : Kd) h3 (a6.add 1) fun t7 =>
    Q (decide (addr2 < (t7.len : Int))) h3) ∧
    ((decide ((0 : Int) ≤ addr2)) = false →
    Q false h3))
def ref21_Memory_inUse.mk : Mk := (.s .d (.s .d .d))

def ref2_refused.M  (e1 : Int) (h2 : Heap) (Q : Den kapiEffect → Heap → Prop) : Prop :=
    Q (0, (false, (e1, ()))) h2
def ref2_refused.mk : Mk := (.s (.r [0]) (.s .d .d))

def ref2_Arena_reserve.l1 (c_ref2_Arena_note : Option Addr → Den kapiAccess → Heap → (Unit → Heap → Prop) → Prop) (a1 : Option Addr) (n2 : Int) (Q : Den kapiEffect → Heap → Prop) (t13 : Sl) (go16 : (Int × Unit) → Heap → Prop) (s14 : (Int × Unit)) (h15 : Heap) : Prop :=
    (((decide (s14.1 < n2)) = true →
    deref a1 fun a17 =>
    ld (.sl : Kd) h15 (a17.add 1) fun t18 =>
    new h15 (([0] : List (Den ((.int .i64) : Kd))).flatMap (Kd.cells ((.int .i64) : Kd))) fun p19 h20 =>
    appendM 1 8 h20 t18 ⟨some p19, 1, 1⟩ fun t21 h22 =>
    deref a1 fun a23 =>
    st (.sl : Kd) h22 (a23.add 1) t21 fun h24 =>
    go16 ((w64 (s14.1 + 1)), ()) h24) ∧
    ((decide (s14.1 < n2)) = false →
    deref a1 fun a25 =>
    ld ((.int .i64) : Kd) h15 (a25.add 3) fun t26 =>
    c_ref2_Arena_note a1 (t26, (4, ((t13.len : Int), (n2, (0, (true, ())))))) h15 fun r27 h28 =>
    Q ((t13.len : Int), (true, (0, ()))) h28))
def ref2_Arena_reserve.M (c_ref2_refused : Int → Heap → (Den kapiEffect → Heap → Prop) → Prop) (c_ref2_Arena_note : Option Addr → Den kapiAccess → Heap → (Unit → Heap → Prop) → Prop) (a1 : Option Addr) (n2 : Int) (h3 : Heap) (Q : Den kapiEffect → Heap → Prop) : Prop :=
    (((decide (n2 < 1)) = true →
    c_ref2_refused 21 h3 fun r4 h5 =>
    Q (r4.1, (r4.2.1, (r4.2.2.1, ()))) h5) ∧
    ((decide (n2 < 1)) = false →
    deref a1 fun a6 =>
    deref a1 fun a7 =>
    ld ((.int .i64) : Kd) h3 (a6.add 0) fun t8 =>
    ld (.sl : Kd) h3 (a7.add 1) fun t9 =>
    (((decide ((w64 (t8 - (t9.len : Int))) < n2)) = true →
    c_ref2_refused 22 h3 fun r10 h11 =>
    Q (r10.1, (r10.2.1, (r10.2.2.1, ()))) h11) ∧
    ((decide ((w64 (t8 - (t9.len : Int))) < n2)) = false →
    deref a1 fun a12 =>
    ld (.sl : Kd) h3 (a12.add 1) fun t13 =>
    Loop (ref2_Arena_reserve.l1 c_ref2_Arena_note a1 n2 Q t13) (0, ()) h3))))
def ref2_Arena_reserve.mk : Mk := (.s (.r [0]) (.s (.s .d (.c (.s .d .d) .d)) (.s (.s (.q [] [] [.p 0, .p 1, .p 2, .p 3, .p 5, .p 6, .p 7, .w 4 [4, 10, 11], .w 8 [8, 9, 10, 11], .p 9, .p 10, .p 11]) (.c (.s .d .d) .d)) (.s .d (.s (.s .d (.b (.l [.slot 6 (.int .i64)] (.s (.s .d (.c .d .d)) (.s (.b .d) .d))))) (.s .d (.s .d .d)))))))

def ref2_Arena_note.M  (a1 : Option Addr) (x2 : Den kapiAccess) (h3 : Heap) (Q : Unit → Heap → Prop) : Prop :=
    deref a1 fun a4 =>
    ld (.bool : Kd) h3 (a4.add 2) fun t5 =>
    ((t5 = true →
    deref a1 fun a6 =>
    ld (.sl : Kd) h3 (a6.add 4) fun t7 =>
    new h3 (([(x2.1, (x2.2.1, (x2.2.2.1, (x2.2.2.2.1, (x2.2.2.2.2.1, (x2.2.2.2.2.2.1, ()))))))] : List (Den kapiAccess)).flatMap (Kd.cells kapiAccess)) fun p8 h9 =>
    appendM 6 48 h9 t7 ⟨some p8, 1, 1⟩ fun t10 h11 =>
    deref a1 fun a12 =>
    st (.sl : Kd) h11 (a12.add 4) t10 fun h13 =>
    Q () h13) ∧
    (t5 = false →
    Q () h3))
def ref2_Arena_note.mk : Mk := (.s (.r [0]) (.s .d (.c (.q [] [] [.p 0, .p 1, .p 2, .p 3, .w 4 [4, 7, 8, 9, 10], .w 5 [5, 6, 7, 8, 9, 10], .o 6, .o 7, .p 8, .p 9, .o 10]) .d)))

def cells_ledger_has.M  (l1 : Option Addr) (addr2 : Int) (h3 : Heap) (Q : Bool → Heap → Prop) : Prop :=
    (((decide ((0 : Int) ≤ addr2)) = true →
    deref l1 fun a4 =>
    ld ((.int .i64) : Kd) h3 (a4.add 1) fun t5 =>
    Q (decide (addr2 < t5)) h3) ∧
    ((decide ((0 : Int) ≤ addr2)) = false →
    Q false h3))
def cells_ledger_has.mk : Mk := (.s .d (.s .d .d))

end Go.Mx
