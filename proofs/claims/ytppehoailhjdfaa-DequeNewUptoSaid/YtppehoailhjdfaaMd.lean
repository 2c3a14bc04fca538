/-
  What the functions of this seat come to over abstract heaps: printed by a program of this workplace.
-/
import Derived.Test.YtppehoailhjdfaaMxN
set_option linter.unusedVariables false
namespace Go.Mx
abbrev kref3Mem : Kd := (.pair .sl (.pair (.int .i64) (.pair (.int .i64) (.pair .sl .nil))))
abbrev kparkLot : Kd := (.pair (.int .i64) (.pair (.int .i64) .nil))
abbrev kdequeOp : Kd := (.pair (.int .i64) (.pair (.int .i64) (.pair kparkLot (.pair (.int .i64) (.pair (.int .i64) (.pair (.int .i64) (.pair (.int .i64) (.pair (.int .i64) (.pair (.int .i64) (.pair (.int .i64) (.pair (.int .i64) (.pair (.int .i64) (.pair .bool kparkLot)))))))))))))
abbrev kref3Op : Kd := (.pair (.int .i64) (.pair kparkLot (.pair (.int .i64) (.pair .sl (.pair .bool .nil)))))
abbrev klaw3Move : Kd := (.pair (.int .i64) kparkLot)
abbrev kref3Want : Kd := (.pair (.int .i64) (.pair (.int .i64) (.pair (.int .i64) klaw3Move)))
abbrev klaw3Turn : Kd := (.pair (.int .i64) (.pair .bool (.pair .bool (.pair (.int .i64) .nil))))
abbrev kparkstate : Kd := (.pair kparkLot (.pair (.int .i64) kref3Want))
abbrev kparkOp : Kd := (.pair kparkstate (.pair (.arr 64 kparkLot) (.pair kdequeOp .nil)))
abbrev kref9Op : Kd := (.pair (.int .i64) (.pair (.int .i64) (.pair (.int .i64) (.pair (.int .i64) (.pair kparkLot (.pair .sl klaw3Move))))))
abbrev kcellsArena : Kd := (.pair kparkLot (.pair .sl (.pair .sl (.pair (.int .i64) (.pair .bool .nil)))))
abbrev kapiAccess : Kd := (.pair (.int .i64) (.pair (.int .i64) (.pair (.int .i64) (.pair (.int .i64) (.pair (.int .i64) (.pair .bool .nil))))))
abbrev klaw3Deny : Kd := (.pair .ptr kparkLot)

def law9_ParkNew.j1 (c_park_New : Value → Int → Heap → ((Den kparkLot × (Int × Unit)) → Heap → Prop) → Prop) (c_park_Cells : Int → Heap → (Int → Heap → Prop) → Prop) (c_ref9_Cells : Int → Heap → (Int → Heap → Prop) → Prop) (workers3 : Int) (Q : Bool → Heap → Prop) (s23 : Unit) (h24 : Heap) : Prop :=
    c_park_New Value.nilIface workers3 h24 fun r25 h26 =>
    (((decide (r25.2.1 = 1)) = true →
    (((decide (r25.1.1 = 0)) = true →
    (((decide (r25.1.2.1 = 0)) = true →
    c_park_Cells workers3 h26 fun r27 h28 =>
    c_ref9_Cells workers3 h28 fun r29 h30 =>
    Q (decide (r27 = r29)) h30) ∧
    ((decide (r25.1.2.1 = 0)) = false →
    Q false h26))) ∧
    ((decide (r25.1.1 = 0)) = false →
    Q false h26))) ∧
    ((decide (r25.2.1 = 1)) = false →
    Q false h26))
def law9_ParkNew.j2 (c_park_New : Value → Int → Heap → ((Den kparkLot × (Int × Unit)) → Heap → Prop) → Prop) (c_park_Cells : Int → Heap → (Int → Heap → Prop) → Prop) (c_ref9_Cells : Int → Heap → (Int → Heap → Prop) → Prop) (workers3 : Int) (Q : Bool → Heap → Prop) (s31 : (Bool × Unit)) (h32 : Heap) : Prop :=
    ((s31.1 = true →
    Q false h32) ∧
    (s31.1 = false →
    law9_ParkNew.j1 c_park_New c_park_Cells c_ref9_Cells workers3 Q () h32))
def law9_ParkNew.j3 (c_park_New : Value → Int → Heap → ((Den kparkLot × (Int × Unit)) → Heap → Prop) → Prop) (c_cells_Arena_Cells : Option Addr → Heap → (Sl → Heap → Prop) → Prop) (c_law9_sameInts : Sl → Sl → Heap → (Bool → Heap → Prop) → Prop) (c_cells_Arena_Log : Option Addr → Heap → (Sl → Heap → Prop) → Prop) (c_law9_sameLog : Sl → Sl → Heap → (Bool → Heap → Prop) → Prop) (c_park_Cells : Int → Heap → (Int → Heap → Prop) → Prop) (c_ref9_Cells : Int → Heap → (Int → Heap → Prop) → Prop) (workers3 : Int) (Q : Bool → Heap → Prop) (r9 : (Option Addr × (Bool × Unit))) (p15 : Addr) (s21 : Unit) (h22 : Heap) : Prop :=
    ld (.sl : Kd) h22 (p15.add 0) fun t33 =>
    c_cells_Arena_Cells r9.1 h22 fun r34 h35 =>
    sees h35 (some (p15.add 0)) (.sl : Kd) t33 ∧
    c_law9_sameInts r34 t33 h35 fun r36 h37 =>
    (((!r36) = true →
    law9_ParkNew.j2 c_park_New c_park_Cells c_ref9_Cells workers3 Q (true, ()) h37) ∧
    ((!r36) = false →
    ld (.sl : Kd) h37 (p15.add 3) fun t38 =>
    c_cells_Arena_Log r9.1 h37 fun r39 h40 =>
    sees h40 (some (p15.add 3)) (.sl : Kd) t38 ∧
    c_law9_sameLog r39 t38 h40 fun r41 h42 =>
    law9_ParkNew.j2 c_park_New c_park_Cells c_ref9_Cells workers3 Q ((!r41), ()) h42))
def law9_ParkNew.j4 (c_park_New : Value → Int → Heap → ((Den kparkLot × (Int × Unit)) → Heap → Prop) → Prop) (c_cells_Arena_Cells : Option Addr → Heap → (Sl → Heap → Prop) → Prop) (c_law9_sameInts : Sl → Sl → Heap → (Bool → Heap → Prop) → Prop) (c_cells_Arena_Log : Option Addr → Heap → (Sl → Heap → Prop) → Prop) (c_law9_sameLog : Sl → Sl → Heap → (Bool → Heap → Prop) → Prop) (c_park_Cells : Int → Heap → (Int → Heap → Prop) → Prop) (c_ref9_Cells : Int → Heap → (Int → Heap → Prop) → Prop) (workers3 : Int) (Q : Bool → Heap → Prop) (r9 : (Option Addr × (Bool × Unit))) (p15 : Addr) (s43 : (Bool × Unit)) (h44 : Heap) : Prop :=
    ((s43.1 = true →
    Q false h44) ∧
    (s43.1 = false →
    law9_ParkNew.j3 c_park_New c_cells_Arena_Cells c_law9_sameInts c_cells_Arena_Log c_law9_sameLog c_park_Cells c_ref9_Cells workers3 Q r9 p15 () h44))
def law9_ParkNew.j5 (c_law9_arena : Int → Sl → Heap → ((Option Addr × (Bool × Unit)) → Heap → Prop) → Prop) (c_park_New : Value → Int → Heap → ((Den kparkLot × (Int × Unit)) → Heap → Prop) → Prop) (c_ref9_New : Option Addr → Int → Heap → ((Den kparkLot × (Int × Unit)) → Heap → Prop) → Prop) (c_cells_Arena_Cells : Option Addr → Heap → (Sl → Heap → Prop) → Prop) (c_law9_sameInts : Sl → Sl → Heap → (Bool → Heap → Prop) → Prop) (c_cells_Arena_Log : Option Addr → Heap → (Sl → Heap → Prop) → Prop) (c_law9_sameLog : Sl → Sl → Heap → (Bool → Heap → Prop) → Prop) (c_park_Cells : Int → Heap → (Int → Heap → Prop) → Prop) (c_ref9_Cells : Int → Heap → (Int → Heap → Prop) → Prop) (workers3 : Int) (Q : Bool → Heap → Prop) (r5 : Int) (s7 : (Sl × Unit)) (h8 : Heap) : Prop :=
    c_law9_arena r5 s7.1 h8 fun r9 h10 =>
    (((!r9.2.1) = true →
    Q false h10) ∧
    ((!r9.2.1) = false →
    new h10 (([] : List (Den ((.int .i64) : Kd))).flatMap (Kd.cells ((.int .i64) : Kd))) fun p11 h12 =>
    appendM 1 8 h12 ⟨some p11, 0, 0⟩ s7.1 fun t13 h14 =>
    new h14 (kref3Mem.cells (t13, (r5, (0, (Sl.none, ()))))) fun p15 h16 =>
    c_park_New (Value.iface 24 (Kd.val (.ptr : Kd) r9.1)) workers3 h16 fun r17 h18 =>
    c_ref9_New (some p15) workers3 h18 fun r19 h20 =>
    (((decide (r17.2.1 ≠ r19.2.1)) = true →
    law9_ParkNew.j4 c_park_New c_cells_Arena_Cells c_law9_sameInts c_cells_Arena_Log c_law9_sameLog c_park_Cells c_ref9_Cells workers3 Q r9 p15 (true, ()) h20) ∧
    ((decide (r17.2.1 ≠ r19.2.1)) = false →
    (((decide (r17.1.1 ≠ r19.1.1)) = true →
    law9_ParkNew.j4 c_park_New c_cells_Arena_Cells c_law9_sameInts c_cells_Arena_Log c_law9_sameLog c_park_Cells c_ref9_Cells workers3 Q r9 p15 (true, ()) h20) ∧
    ((decide (r17.1.1 ≠ r19.1.1)) = false →
    law9_ParkNew.j4 c_park_New c_cells_Arena_Cells c_law9_sameInts c_cells_Arena_Log c_law9_sameLog c_park_Cells c_ref9_Cells workers3 Q r9 p15 ((decide (r17.1.2.1 ≠ r19.1.2.1)), ()) h20))))))
def law9_ParkNew.M (c_law9_mod : Int → Int → Heap → (Int → Heap → Prop) → Prop) (c_law9_arena : Int → Sl → Heap → ((Option Addr × (Bool × Unit)) → Heap → Prop) → Prop) (c_park_New : Value → Int → Heap → ((Den kparkLot × (Int × Unit)) → Heap → Prop) → Prop) (c_ref9_New : Option Addr → Int → Heap → ((Den kparkLot × (Int × Unit)) → Heap → Prop) → Prop) (c_cells_Arena_Cells : Option Addr → Heap → (Sl → Heap → Prop) → Prop) (c_law9_sameInts : Sl → Sl → Heap → (Bool → Heap → Prop) → Prop) (c_cells_Arena_Log : Option Addr → Heap → (Sl → Heap → Prop) → Prop) (c_law9_sameLog : Sl → Sl → Heap → (Bool → Heap → Prop) → Prop) (c_park_Cells : Int → Heap → (Int → Heap → Prop) → Prop) (c_ref9_Cells : Int → Heap → (Int → Heap → Prop) → Prop) (size1 : Int) (begin2 : Sl) (workers3 : Int) (h4 : Heap) (Q : Bool → Heap → Prop) : Prop :=
    c_law9_mod size1 4097 h4 fun r5 h6 =>
    (((decide (r5 < (begin2.len : Int))) = true →
    (0 ≤ r5 ∧ r5 ≤ (begin2.cap : Int)) ∧
    law9_ParkNew.j5 c_law9_arena c_park_New c_ref9_New c_cells_Arena_Cells c_law9_sameInts c_cells_Arena_Log c_law9_sameLog c_park_Cells c_ref9_Cells workers3 Q r5 ((begin2.cut 0 ((r5 : Int).toNat) 1), ()) h6) ∧
    ((decide (r5 < (begin2.len : Int))) = false →
    law9_ParkNew.j5 c_law9_arena c_park_New c_ref9_New c_cells_Arena_Cells c_law9_sameInts c_cells_Arena_Log c_law9_sameLog c_park_Cells c_ref9_Cells workers3 Q r5 (begin2, ()) h6))
def law9_ParkNew.mk : Mk := (.s .d (.s .d (.j [.slot 1 .sl] (.s .d (.c .d .d)) (.s .d (.s (.s .d (.c (.s .d .d) .d)) (.s .d (.s (.r [7]) (.s (.r [6]) (.j [] (.j [.slot 68 .bool] .d (.c (.s .d .d) .d)) (.j [] (.j [.slot 86 .bool] (.q [] [] [.p 0, .p 2, .p 3, .p 4, .w 5 [5, 6, 7, 8, 9, 10, 11, 12, 13, 14, 15, 16, 17], .o 1, .o 6, .p 7, .p 8, .p 9, .p 11, .p 12, .p 13, .w 14 [14, 15, 16, 17], .o 10, .o 15, .p 16, .p 17]) (.c (.s .d .d) .d)) (.s (.r [5]) (.s .d .d))))))))))))

def law3_DequeNew.j1 (c_deque_Cells : Int → Int → Heap → (Int → Heap → Prop) → Prop) (c_ref3_Cells : Int → Int → Heap → (Int → Heap → Prop) → Prop) (first3 : Int) (most4 : Int) (Q : Bool → Heap → Prop) (s28 : Unit) (h29 : Heap) : Prop :=
    c_deque_Cells first3 most4 h29 fun r30 h31 =>
    c_ref3_Cells first3 most4 h31 fun r32 h33 =>
    Q (decide (r30 = r32)) h33
def law3_DequeNew.j2 (c_deque_Cells : Int → Int → Heap → (Int → Heap → Prop) → Prop) (c_ref3_Cells : Int → Int → Heap → (Int → Heap → Prop) → Prop) (first3 : Int) (most4 : Int) (Q : Bool → Heap → Prop) (s34 : (Bool × Unit)) (h35 : Heap) : Prop :=
    ((s34.1 = true →
    Q false h35) ∧
    (s34.1 = false →
    law3_DequeNew.j1 c_deque_Cells c_ref3_Cells first3 most4 Q () h35))
def law3_DequeNew.j3 (c_deque_New : Value → Int → Int → Heap → ((Den kparkLot × (Int × Unit)) → Heap → Prop) → Prop) (c_law3_stops : Int → Heap → (Bool → Heap → Prop) → Prop) (c_deque_Cells : Int → Int → Heap → (Int → Heap → Prop) → Prop) (c_ref3_Cells : Int → Int → Heap → (Int → Heap → Prop) → Prop) (first3 : Int) (most4 : Int) (Q : Bool → Heap → Prop) (s24 : Unit) (h25 : Heap) : Prop :=
    c_deque_New Value.nilIface first3 most4 h25 fun r26 h27 =>
    (((decide (r26.2.1 ≠ 1)) = true →
    law3_DequeNew.j2 c_deque_Cells c_ref3_Cells first3 most4 Q (true, ()) h27) ∧
    ((decide (r26.2.1 ≠ 1)) = false →
    (((decide (r26.1.1 ≠ 0)) = true →
    law3_DequeNew.j2 c_deque_Cells c_ref3_Cells first3 most4 Q (true, ()) h27) ∧
    ((decide (r26.1.1 ≠ 0)) = false →
    (((decide (r26.1.2.1 ≠ 0)) = true →
    law3_DequeNew.j2 c_deque_Cells c_ref3_Cells first3 most4 Q (true, ()) h27) ∧
    ((decide (r26.1.2.1 ≠ 0)) = false →
    c_law3_stops first3 h27 fun r36 h37 =>
    law3_DequeNew.j2 c_deque_Cells c_ref3_Cells first3 most4 Q ((!r36), ()) h37))))))
def law3_DequeNew.j4 (c_deque_New : Value → Int → Int → Heap → ((Den kparkLot × (Int × Unit)) → Heap → Prop) → Prop) (c_law3_stops : Int → Heap → (Bool → Heap → Prop) → Prop) (c_deque_Cells : Int → Int → Heap → (Int → Heap → Prop) → Prop) (c_ref3_Cells : Int → Int → Heap → (Int → Heap → Prop) → Prop) (first3 : Int) (most4 : Int) (Q : Bool → Heap → Prop) (s38 : (Bool × Unit)) (h39 : Heap) : Prop :=
    ((s38.1 = true →
    Q false h39) ∧
    (s38.1 = false →
    law3_DequeNew.j3 c_deque_New c_law3_stops c_deque_Cells c_ref3_Cells first3 most4 Q () h39))
def law3_DequeNew.j5 (c_deque_New : Value → Int → Int → Heap → ((Den kparkLot × (Int × Unit)) → Heap → Prop) → Prop) (c_cells_Arena_Cells : Option Addr → Heap → (Sl → Heap → Prop) → Prop) (c_law3_sameInts : Sl → Sl → Heap → (Bool → Heap → Prop) → Prop) (c_cells_Arena_Log : Option Addr → Heap → (Sl → Heap → Prop) → Prop) (c_law3_sameLog : Sl → Sl → Heap → (Bool → Heap → Prop) → Prop) (c_law3_stops : Int → Heap → (Bool → Heap → Prop) → Prop) (c_deque_Cells : Int → Int → Heap → (Int → Heap → Prop) → Prop) (c_ref3_Cells : Int → Int → Heap → (Int → Heap → Prop) → Prop) (first3 : Int) (most4 : Int) (Q : Bool → Heap → Prop) (r10 : (Option Addr × (Bool × Unit))) (p16 : Addr) (s22 : Unit) (h23 : Heap) : Prop :=
    ld (.sl : Kd) h23 (p16.add 0) fun t40 =>
    c_cells_Arena_Cells r10.1 h23 fun r41 h42 =>
    sees h42 (some (p16.add 0)) (.sl : Kd) t40 ∧
    c_law3_sameInts r41 t40 h42 fun r43 h44 =>
    (((!r43) = true →
    law3_DequeNew.j4 c_deque_New c_law3_stops c_deque_Cells c_ref3_Cells first3 most4 Q (true, ()) h44) ∧
    ((!r43) = false →
    ld (.sl : Kd) h44 (p16.add 3) fun t45 =>
    c_cells_Arena_Log r10.1 h44 fun r46 h47 =>
    sees h47 (some (p16.add 3)) (.sl : Kd) t45 ∧
    c_law3_sameLog r46 t45 h47 fun r48 h49 =>
    law3_DequeNew.j4 c_deque_New c_law3_stops c_deque_Cells c_ref3_Cells first3 most4 Q ((!r48), ()) h49))
def law3_DequeNew.j6 (c_deque_New : Value → Int → Int → Heap → ((Den kparkLot × (Int × Unit)) → Heap → Prop) → Prop) (c_cells_Arena_Cells : Option Addr → Heap → (Sl → Heap → Prop) → Prop) (c_law3_sameInts : Sl → Sl → Heap → (Bool → Heap → Prop) → Prop) (c_cells_Arena_Log : Option Addr → Heap → (Sl → Heap → Prop) → Prop) (c_law3_sameLog : Sl → Sl → Heap → (Bool → Heap → Prop) → Prop) (c_law3_stops : Int → Heap → (Bool → Heap → Prop) → Prop) (c_deque_Cells : Int → Int → Heap → (Int → Heap → Prop) → Prop) (c_ref3_Cells : Int → Int → Heap → (Int → Heap → Prop) → Prop) (first3 : Int) (most4 : Int) (Q : Bool → Heap → Prop) (r10 : (Option Addr × (Bool × Unit))) (p16 : Addr) (s50 : (Bool × Unit)) (h51 : Heap) : Prop :=
    ((s50.1 = true →
    Q false h51) ∧
    (s50.1 = false →
    law3_DequeNew.j5 c_deque_New c_cells_Arena_Cells c_law3_sameInts c_cells_Arena_Log c_law3_sameLog c_law3_stops c_deque_Cells c_ref3_Cells first3 most4 Q r10 p16 () h51))
def law3_DequeNew.j7 (c_law3_arena : Int → Sl → Heap → ((Option Addr × (Bool × Unit)) → Heap → Prop) → Prop) (c_deque_New : Value → Int → Int → Heap → ((Den kparkLot × (Int × Unit)) → Heap → Prop) → Prop) (c_ref3_New : Option Addr → Int → Int → Heap → ((Den kparkLot × (Int × Unit)) → Heap → Prop) → Prop) (c_cells_Arena_Cells : Option Addr → Heap → (Sl → Heap → Prop) → Prop) (c_law3_sameInts : Sl → Sl → Heap → (Bool → Heap → Prop) → Prop) (c_cells_Arena_Log : Option Addr → Heap → (Sl → Heap → Prop) → Prop) (c_law3_sameLog : Sl → Sl → Heap → (Bool → Heap → Prop) → Prop) (c_law3_stops : Int → Heap → (Bool → Heap → Prop) → Prop) (c_deque_Cells : Int → Int → Heap → (Int → Heap → Prop) → Prop) (c_ref3_Cells : Int → Int → Heap → (Int → Heap → Prop) → Prop) (first3 : Int) (most4 : Int) (Q : Bool → Heap → Prop) (r6 : Int) (s8 : (Sl × Unit)) (h9 : Heap) : Prop :=
    c_law3_arena r6 s8.1 h9 fun r10 h11 =>
    (((!r10.2.1) = true →
    Q false h11) ∧
    ((!r10.2.1) = false →
    new h11 (([] : List (Den ((.int .i64) : Kd))).flatMap (Kd.cells ((.int .i64) : Kd))) fun p12 h13 =>
    appendM 1 8 h13 ⟨some p12, 0, 0⟩ s8.1 fun t14 h15 =>
    new h15 (kref3Mem.cells (t14, (r6, (0, (Sl.none, ()))))) fun p16 h17 =>
    c_deque_New (Value.iface 24 (Kd.val (.ptr : Kd) r10.1)) first3 most4 h17 fun r18 h19 =>
    c_ref3_New (some p16) first3 most4 h19 fun r20 h21 =>
    (((decide (r18.2.1 ≠ r20.2.1)) = true →
    law3_DequeNew.j6 c_deque_New c_cells_Arena_Cells c_law3_sameInts c_cells_Arena_Log c_law3_sameLog c_law3_stops c_deque_Cells c_ref3_Cells first3 most4 Q r10 p16 (true, ()) h21) ∧
    ((decide (r18.2.1 ≠ r20.2.1)) = false →
    (((decide (r18.1.1 ≠ r20.1.1)) = true →
    law3_DequeNew.j6 c_deque_New c_cells_Arena_Cells c_law3_sameInts c_cells_Arena_Log c_law3_sameLog c_law3_stops c_deque_Cells c_ref3_Cells first3 most4 Q r10 p16 (true, ()) h21) ∧
    ((decide (r18.1.1 ≠ r20.1.1)) = false →
    law3_DequeNew.j6 c_deque_New c_cells_Arena_Cells c_law3_sameInts c_cells_Arena_Log c_law3_sameLog c_law3_stops c_deque_Cells c_ref3_Cells first3 most4 Q r10 p16 ((decide (r18.1.2.1 ≠ r20.1.2.1)), ()) h21))))))
def law3_DequeNew.M (c_law3_mod : Int → Int → Heap → (Int → Heap → Prop) → Prop) (c_law3_arena : Int → Sl → Heap → ((Option Addr × (Bool × Unit)) → Heap → Prop) → Prop) (c_deque_New : Value → Int → Int → Heap → ((Den kparkLot × (Int × Unit)) → Heap → Prop) → Prop) (c_ref3_New : Option Addr → Int → Int → Heap → ((Den kparkLot × (Int × Unit)) → Heap → Prop) → Prop) (c_cells_Arena_Cells : Option Addr → Heap → (Sl → Heap → Prop) → Prop) (c_law3_sameInts : Sl → Sl → Heap → (Bool → Heap → Prop) → Prop) (c_cells_Arena_Log : Option Addr → Heap → (Sl → Heap → Prop) → Prop) (c_law3_sameLog : Sl → Sl → Heap → (Bool → Heap → Prop) → Prop) (c_law3_stops : Int → Heap → (Bool → Heap → Prop) → Prop) (c_deque_Cells : Int → Int → Heap → (Int → Heap → Prop) → Prop) (c_ref3_Cells : Int → Int → Heap → (Int → Heap → Prop) → Prop) (size1 : Int) (begin2 : Sl) (first3 : Int) (most4 : Int) (h5 : Heap) (Q : Bool → Heap → Prop) : Prop :=
    c_law3_mod size1 4097 h5 fun r6 h7 =>
    (((decide (r6 < (begin2.len : Int))) = true →
    (0 ≤ r6 ∧ r6 ≤ (begin2.cap : Int)) ∧
    law3_DequeNew.j7 c_law3_arena c_deque_New c_ref3_New c_cells_Arena_Cells c_law3_sameInts c_cells_Arena_Log c_law3_sameLog c_law3_stops c_deque_Cells c_ref3_Cells first3 most4 Q r6 ((begin2.cut 0 ((r6 : Int).toNat) 1), ()) h7) ∧
    ((decide (r6 < (begin2.len : Int))) = false →
    law3_DequeNew.j7 c_law3_arena c_deque_New c_ref3_New c_cells_Arena_Cells c_law3_sameInts c_cells_Arena_Log c_law3_sameLog c_law3_stops c_deque_Cells c_ref3_Cells first3 most4 Q r6 (begin2, ()) h7))
def law3_DequeNew.mk : Mk := (.s .d (.s .d (.j [.slot 1 .sl] (.s .d (.c .d .d)) (.s .d (.s (.s .d (.c (.s .d .d) .d)) (.s .d (.s (.r [8]) (.s (.r [7]) (.j [] (.j [.slot 72 .bool] .d (.c (.s .d .d) .d)) (.j [] (.j [.slot 90 .bool] (.q [] [] [.p 0, .p 2, .p 3, .p 4, .w 5 [5, 6, 7, 8, 9, 10, 11, 12, 13, 14, 15, 16, 17], .o 1, .o 6, .p 7, .p 8, .p 9, .p 11, .p 12, .p 13, .w 14 [14, 15, 16, 17], .o 10, .o 15, .p 16, .p 17]) (.c (.s .d .d) .d)) (.s (.r [6]) (.j [] (.j [.slot 113 .bool] .d (.c (.s .d .d) .d)) (.s .d .d)))))))))))))

def law9_mod.j1 (Q : Int → Heap → Prop) (s4 : (Int × Unit)) (h5 : Heap) : Prop :=
    Q s4.1 h5
def law9_mod.M  (x1 : Int) (n2 : Int) (h3 : Heap) (Q : Int → Heap → Prop) : Prop :=
    n2 ≠ 0 ∧
    (((decide ((Int.tmod x1 n2) < 0)) = true →
    law9_mod.j1 Q ((w64 ((Int.tmod x1 n2) + n2)), ()) h3) ∧
    ((decide ((Int.tmod x1 n2) < 0)) = false →
    law9_mod.j1 Q ((Int.tmod x1 n2), ()) h3))
def law9_mod.mk : Mk := (.s .d (.s .d (.j [.slot 5 (.int .i64)] (.s .d (.c .d .d)) (.s .d .d))))

def law9_arena.l1 (c_cells_Arena_Store : Option Addr → Int → Int → Heap → (Int → Heap → Prop) → Prop) (c_cells_Arena_Watch : Option Addr → Bool → Heap → (Unit → Heap → Prop) → Prop) (begin2 : Sl) (Q : (Option Addr × (Bool × Unit)) → Heap → Prop) (r4 : (Option Addr × (Int × Unit))) (go12 : (Int × Unit) → Heap → Prop) (s10 : (Int × Unit)) (h11 : Heap) : Prop :=
    (((decide (s10.1 < (begin2.len : Int))) = true →
    (0 ≤ s10.1 ∧ s10.1 < (begin2.len : Int)) ∧
    deref begin2.a fun a13 =>
    ld ((.int .i64) : Kd) h11 (a13.add ((s10.1 : Int).toNat * 1)) fun t14 =>
    c_cells_Arena_Store r4.1 s10.1 t14 h11 fun r15 h16 =>
    (((decide (r15 ≠ 0)) = true →
    Q (none, false, ()) h16) ∧
    ((decide (r15 ≠ 0)) = false →
    go12 ((w64 (s10.1 + 1)), ()) h16))) ∧
    ((decide (s10.1 < (begin2.len : Int))) = false →
    c_cells_Arena_Watch r4.1 true h11 fun r17 h18 =>
    Q (r4.1, true, ()) h18))
def law9_arena.j2 (c_cells_Arena_Store : Option Addr → Int → Int → Heap → (Int → Heap → Prop) → Prop) (c_cells_Arena_Watch : Option Addr → Bool → Heap → (Unit → Heap → Prop) → Prop) (begin2 : Sl) (Q : (Option Addr × (Bool × Unit)) → Heap → Prop) (r4 : (Option Addr × (Int × Unit))) (s8 : Unit) (h9 : Heap) : Prop :=
    Loop (law9_arena.l1 c_cells_Arena_Store c_cells_Arena_Watch begin2 Q r4) (0, ()) h9
def law9_arena.j3 (c_cells_Arena_Store : Option Addr → Int → Int → Heap → (Int → Heap → Prop) → Prop) (c_cells_Arena_Watch : Option Addr → Bool → Heap → (Unit → Heap → Prop) → Prop) (begin2 : Sl) (Q : (Option Addr × (Bool × Unit)) → Heap → Prop) (r4 : (Option Addr × (Int × Unit))) (s21 : (Bool × Unit)) (h22 : Heap) : Prop :=
    ((s21.1 = true →
    Q (none, false, ()) h22) ∧
    (s21.1 = false →
    law9_arena.j2 c_cells_Arena_Store c_cells_Arena_Watch begin2 Q r4 () h22))
def law9_arena.j4 (c_cells_Arena_Reserve : Option Addr → Int → Heap → (Den kparkLot → Heap → Prop) → Prop) (c_cells_Arena_Store : Option Addr → Int → Int → Heap → (Int → Heap → Prop) → Prop) (c_cells_Arena_Watch : Option Addr → Bool → Heap → (Unit → Heap → Prop) → Prop) (begin2 : Sl) (Q : (Option Addr × (Bool × Unit)) → Heap → Prop) (r4 : (Option Addr × (Int × Unit))) (s6 : Unit) (h7 : Heap) : Prop :=
    (((decide ((0 : Int) < (begin2.len : Int))) = true →
    c_cells_Arena_Reserve r4.1 (begin2.len : Int) h7 fun r19 h20 =>
    (((decide (r19.2.1 ≠ 0)) = true →
    law9_arena.j3 c_cells_Arena_Store c_cells_Arena_Watch begin2 Q r4 (true, ()) h20) ∧
    ((decide (r19.2.1 ≠ 0)) = false →
    law9_arena.j3 c_cells_Arena_Store c_cells_Arena_Watch begin2 Q r4 ((decide (r19.1 ≠ 0)), ()) h20))) ∧
    ((decide ((0 : Int) < (begin2.len : Int))) = false →
    law9_arena.j2 c_cells_Arena_Store c_cells_Arena_Watch begin2 Q r4 () h7))
def law9_arena.j5 (c_cells_Arena_Reserve : Option Addr → Int → Heap → (Den kparkLot → Heap → Prop) → Prop) (c_cells_Arena_Store : Option Addr → Int → Int → Heap → (Int → Heap → Prop) → Prop) (c_cells_Arena_Watch : Option Addr → Bool → Heap → (Unit → Heap → Prop) → Prop) (begin2 : Sl) (Q : (Option Addr × (Bool × Unit)) → Heap → Prop) (r4 : (Option Addr × (Int × Unit))) (s23 : (Bool × Unit)) (h24 : Heap) : Prop :=
    ((s23.1 = true →
    Q (none, false, ()) h24) ∧
    (s23.1 = false →
    law9_arena.j4 c_cells_Arena_Reserve c_cells_Arena_Store c_cells_Arena_Watch begin2 Q r4 () h24))
def law9_arena.M (c_cells_New : Int → Heap → ((Option Addr × (Int × Unit)) → Heap → Prop) → Prop) (c_cells_Arena_Reserve : Option Addr → Int → Heap → (Den kparkLot → Heap → Prop) → Prop) (c_cells_Arena_Store : Option Addr → Int → Int → Heap → (Int → Heap → Prop) → Prop) (c_cells_Arena_Watch : Option Addr → Bool → Heap → (Unit → Heap → Prop) → Prop) (size1 : Int) (begin2 : Sl) (h3 : Heap) (Q : (Option Addr × (Bool × Unit)) → Heap → Prop) : Prop :=
    c_cells_New size1 h3 fun r4 h5 =>
    (((decide (r4.2.1 ≠ 0)) = true →
    law9_arena.j5 c_cells_Arena_Reserve c_cells_Arena_Store c_cells_Arena_Watch begin2 Q r4 (true, ()) h5) ∧
    ((decide (r4.2.1 ≠ 0)) = false →
    law9_arena.j5 c_cells_Arena_Reserve c_cells_Arena_Store c_cells_Arena_Watch begin2 Q r4 ((Option.isNone r4.1), ()) h5))
def law9_arena.mk : Mk := (.s .d (.s .d (.j [] (.j [.slot 22 .bool] .d (.c (.s .d .d) .d)) (.j [] (.s .d (.c (.s .d (.j [.slot 38 .bool] .d (.c (.s .d .d) .d))) .d)) (.s (.s .d (.b (.l [.slot 10 (.int .i64)] (.s (.s .d (.c .d .d)) (.s (.b (.s .d (.s .d (.c (.s .d .d) .d)))) .d))))) (.s .d (.s .d .d)))))))

def park_New.M (c_park_Cells : Int → Heap → (Int → Heap → Prop) → Prop) (c_inv_Reserve : Value → Int → Heap → (Den kparkLot → Heap → Prop) → Prop) (c_nil : Value → Prop) (m1 : Value) (workers2 : Int) (h3 : Heap) (Q : (Den kparkLot × (Int × Unit)) → Heap → Prop) : Prop :=
    isI m1 ∧
    (((isNilI m1) = true →
    Q ((0, (0, ())), 1, ()) h3) ∧
    ((isNilI m1) = false →
    c_park_Cells workers2 h3 fun r4 h5 =>
    (((decide (r4 = 0)) = true →
    Q ((0, (0, ())), 3, ()) h5) ∧
    ((decide (r4 = 0)) = false →
    c_nil (Value.func (.method "Reserve") (List.toArray [Kd.val (.iface : Kd) m1]) (List.toArray [])) ∧
    c_park_Cells workers2 h5 fun r6 h7 =>
    c_inv_Reserve m1 r6 h7 fun r8 h9 =>
    (((decide (r8.2.1 ≠ 0)) = true →
    Q ((0, (0, ())), r8.2.1, ()) h9) ∧
    ((decide (r8.2.1 ≠ 0)) = false →
    Q ((r8.1, (workers2, ())), 0, ()) h9))))))
def park_New.mk : Mk := (.s (.r [0]) (.s (.s .d (.c (.s .d .d) .d)) (.s (.s .d (.c (.s .d .d) .d)) (.s (.q [] [] [.p 0, .p 1, .p 3, .p 4, .p 5, .o 2, .o 6, .p 7, .p 8, .p 9, .p 10, .p 11]) (.s (.s .d (.c (.s .d .d) .d)) (.s .d .d))))))

def ref9_New.j1 (c_ref3_Mem_Do : Option Addr → Den kref3Want → Heap → ((Int × (Bool × Unit)) → Heap → Prop) → Prop) (m1 : Option Addr) (workers2 : Int) (Q : (Den kparkLot × (Int × Unit)) → Heap → Prop) (s4 : (Den kparkLot × Unit)) (h5 : Heap) : Prop :=
    c_ref3_Mem_Do m1 (4, (0, ((w64 (2 + workers2)), (0, (0, (0, ())))))) h5 fun r6 h7 =>
    (((!r6.2.1) = true →
    Q ((0, (0, ())), 22, ()) h7) ∧
    ((!r6.2.1) = false →
    Q ((r6.1, (workers2, ())), 0, ()) h7))
def ref9_New.j2 (c_ref3_Mem_Do : Option Addr → Den kref3Want → Heap → ((Int × (Bool × Unit)) → Heap → Prop) → Prop) (m1 : Option Addr) (workers2 : Int) (Q : (Den kparkLot × (Int × Unit)) → Heap → Prop) (s8 : (Bool × Unit)) (h9 : Heap) : Prop :=
    ((s8.1 = true →
    Q ((0, (0, ())), 3, ()) h9) ∧
    (s8.1 = false →
    ref9_New.j1 c_ref3_Mem_Do m1 workers2 Q ((0, (0, ())), ()) h9))
def ref9_New.M (c_ref3_Mem_Do : Option Addr → Den kref3Want → Heap → ((Int × (Bool × Unit)) → Heap → Prop) → Prop) (m1 : Option Addr) (workers2 : Int) (h3 : Heap) (Q : (Den kparkLot × (Int × Unit)) → Heap → Prop) : Prop :=
    (((decide (workers2 < 1)) = true →
    ref9_New.j2 c_ref3_Mem_Do m1 workers2 Q (true, ()) h3) ∧
    ((decide (workers2 < 1)) = false →
    ref9_New.j2 c_ref3_Mem_Do m1 workers2 Q ((decide ((64 : Int) < workers2)), ()) h3))
def ref9_New.mk : Mk := (.s (.r [0]) (.j [.box 4 kparkLot] (.j [.slot 13 .bool] .d (.c (.s .d .d) .d)) (.s .d (.s (.s .d (.c (.s .d .d) .d)) (.s .d .d)))))

def law9_sameInts.l1 (a1 : Sl) (b2 : Sl) (Q : Bool → Heap → Prop) (go6 : (Int × Unit) → Heap → Prop) (s4 : (Int × Unit)) (h5 : Heap) : Prop :=
    (((decide (s4.1 < (a1.len : Int))) = true →
    (0 ≤ s4.1 ∧ s4.1 < (a1.len : Int)) ∧
    deref a1.a fun a7 =>
    (0 ≤ s4.1 ∧ s4.1 < (b2.len : Int)) ∧
    deref b2.a fun a8 =>
    ld ((.int .i64) : Kd) h5 (a7.add ((s4.1 : Int).toNat * 1)) fun t9 =>
    ld ((.int .i64) : Kd) h5 (a8.add ((s4.1 : Int).toNat * 1)) fun t10 =>
    (((decide (t9 ≠ t10)) = true →
    Q false h5) ∧
    ((decide (t9 ≠ t10)) = false →
    go6 ((w64 (s4.1 + 1)), ()) h5))) ∧
    ((decide (s4.1 < (a1.len : Int))) = false →
    Q true h5))
def law9_sameInts.M  (a1 : Sl) (b2 : Sl) (h3 : Heap) (Q : Bool → Heap → Prop) : Prop :=
    (((decide ((a1.len : Int) ≠ (b2.len : Int))) = true →
    Q false h3) ∧
    ((decide ((a1.len : Int) ≠ (b2.len : Int))) = false →
    Loop (law9_sameInts.l1 a1 b2 Q) (0, ()) h3))
def law9_sameInts.mk : Mk := (.s .d (.s (.s .d (.c (.s .d .d) .d)) (.s (.s .d (.b (.l [.slot 5 (.int .i64)] (.s (.s .d (.c .d .d)) (.s (.b (.s (.q [] [] [.p 0, .p 1, .p 2, .p 4, .p 5, .p 6, .w 3 [3, 8], .w 7 [7, 8], .p 8]) (.c (.s .d .d) .d))) .d))))) (.s .d .d))))

def cells_Arena_Cells.M  (a1 : Option Addr) (h2 : Heap) (Q : Sl → Heap → Prop) : Prop :=
    (((Option.isNone a1) = true →
    Q ⟨none, 0, 0⟩ h2) ∧
    ((Option.isNone a1) = false →
    deref a1 fun a3 =>
    ld (.sl : Kd) h2 (a3.add 2) fun t4 =>
    makeM ((.int .i64) : Kd) 8 h2 (t4.len : Int) (t4.len : Int) fun s5 h6 =>
    deref a1 fun a7 =>
    ld (.sl : Kd) h6 (a7.add 2) fun t8 =>
    copyM 1 h6 s5 t8 fun n9 h10 =>
    Q s5 h10))
def cells_Arena_Cells.mk : Mk := (.s .d (.s (.s .d (.c (.s .d .d) .d)) (.s .d (.s .d (.s .d .d)))))

def law9_sameLog.l1 (a1 : Sl) (b2 : Sl) (Q : Bool → Heap → Prop) (go6 : (Int × Unit) → Heap → Prop) (s4 : (Int × Unit)) (h5 : Heap) : Prop :=
    (((decide (s4.1 < (a1.len : Int))) = true →
    (0 ≤ s4.1 ∧ s4.1 < (a1.len : Int)) ∧
    deref a1.a fun a7 =>
    (0 ≤ s4.1 ∧ s4.1 < (b2.len : Int)) ∧
    deref b2.a fun a8 =>
    ld kapiAccess h5 (a7.add ((s4.1 : Int).toNat * 6)) fun t9 =>
    ld kapiAccess h5 (a8.add ((s4.1 : Int).toNat * 6)) fun t10 =>
    (((!(eqK kapiAccess t9 t10)) = true →
    Q false h5) ∧
    ((!(eqK kapiAccess t9 t10)) = false →
    go6 ((w64 (s4.1 + 1)), ()) h5))) ∧
    ((decide (s4.1 < (a1.len : Int))) = false →
    Q true h5))
def law9_sameLog.M  (a1 : Sl) (b2 : Sl) (h3 : Heap) (Q : Bool → Heap → Prop) : Prop :=
    (((decide ((a1.len : Int) ≠ (b2.len : Int))) = true →
    Q false h3) ∧
    ((decide ((a1.len : Int) ≠ (b2.len : Int))) = false →
    Loop (law9_sameLog.l1 a1 b2 Q) (0, ()) h3))
def law9_sameLog.mk : Mk := (.s .d (.s (.s .d (.c (.s .d .d) .d)) (.s (.s .d (.b (.l [.slot 5 (.int .i64)] (.s (.s .d (.c .d .d)) (.s (.b (.s (.q [] [] [.p 0, .p 1, .p 2, .p 4, .p 5, .p 6, .w 3 [3, 8], .w 7 [7, 8], .p 8]) (.c (.s .d .d) .d))) .d))))) (.s .d .d))))

def cells_Arena_Log.M  (a1 : Option Addr) (h2 : Heap) (Q : Sl → Heap → Prop) : Prop :=
    (((Option.isNone a1) = true →
    Q ⟨none, 0, 0⟩ h2) ∧
    ((Option.isNone a1) = false →
    deref a1 fun a3 =>
    ld (.sl : Kd) h2 (a3.add 3) fun t4 =>
    makeM kapiAccess 48 h2 (t4.len : Int) (t4.len : Int) fun s5 h6 =>
    deref a1 fun a7 =>
    ld (.sl : Kd) h6 (a7.add 3) fun t8 =>
    copyM 6 h6 s5 t8 fun n9 h10 =>
    Q s5 h10))
def cells_Arena_Log.mk : Mk := (.s .d (.s (.s .d (.c (.s .d .d) .d)) (.s .d (.s .d (.s .d .d)))))

def park_Cells.j1 (workers1 : Int) (Q : Int → Heap → Prop) (s3 : Unit) (h4 : Heap) : Prop :=
    Q (w64 (2 + workers1)) h4
def park_Cells.j2 (workers1 : Int) (Q : Int → Heap → Prop) (s5 : (Bool × Unit)) (h6 : Heap) : Prop :=
    ((s5.1 = true →
    Q 0 h6) ∧
    (s5.1 = false →
    park_Cells.j1 workers1 Q () h6))
def park_Cells.M  (workers1 : Int) (h2 : Heap) (Q : Int → Heap → Prop) : Prop :=
    (((decide (workers1 < 1)) = true →
    park_Cells.j2 workers1 Q (true, ()) h2) ∧
    ((decide (workers1 < 1)) = false →
    park_Cells.j2 workers1 Q ((decide ((64 : Int) < workers1)), ()) h2))
def park_Cells.mk : Mk := (.s .d (.j [] (.j [.slot 8 .bool] .d (.c (.s .d .d) .d)) (.s .d .d)))

def ref9_Cells.j1 (workers1 : Int) (Q : Int → Heap → Prop) (s3 : Unit) (h4 : Heap) : Prop :=
    Q (w64 (2 + workers1)) h4
def ref9_Cells.j2 (workers1 : Int) (Q : Int → Heap → Prop) (s5 : (Bool × Unit)) (h6 : Heap) : Prop :=
    ((s5.1 = true →
    Q 0 h6) ∧
    (s5.1 = false →
    ref9_Cells.j1 workers1 Q () h6))
def ref9_Cells.M  (workers1 : Int) (h2 : Heap) (Q : Int → Heap → Prop) : Prop :=
    (((decide (workers1 < 1)) = true →
    ref9_Cells.j2 workers1 Q (true, ()) h2) ∧
    ((decide (workers1 < 1)) = false →
    ref9_Cells.j2 workers1 Q ((decide ((64 : Int) < workers1)), ()) h2))
def ref9_Cells.mk : Mk := (.s .d (.j [] (.j [.slot 8 .bool] .d (.c (.s .d .d) .d)) (.s .d .d)))

def law3_mod.j1 (Q : Int → Heap → Prop) (s4 : (Int × Unit)) (h5 : Heap) : Prop :=
    Q s4.1 h5
def law3_mod.M  (x1 : Int) (n2 : Int) (h3 : Heap) (Q : Int → Heap → Prop) : Prop :=
    n2 ≠ 0 ∧
    (((decide ((Int.tmod x1 n2) < 0)) = true →
    law3_mod.j1 Q ((w64 ((Int.tmod x1 n2) + n2)), ()) h3) ∧
    ((decide ((Int.tmod x1 n2) < 0)) = false →
    law3_mod.j1 Q ((Int.tmod x1 n2), ()) h3))
def law3_mod.mk : Mk := (.s .d (.s .d (.j [.slot 5 (.int .i64)] (.s .d (.c .d .d)) (.s .d .d))))

def law3_arena.l1 (c_cells_Arena_Store : Option Addr → Int → Int → Heap → (Int → Heap → Prop) → Prop) (c_cells_Arena_Watch : Option Addr → Bool → Heap → (Unit → Heap → Prop) → Prop) (begin2 : Sl) (Q : (Option Addr × (Bool × Unit)) → Heap → Prop) (r4 : (Option Addr × (Int × Unit))) (go12 : (Int × Unit) → Heap → Prop) (s10 : (Int × Unit)) (h11 : Heap) : Prop :=
    (((decide (s10.1 < (begin2.len : Int))) = true →
    (0 ≤ s10.1 ∧ s10.1 < (begin2.len : Int)) ∧
    deref begin2.a fun a13 =>
    ld ((.int .i64) : Kd) h11 (a13.add ((s10.1 : Int).toNat * 1)) fun t14 =>
    c_cells_Arena_Store r4.1 s10.1 t14 h11 fun r15 h16 =>
    (((decide (r15 ≠ 0)) = true →
    Q (none, false, ()) h16) ∧
    ((decide (r15 ≠ 0)) = false →
    go12 ((w64 (s10.1 + 1)), ()) h16))) ∧
    ((decide (s10.1 < (begin2.len : Int))) = false →
    c_cells_Arena_Watch r4.1 true h11 fun r17 h18 =>
    Q (r4.1, true, ()) h18))
def law3_arena.j2 (c_cells_Arena_Store : Option Addr → Int → Int → Heap → (Int → Heap → Prop) → Prop) (c_cells_Arena_Watch : Option Addr → Bool → Heap → (Unit → Heap → Prop) → Prop) (begin2 : Sl) (Q : (Option Addr × (Bool × Unit)) → Heap → Prop) (r4 : (Option Addr × (Int × Unit))) (s8 : Unit) (h9 : Heap) : Prop :=
    Loop (law3_arena.l1 c_cells_Arena_Store c_cells_Arena_Watch begin2 Q r4) (0, ()) h9
def law3_arena.j3 (c_cells_Arena_Store : Option Addr → Int → Int → Heap → (Int → Heap → Prop) → Prop) (c_cells_Arena_Watch : Option Addr → Bool → Heap → (Unit → Heap → Prop) → Prop) (begin2 : Sl) (Q : (Option Addr × (Bool × Unit)) → Heap → Prop) (r4 : (Option Addr × (Int × Unit))) (s21 : (Bool × Unit)) (h22 : Heap) : Prop :=
    ((s21.1 = true →
    Q (none, false, ()) h22) ∧
    (s21.1 = false →
    law3_arena.j2 c_cells_Arena_Store c_cells_Arena_Watch begin2 Q r4 () h22))
def law3_arena.j4 (c_cells_Arena_Reserve : Option Addr → Int → Heap → (Den kparkLot → Heap → Prop) → Prop) (c_cells_Arena_Store : Option Addr → Int → Int → Heap → (Int → Heap → Prop) → Prop) (c_cells_Arena_Watch : Option Addr → Bool → Heap → (Unit → Heap → Prop) → Prop) (begin2 : Sl) (Q : (Option Addr × (Bool × Unit)) → Heap → Prop) (r4 : (Option Addr × (Int × Unit))) (s6 : Unit) (h7 : Heap) : Prop :=
    (((decide ((0 : Int) < (begin2.len : Int))) = true →
    c_cells_Arena_Reserve r4.1 (begin2.len : Int) h7 fun r19 h20 =>
    (((decide (r19.2.1 ≠ 0)) = true →
    law3_arena.j3 c_cells_Arena_Store c_cells_Arena_Watch begin2 Q r4 (true, ()) h20) ∧
    ((decide (r19.2.1 ≠ 0)) = false →
    law3_arena.j3 c_cells_Arena_Store c_cells_Arena_Watch begin2 Q r4 ((decide (r19.1 ≠ 0)), ()) h20))) ∧
    ((decide ((0 : Int) < (begin2.len : Int))) = false →
    law3_arena.j2 c_cells_Arena_Store c_cells_Arena_Watch begin2 Q r4 () h7))
def law3_arena.j5 (c_cells_Arena_Reserve : Option Addr → Int → Heap → (Den kparkLot → Heap → Prop) → Prop) (c_cells_Arena_Store : Option Addr → Int → Int → Heap → (Int → Heap → Prop) → Prop) (c_cells_Arena_Watch : Option Addr → Bool → Heap → (Unit → Heap → Prop) → Prop) (begin2 : Sl) (Q : (Option Addr × (Bool × Unit)) → Heap → Prop) (r4 : (Option Addr × (Int × Unit))) (s23 : (Bool × Unit)) (h24 : Heap) : Prop :=
    ((s23.1 = true →
    Q (none, false, ()) h24) ∧
    (s23.1 = false →
    law3_arena.j4 c_cells_Arena_Reserve c_cells_Arena_Store c_cells_Arena_Watch begin2 Q r4 () h24))
def law3_arena.M (c_cells_New : Int → Heap → ((Option Addr × (Int × Unit)) → Heap → Prop) → Prop) (c_cells_Arena_Reserve : Option Addr → Int → Heap → (Den kparkLot → Heap → Prop) → Prop) (c_cells_Arena_Store : Option Addr → Int → Int → Heap → (Int → Heap → Prop) → Prop) (c_cells_Arena_Watch : Option Addr → Bool → Heap → (Unit → Heap → Prop) → Prop) (size1 : Int) (begin2 : Sl) (h3 : Heap) (Q : (Option Addr × (Bool × Unit)) → Heap → Prop) : Prop :=
    c_cells_New size1 h3 fun r4 h5 =>
    (((decide (r4.2.1 ≠ 0)) = true →
    law3_arena.j5 c_cells_Arena_Reserve c_cells_Arena_Store c_cells_Arena_Watch begin2 Q r4 (true, ()) h5) ∧
    ((decide (r4.2.1 ≠ 0)) = false →
    law3_arena.j5 c_cells_Arena_Reserve c_cells_Arena_Store c_cells_Arena_Watch begin2 Q r4 ((Option.isNone r4.1), ()) h5))
def law3_arena.mk : Mk := (.s .d (.s .d (.j [] (.j [.slot 22 .bool] .d (.c (.s .d .d) .d)) (.j [] (.s .d (.c (.s .d (.j [.slot 38 .bool] .d (.c (.s .d .d) .d))) .d)) (.s (.s .d (.b (.l [.slot 10 (.int .i64)] (.s (.s .d (.c .d .d)) (.s (.b (.s .d (.s .d (.c (.s .d .d) .d)))) .d))))) (.s .d (.s .d .d)))))))

def deque_New.M (c_deque_capsOK : Int → Int → Heap → (Bool → Heap → Prop) → Prop) (c_inv_Reserve : Value → Int → Heap → (Den kparkLot → Heap → Prop) → Prop) (c_inv_Store : Value → Int → Int → Heap → (Int → Heap → Prop) → Prop) (m1 : Value) (low2 : Int) (most3 : Int) (h4 : Heap) (Q : (Den kparkLot × (Int × Unit)) → Heap → Prop) : Prop :=
    isI m1 ∧
    (((isNilI m1) = true →
    Q ((0, (0, ())), 1, ()) h4) ∧
    ((isNilI m1) = false →
    c_deque_capsOK low2 most3 h4 fun r5 h6 =>
    (((!r5) = true →
    Q ((0, (0, ())), 30, ()) h6) ∧
    ((!r5) = false →
    c_inv_Reserve m1 (w64 (4 + low2)) h6 fun r7 h8 =>
    (((decide (r7.2.1 ≠ 0)) = true →
    Q ((0, (0, ())), r7.2.1, ()) h8) ∧
    ((decide (r7.2.1 ≠ 0)) = false →
    c_inv_Store m1 (w64 (r7.1 + 2)) (w64 (r7.1 + 3)) h8 fun r9 h10 =>
    (((decide (r9 ≠ 0)) = true →
    Q ((0, (0, ())), r9, ()) h10) ∧
    ((decide (r9 ≠ 0)) = false →
    c_inv_Store m1 (w64 (r7.1 + 3)) low2 h10 fun r11 h12 =>
    (((decide (r11 ≠ 0)) = true →
    Q ((0, (0, ())), r11, ()) h12) ∧
    ((decide (r11 ≠ 0)) = false →
    Q ((r7.1, (most3, ())), 0, ()) h12))))))))))
def deque_New.mk : Mk := (.s (.r [0]) (.s (.s .d (.c (.s .d .d) .d)) (.s (.s .d (.c (.s .d .d) .d)) (.s .d (.s (.s .d (.c (.s .d .d) .d)) (.s (.s .d (.s .d (.c (.s .d .d) .d))) (.s (.s .d (.s .d (.c (.s .d .d) .d))) (.s .d .d))))))))

def ref3_New.M (c_ref3_CapOK : Int → Int → Heap → (Bool → Heap → Prop) → Prop) (c_ref3_Mem_Do : Option Addr → Den kref3Want → Heap → ((Int × (Bool × Unit)) → Heap → Prop) → Prop) (c_ref3_store : Int → Int → Heap → (Den kref3Want → Heap → Prop) → Prop) (m1 : Option Addr) (first2 : Int) (most3 : Int) (h4 : Heap) (Q : (Den kparkLot × (Int × Unit)) → Heap → Prop) : Prop :=
    c_ref3_CapOK first2 most3 h4 fun r5 h6 =>
    (((!r5) = true →
    Q ((0, (0, ())), 30, ()) h6) ∧
    ((!r5) = false →
    c_ref3_Mem_Do m1 (4, (0, ((w64 (4 + first2)), (0, (0, (0, ())))))) h6 fun r7 h8 =>
    (((!r7.2.1) = true →
    Q ((0, (0, ())), 22, ()) h8) ∧
    ((!r7.2.1) = false →
    c_ref3_store (w64 (r7.1 + 2)) (w64 (r7.1 + 3)) h8 fun r9 h10 =>
    c_ref3_Mem_Do m1 r9 h10 fun r11 h12 =>
    c_ref3_store (w64 (r7.1 + 3)) first2 h12 fun r13 h14 =>
    c_ref3_Mem_Do m1 r13 h14 fun r15 h16 =>
    Q ((r7.1, (most3, ())), 0, ()) h16))))
def ref3_New.mk : Mk := (.s (.r [0]) (.s (.s .d (.c (.s .d .d) .d)) (.s .d (.s (.s .d (.c (.s .d .d) .d)) (.s .d (.s .d (.s .d .d)))))))

def law3_sameInts.l1 (a1 : Sl) (b2 : Sl) (Q : Bool → Heap → Prop) (go6 : (Int × Unit) → Heap → Prop) (s4 : (Int × Unit)) (h5 : Heap) : Prop :=
    (((decide (s4.1 < (a1.len : Int))) = true →
    (0 ≤ s4.1 ∧ s4.1 < (a1.len : Int)) ∧
    deref a1.a fun a7 =>
    (0 ≤ s4.1 ∧ s4.1 < (b2.len : Int)) ∧
    deref b2.a fun a8 =>
    ld ((.int .i64) : Kd) h5 (a7.add ((s4.1 : Int).toNat * 1)) fun t9 =>
    ld ((.int .i64) : Kd) h5 (a8.add ((s4.1 : Int).toNat * 1)) fun t10 =>
    (((decide (t9 ≠ t10)) = true →
    Q false h5) ∧
    ((decide (t9 ≠ t10)) = false →
    go6 ((w64 (s4.1 + 1)), ()) h5))) ∧
    ((decide (s4.1 < (a1.len : Int))) = false →
    Q true h5))
def law3_sameInts.M  (a1 : Sl) (b2 : Sl) (h3 : Heap) (Q : Bool → Heap → Prop) : Prop :=
    (((decide ((a1.len : Int) ≠ (b2.len : Int))) = true →
    Q false h3) ∧
    ((decide ((a1.len : Int) ≠ (b2.len : Int))) = false →
    Loop (law3_sameInts.l1 a1 b2 Q) (0, ()) h3))
def law3_sameInts.mk : Mk := (.s .d (.s (.s .d (.c (.s .d .d) .d)) (.s (.s .d (.b (.l [.slot 5 (.int .i64)] (.s (.s .d (.c .d .d)) (.s (.b (.s (.q [] [] [.p 0, .p 1, .p 2, .p 4, .p 5, .p 6, .w 3 [3, 8], .w 7 [7, 8], .p 8]) (.c (.s .d .d) .d))) .d))))) (.s .d .d))))

def law3_sameLog.l1 (a1 : Sl) (b2 : Sl) (Q : Bool → Heap → Prop) (go6 : (Int × Unit) → Heap → Prop) (s4 : (Int × Unit)) (h5 : Heap) : Prop :=
    (((decide (s4.1 < (a1.len : Int))) = true →
    (0 ≤ s4.1 ∧ s4.1 < (a1.len : Int)) ∧
    deref a1.a fun a7 =>
    (0 ≤ s4.1 ∧ s4.1 < (b2.len : Int)) ∧
    deref b2.a fun a8 =>
    ld kapiAccess h5 (a7.add ((s4.1 : Int).toNat * 6)) fun t9 =>
    ld kapiAccess h5 (a8.add ((s4.1 : Int).toNat * 6)) fun t10 =>
    (((!(eqK kapiAccess t9 t10)) = true →
    Q false h5) ∧
    ((!(eqK kapiAccess t9 t10)) = false →
    go6 ((w64 (s4.1 + 1)), ()) h5))) ∧
    ((decide (s4.1 < (a1.len : Int))) = false →
    Q true h5))
def law3_sameLog.M  (a1 : Sl) (b2 : Sl) (h3 : Heap) (Q : Bool → Heap → Prop) : Prop :=
    (((decide ((a1.len : Int) ≠ (b2.len : Int))) = true →
    Q false h3) ∧
    ((decide ((a1.len : Int) ≠ (b2.len : Int))) = false →
    Loop (law3_sameLog.l1 a1 b2 Q) (0, ()) h3))
def law3_sameLog.mk : Mk := (.s .d (.s (.s .d (.c (.s .d .d) .d)) (.s (.s .d (.b (.l [.slot 5 (.int .i64)] (.s (.s .d (.c .d .d)) (.s (.b (.s (.q [] [] [.p 0, .p 1, .p 2, .p 4, .p 5, .p 6, .w 3 [3, 8], .w 7 [7, 8], .p 8]) (.c (.s .d .d) .d))) .d))))) (.s .d .d))))

def law3_stops.j1 (go7 : (Int × Unit) → Heap → Prop) (s5 : (Int × Unit)) (s8 : Unit) (h9 : Heap) : Prop :=
    go7 ((w64 (s5.1 + 1)), ()) h9
def law3_stops.j2 (Q : Bool → Heap → Prop) (go7 : (Int × Unit) → Heap → Prop) (s5 : (Int × Unit)) (s16 : (Bool × Unit)) (h17 : Heap) : Prop :=
    ((s16.1 = true →
    Q false h17) ∧
    (s16.1 = false →
    law3_stops.j1 go7 s5 () h17))
def law3_stops.l3 (c_law3_arena : Int → Sl → Heap → ((Option Addr × (Bool × Unit)) → Heap → Prop) → Prop) (c_deque_New : Value → Int → Int → Heap → ((Den kparkLot × (Int × Unit)) → Heap → Prop) → Prop) (Q : Bool → Heap → Prop) (r3 : Int) (go7 : (Int × Unit) → Heap → Prop) (s5 : (Int × Unit)) (h6 : Heap) : Prop :=
    (((decide (s5.1 < 4)) = true →
    c_law3_arena 40 ⟨none, 0, 0⟩ h6 fun r10 h11 =>
    (((!r10.2.1) = true →
    Q false h11) ∧
    ((!r10.2.1) = false →
    new h11 (klaw3Deny.cells (r10.1, (s5.1, (0, ())))) fun p12 h13 =>
    c_deque_New (Value.iface 131 (Kd.val (.ptr : Kd) (some p12))) (w64 (1 + r3)) (w64 (2 * (w64 (1 + r3)))) h13 fun r14 h15 =>
    (((decide (s5.1 < 3)) = true →
    (((decide (r14.2.1 ≠ 77)) = true →
    law3_stops.j2 Q go7 s5 (true, ()) h15) ∧
    ((decide (r14.2.1 ≠ 77)) = false →
    (((decide (r14.1.1 ≠ 0)) = true →
    law3_stops.j2 Q go7 s5 (true, ()) h15) ∧
    ((decide (r14.1.1 ≠ 0)) = false →
    (((decide (r14.1.2.1 ≠ 0)) = true →
    law3_stops.j2 Q go7 s5 (true, ()) h15) ∧
    ((decide (r14.1.2.1 ≠ 0)) = false →
    ld ((.int .i64) : Kd) h15 (p12.add 2) fun t18 =>
    (((decide (t18 ≠ (w64 (s5.1 + 1)))) = true →
    law3_stops.j2 Q go7 s5 (true, ()) h15) ∧
    ((decide (t18 ≠ (w64 (s5.1 + 1)))) = false →
    (((decide (s5.1 = 3)) = true →
    (((decide (r14.2.1 ≠ 0)) = true →
    law3_stops.j2 Q go7 s5 (true, ()) h15) ∧
    ((decide (r14.2.1 ≠ 0)) = false →
    (((decide (r14.1.2.1 ≠ (w64 (2 * (w64 (1 + r3)))))) = true →
    law3_stops.j2 Q go7 s5 (true, ()) h15) ∧
    ((decide (r14.1.2.1 ≠ (w64 (2 * (w64 (1 + r3)))))) = false →
    ld ((.int .i64) : Kd) h15 (p12.add 2) fun t19 =>
    law3_stops.j2 Q go7 s5 ((decide (t19 ≠ 3)), ()) h15))))) ∧
    ((decide (s5.1 = 3)) = false →
    law3_stops.j2 Q go7 s5 (false, ()) h15))))))))))) ∧
    ((decide (s5.1 < 3)) = false →
    (((decide (s5.1 = 3)) = true →
    (((decide (r14.2.1 ≠ 0)) = true →
    law3_stops.j2 Q go7 s5 (true, ()) h15) ∧
    ((decide (r14.2.1 ≠ 0)) = false →
    (((decide (r14.1.2.1 ≠ (w64 (2 * (w64 (1 + r3)))))) = true →
    law3_stops.j2 Q go7 s5 (true, ()) h15) ∧
    ((decide (r14.1.2.1 ≠ (w64 (2 * (w64 (1 + r3)))))) = false →
    ld ((.int .i64) : Kd) h15 (p12.add 2) fun t20 =>
    law3_stops.j2 Q go7 s5 ((decide (t20 ≠ 3)), ()) h15))))) ∧
    ((decide (s5.1 = 3)) = false →
    law3_stops.j2 Q go7 s5 (false, ()) h15))))))) ∧
    ((decide (s5.1 < 4)) = false →
    Q true h6))
def law3_stops.M (c_law3_mod : Int → Int → Heap → (Int → Heap → Prop) → Prop) (c_law3_arena : Int → Sl → Heap → ((Option Addr × (Bool × Unit)) → Heap → Prop) → Prop) (c_deque_New : Value → Int → Int → Heap → ((Den kparkLot × (Int × Unit)) → Heap → Prop) → Prop) (first1 : Int) (h2 : Heap) (Q : Bool → Heap → Prop) : Prop :=
    c_law3_mod first1 5 h2 fun r3 h4 =>
    Loop (law3_stops.l3 c_law3_arena c_deque_New Q r3) (0, ()) h4
def law3_stops.mk : Mk := (.s .d (.s .d (.s (.s .d (.b (.l [.slot 4 (.int .i64)] (.s (.s .d (.c .d .d)) (.j [] (.b (.s .d (.s (.s .d (.c (.s .d .d) .d)) (.s .d (.s (.r [9]) (.j [.slot 82 .bool] .d (.c (.s .d .d) .d))))))) .d))))) (.s .d .d))))

def deque_Cells.l1 (most2 : Int) (Q : Int → Heap → Prop) (go8 : Den kparkLot → Heap → Prop) (s6 : Den kparkLot) (h7 : Heap) : Prop :=
    (((decide (s6.2.1 < most2)) = true →
    go8 ((w64 (s6.1 + (w64 (1 + (if most2 < (w64 (2 * s6.2.1)) then most2 else (w64 (2 * s6.2.1))))))), (if most2 < (w64 (2 * s6.2.1)) then most2 else (w64 (2 * s6.2.1))), ()) h7) ∧
    ((decide (s6.2.1 < most2)) = false →
    Q s6.1 h7))
def deque_Cells.M (c_deque_capsOK : Int → Int → Heap → (Bool → Heap → Prop) → Prop) (low1 : Int) (most2 : Int) (h3 : Heap) (Q : Int → Heap → Prop) : Prop :=
    c_deque_capsOK low1 most2 h3 fun r4 h5 =>
    (((!r4) = true →
    Q 0 h5) ∧
    ((!r4) = false →
    Loop (deque_Cells.l1 most2 Q) ((w64 (4 + low1)), low1, ()) h5))
def deque_Cells.mk : Mk := (.s .d (.s (.s .d (.c (.s .d .d) .d)) (.s .d (.s (.s .d (.b (.l [.slot 5 (.int .i64), .slot 6 (.int .i64)] (.s (.s .d (.c .d .d)) (.b (.s .d .d)))))) (.s .d .d)))))

def ref3_Cells.l1 (most2 : Int) (Q : Int → Heap → Prop) (go8 : Den kparkLot → Heap → Prop) (s6 : Den kparkLot) (h7 : Heap) : Prop :=
    (((decide (s6.2.1 < most2)) = true →
    go8 ((w64 ((w64 (s6.1 + 1)) + (if most2 < (w64 (2 * s6.2.1)) then most2 else (w64 (2 * s6.2.1))))), (if most2 < (w64 (2 * s6.2.1)) then most2 else (w64 (2 * s6.2.1))), ()) h7) ∧
    ((decide (s6.2.1 < most2)) = false →
    Q s6.1 h7))
def ref3_Cells.M (c_ref3_CapOK : Int → Int → Heap → (Bool → Heap → Prop) → Prop) (first1 : Int) (most2 : Int) (h3 : Heap) (Q : Int → Heap → Prop) : Prop :=
    c_ref3_CapOK first1 most2 h3 fun r4 h5 =>
    (((!r4) = true →
    Q 0 h5) ∧
    ((!r4) = false →
    Loop (ref3_Cells.l1 most2 Q) ((w64 (4 + first1)), first1, ()) h5))
def ref3_Cells.mk : Mk := (.s .d (.s (.s .d (.c (.s .d .d) .d)) (.s .d (.s .d (.s (.b (.l [.slot 5 (.int .i64), .slot 6 (.int .i64)] (.s (.s .d (.c .d .d)) (.b (.s .d .d))))) (.s .d .d))))))

def cells_Arena_Who.M  (a1 : Option Addr) (actor2 : Int) (h3 : Heap) (Q : Unit → Heap → Prop) : Prop :=
    (((Option.isSome a1) = true →
    deref a1 fun a4 =>
    st ((.int .i64) : Kd) h3 (a4.add 4) actor2 fun h5 =>
    Q () h5) ∧
    ((Option.isSome a1) = false →
    Q () h3))
def cells_Arena_Who.mk : Mk := (.s .d (.c .d .d))

def cells_New.M (c_cells_good : Int → Heap → (Bool → Heap → Prop) → Prop) (size1 : Int) (h2 : Heap) (Q : (Option Addr × (Int × Unit)) → Heap → Prop) : Prop :=
    c_cells_good size1 h2 fun r3 h4 =>
    (((!r3) = true →
    Q (none, 3, ()) h4) ∧
    ((!r3) = false →
    new h4 (kcellsArena.cells ((size1, (0, ())), (Sl.none, (Sl.none, (0, (false, ())))))) fun p5 h6 =>
    Q ((some p5), 0, ()) h6))
def cells_New.mk : Mk := (.s .d (.s (.s .d (.c (.s .d .d) .d)) (.s .d .d)))

def cells_Arena_Reserve.j1 (c_cells_ledger_refuse : Option Addr → Int → Heap → (Int → Heap → Prop) → Prop) (c_cells_ledger_take : Option Addr → Int → Heap → (Int → Heap → Prop) → Prop) (c_cells_Arena_note : Option Addr → Int → Int → Int → Int → Bool → Heap → (Unit → Heap → Prop) → Prop) (a1 : Option Addr) (n2 : Int) (Q : Den kparkLot → Heap → Prop) (s4 : (Option Addr × Unit)) (h5 : Heap) : Prop :=
    c_cells_ledger_refuse s4.1 n2 h5 fun r6 h7 =>
    (((decide (r6 ≠ 0)) = true →
    Q (0, r6, ()) h7) ∧
    ((decide (r6 ≠ 0)) = false →
    c_cells_ledger_take s4.1 n2 h7 fun r8 h9 =>
    deref a1 fun a10 =>
    ld (.sl : Kd) h9 (a10.add 2) fun t11 =>
    appendZM ((.int .i64) : Kd) 8 h9 t11 n2 fun t12 h13 =>
    deref a1 fun a14 =>
    st (.sl : Kd) h13 (a14.add 2) t12 fun h15 =>
    c_cells_Arena_note a1 4 r8 n2 0 true h15 fun r16 h17 =>
    Q (r8, 0, ()) h17))
def cells_Arena_Reserve.M (c_cells_ledger_refuse : Option Addr → Int → Heap → (Int → Heap → Prop) → Prop) (c_cells_ledger_take : Option Addr → Int → Heap → (Int → Heap → Prop) → Prop) (c_cells_Arena_note : Option Addr → Int → Int → Int → Int → Bool → Heap → (Unit → Heap → Prop) → Prop) (a1 : Option Addr) (n2 : Int) (h3 : Heap) (Q : Den kparkLot → Heap → Prop) : Prop :=
    (((Option.isSome a1) = true →
    deref a1 fun a18 =>
    cells_Arena_Reserve.j1 c_cells_ledger_refuse c_cells_ledger_take c_cells_Arena_note a1 n2 Q ((some (a18.add 0)), ()) h3) ∧
    ((Option.isSome a1) = false →
    cells_Arena_Reserve.j1 c_cells_ledger_refuse c_cells_ledger_take c_cells_Arena_note a1 n2 Q (none, ()) h3))
def cells_Arena_Reserve.mk : Mk := (.s .d (.s .d (.j [.slot 6 .ptr] (.s .d (.c .d .d)) (.s (.s .d (.s .d (.c (.s .d .d) .d))) (.s .d (.s .d (.s .d (.s .d .d))))))))

def cells_Arena_Store.M (c_cells_Arena_outside : Option Addr → Int → Heap → (Bool → Heap → Prop) → Prop) (c_cells_Arena_note : Option Addr → Int → Int → Int → Int → Bool → Heap → (Unit → Heap → Prop) → Prop) (a1 : Option Addr) (addr2 : Int) (v3 : Int) (h4 : Heap) (Q : Int → Heap → Prop) : Prop :=
    c_cells_Arena_outside a1 addr2 h4 fun r5 h6 =>
    ((r5 = true →
    Q 20 h6) ∧
    (r5 = false →
    deref a1 fun a7 =>
    ld (.sl : Kd) h6 (a7.add 2) fun t8 =>
    (0 ≤ addr2 ∧ addr2 < (t8.len : Int)) ∧
    deref t8.a fun a9 =>
    st ((.int .i64) : Kd) h6 (a9.add ((addr2 : Int).toNat * 1)) v3 fun h10 =>
    c_cells_Arena_note a1 1 addr2 v3 0 true h10 fun r11 h12 =>
    Q 0 h12))
def cells_Arena_Store.mk : Mk := (.s .d (.s (.s .d (.c (.s .d .d) .d)) (.s .d (.s .d (.s .d .d)))))

def cells_Arena_Watch.M  (a1 : Option Addr) (on2 : Bool) (h3 : Heap) (Q : Unit → Heap → Prop) : Prop :=
    (((Option.isSome a1) = true →
    deref a1 fun a4 =>
    st (.bool : Kd) h3 (a4.add 5) on2 fun h5 =>
    Q () h5) ∧
    ((Option.isSome a1) = false →
    Q () h3))
def cells_Arena_Watch.mk : Mk := (.s .d (.c .d .d))

def ref3_Mem_Do.l1 (m1 : Option Addr) (w2 : Den kref3Want) (Q : (Int × (Bool × Unit)) → Heap → Prop) (t5 : Int) (t9 : Sl) (go12 : (Int × Unit) → Heap → Prop) (s10 : (Int × Unit)) (h11 : Heap) : Prop :=
    (((decide (s10.1 < w2.2.2.1)) = true →
    deref m1 fun a13 =>
    ld (.sl : Kd) h11 (a13.add 0) fun t14 =>
    new h11 (([0] : List (Den ((.int .i64) : Kd))).flatMap (Kd.cells ((.int .i64) : Kd))) fun p15 h16 =>
    appendM 1 8 h16 t14 ⟨some p15, 1, 1⟩ fun t17 h18 =>
    deref m1 fun a19 =>
    st (.sl : Kd) h18 (a19.add 0) t17 fun h20 =>
    go12 ((w64 (s10.1 + 1)), ()) h20) ∧
    ((decide (s10.1 < w2.2.2.1)) = false →
    deref m1 fun a21 =>
    ld (.sl : Kd) h11 (a21.add 3) fun t22 =>
    new h11 (([(t5, (w2.1, ((t9.len : Int), (w2.2.2.1, (w2.2.2.2.1, (true, ()))))))] : List (Den kapiAccess)).flatMap (Kd.cells kapiAccess)) fun p23 h24 =>
    appendM 6 48 h24 t22 ⟨some p23, 1, 1⟩ fun t25 h26 =>
    deref m1 fun a27 =>
    st (.sl : Kd) h26 (a27.add 3) t25 fun h28 =>
    Q ((t9.len : Int), true, ()) h28))
def ref3_Mem_Do.j2 (m1 : Option Addr) (w2 : Den kref3Want) (Q : (Int × (Bool × Unit)) → Heap → Prop) (t5 : Int) (s6 : Unit) (h7 : Heap) : Prop :=
    deref m1 fun a8 =>
    ld (.sl : Kd) h7 (a8.add 0) fun t9 =>
    Loop (ref3_Mem_Do.l1 m1 w2 Q t5 t9) (0, ()) h7
def ref3_Mem_Do.j3 (m1 : Option Addr) (w2 : Den kref3Want) (Q : (Int × (Bool × Unit)) → Heap → Prop) (t5 : Int) (s29 : (Bool × Unit)) (h30 : Heap) : Prop :=
    ((s29.1 = true →
    Q (0, false, ()) h30) ∧
    (s29.1 = false →
    ref3_Mem_Do.j2 m1 w2 Q t5 () h30))
def ref3_Mem_Do.j4 (m1 : Option Addr) (Q : (Int × (Bool × Unit)) → Heap → Prop) (s37 : (Int × (Den kapiAccess × Unit))) (h38 : Heap) : Prop :=
    deref m1 fun a39 =>
    ld (.sl : Kd) h38 (a39.add 3) fun t40 =>
    new h38 (([(s37.2.1.1, (s37.2.1.2.1, (s37.2.1.2.2.1, (s37.2.1.2.2.2.1, (s37.2.1.2.2.2.2.1, (s37.2.1.2.2.2.2.2.1, ()))))))] : List (Den kapiAccess)).flatMap (Kd.cells kapiAccess)) fun p41 h42 =>
    appendM 6 48 h42 t40 ⟨some p41, 1, 1⟩ fun t43 h44 =>
    deref m1 fun a45 =>
    st (.sl : Kd) h44 (a45.add 3) t43 fun h46 =>
    Q (s37.1, true, ()) h46
def ref3_Mem_Do.j5 (m1 : Option Addr) (w2 : Den kref3Want) (Q : (Int × (Bool × Unit)) → Heap → Prop) (t5 : Int) (s35 : Unit) (h36 : Heap) : Prop :=
    (((decide (w2.1 = 0)) = true →
    deref m1 fun a47 =>
    ld (.sl : Kd) h36 (a47.add 0) fun t48 =>
    (0 ≤ w2.2.1 ∧ w2.2.1 < (t48.len : Int)) ∧
    deref t48.a fun a49 =>
    ld ((.int .i64) : Kd) h36 (a49.add ((w2.2.1 : Int).toNat * 1)) fun t50 =>
    ref3_Mem_Do.j4 m1 Q (t50, (t5, (w2.1, (w2.2.1, (t50, (w2.2.2.2.1, (true, ())))))), ()) h36) ∧
    ((decide (w2.1 = 0)) = false →
    (((decide (w2.1 = 1)) = true →
    deref m1 fun a51 =>
    ld (.sl : Kd) h36 (a51.add 0) fun t52 =>
    (0 ≤ w2.2.1 ∧ w2.2.1 < (t52.len : Int)) ∧
    deref t52.a fun a53 =>
    st ((.int .i64) : Kd) h36 (a53.add ((w2.2.1 : Int).toNat * 1)) w2.2.2.1 fun h54 =>
    ref3_Mem_Do.j4 m1 Q (0, (t5, (w2.1, (w2.2.1, (w2.2.2.1, (w2.2.2.2.1, (true, ())))))), ()) h54) ∧
    ((decide (w2.1 = 1)) = false →
    (((decide (w2.1 = 3)) = true →
    deref m1 fun a55 =>
    deref m1 fun a56 =>
    ld (.sl : Kd) h36 (a55.add 0) fun t57 =>
    ld (.sl : Kd) h36 (a56.add 0) fun t58 =>
    (0 ≤ w2.2.1 ∧ w2.2.1 < (t58.len : Int)) ∧
    deref t58.a fun a59 =>
    ld ((.int .i64) : Kd) h36 (a59.add ((w2.2.1 : Int).toNat * 1)) fun t60 =>
    (0 ≤ w2.2.1 ∧ w2.2.1 < (t57.len : Int)) ∧
    deref t57.a fun a61 =>
    st ((.int .i64) : Kd) h36 (a61.add ((w2.2.1 : Int).toNat * 1)) (w64 (t60 + w2.2.2.1)) fun h62 =>
    deref m1 fun a63 =>
    ld (.sl : Kd) h62 (a63.add 0) fun t64 =>
    (0 ≤ w2.2.1 ∧ w2.2.1 < (t64.len : Int)) ∧
    deref t64.a fun a65 =>
    ld ((.int .i64) : Kd) h62 (a65.add ((w2.2.1 : Int).toNat * 1)) fun t66 =>
    ref3_Mem_Do.j4 m1 Q (t66, (t5, (w2.1, (w2.2.1, (w2.2.2.1, (t66, (true, ())))))), ()) h62) ∧
    ((decide (w2.1 = 3)) = false →
    (((decide (w2.1 = 2)) = true →
    deref m1 fun a67 =>
    ld (.sl : Kd) h36 (a67.add 0) fun t68 =>
    (0 ≤ w2.2.1 ∧ w2.2.1 < (t68.len : Int)) ∧
    deref t68.a fun a69 =>
    ld ((.int .i64) : Kd) h36 (a69.add ((w2.2.1 : Int).toNat * 1)) fun t70 =>
    (((decide (t70 = w2.2.2.1)) = true →
    deref m1 fun a71 =>
    ld (.sl : Kd) h36 (a71.add 0) fun t72 =>
    (0 ≤ w2.2.1 ∧ w2.2.1 < (t72.len : Int)) ∧
    deref t72.a fun a73 =>
    st ((.int .i64) : Kd) h36 (a73.add ((w2.2.1 : Int).toNat * 1)) w2.2.2.2.1 fun h74 =>
    ref3_Mem_Do.j4 m1 Q (1, (t5, (w2.1, (w2.2.1, (w2.2.2.1, (w2.2.2.2.1, ((decide (t70 = w2.2.2.1)), ())))))), ()) h74) ∧
    ((decide (t70 = w2.2.2.1)) = false →
    ref3_Mem_Do.j4 m1 Q (0, (t5, (w2.1, (w2.2.1, (w2.2.2.1, (w2.2.2.2.1, ((decide (t70 = w2.2.2.1)), ())))))), ()) h36))) ∧
    ((decide (w2.1 = 2)) = false →
    ref3_Mem_Do.j4 m1 Q (0, (t5, (w2.1, (w2.2.1, (w2.2.2.1, (w2.2.2.2.1, (true, ())))))), ()) h36))))))))
def ref3_Mem_Do.j6 (m1 : Option Addr) (w2 : Den kref3Want) (Q : (Int × (Bool × Unit)) → Heap → Prop) (t5 : Int) (s75 : (Bool × Unit)) (h76 : Heap) : Prop :=
    ((s75.1 = true →
    Q (0, false, ()) h76) ∧
    (s75.1 = false →
    ref3_Mem_Do.j5 m1 w2 Q t5 () h76))
def ref3_Mem_Do.M  (m1 : Option Addr) (w2 : Den kref3Want) (h3 : Heap) (Q : (Int × (Bool × Unit)) → Heap → Prop) : Prop :=
    deref m1 fun a4 =>
    ld ((.int .i64) : Kd) h3 (a4.add 2) fun t5 =>
    (((decide (w2.1 = 4)) = true →
    (((decide (w2.2.2.1 < 1)) = true →
    ref3_Mem_Do.j3 m1 w2 Q t5 (true, ()) h3) ∧
    ((decide (w2.2.2.1 < 1)) = false →
    deref m1 fun a31 =>
    deref m1 fun a32 =>
    ld ((.int .i64) : Kd) h3 (a31.add 1) fun t33 =>
    ld (.sl : Kd) h3 (a32.add 0) fun t34 =>
    ref3_Mem_Do.j3 m1 w2 Q t5 ((decide ((w64 (t33 - (t34.len : Int))) < w2.2.2.1)), ()) h3))) ∧
    ((decide (w2.1 = 4)) = false →
    (((decide (w2.2.1 < 0)) = true →
    ref3_Mem_Do.j6 m1 w2 Q t5 (true, ()) h3) ∧
    ((decide (w2.2.1 < 0)) = false →
    deref m1 fun a77 =>
    ld (.sl : Kd) h3 (a77.add 0) fun t78 =>
    ref3_Mem_Do.j6 m1 w2 Q t5 ((decide ((t78.len : Int) ≤ w2.2.1)), ()) h3))))
def ref3_Mem_Do.mk : Mk := (.s (.r [0]) (.s (.q [13] [6] [.p 0, .p 1, .p 2, .p 4, .p 6, .p 8, .p 10, .w 3 [3, 12, 14], .w 5 [5, 12, 14], .w 7 [7, 12, 14], .w 9 [9, 12, 14], .w 11 [11, 12, 14], .p 12, .o 13, .o 14]) (.s (.s .d (.c (.j [] (.j [.slot 42 .bool] (.q [] [] [.p 0, .w 1 [1, 2, 3, 4, 5, 6, 7, 8, 9, 10, 11, 12, 13, 14, 15, 16, 17], .p 2, .p 3, .p 4, .p 6, .p 7, .p 8, .p 10, .p 11, .p 12, .w 5 [5, 16, 17], .w 9 [9, 15, 16, 17], .w 13 [13, 14, 15, 16, 17], .p 14, .p 15, .p 16, .p 17]) (.c (.s .d .d) .d)) (.s .d (.s (.s .d (.b (.l [.slot 7 (.int .i64)] (.s (.s .d (.c .d .d)) (.s (.b .d) .d))))) (.s (.q [] [] [.p 0, .p 1, .p 2, .p 3, .w 4 [4, 7, 8, 9, 10], .w 5 [5, 6, 7, 8, 9, 10], .o 6, .o 7, .p 8, .p 9, .o 10]) (.s .d .d))))) .d)) (.j [] (.j [.slot 88 .bool] (.q [] [] [.p 0, .w 1 [1, 2, 3, 4, 5, 6, 7, 8, 9, 10, 11, 12], .p 2, .p 3, .p 4, .p 6, .p 7, .p 8, .w 5 [5, 11, 12], .w 9 [9, 10, 11, 12], .p 10, .p 11, .p 12]) (.c (.s .d .d) .d)) (.s .d (.j [.slot 8 (.int .i64), .box 6 kapiAccess] (.s .d (.b (.s .d (.c (.s (.q [] [] [.p 0, .p 1, .p 2, .p 4, .w 3 [3, 6, 7, 8], .w 5 [5, 6, 7, 8], .p 6, .w 7 [7, 8], .p 8]) .d) (.s .d (.c (.q [] [] [.p 0, .p 1, .p 2, .p 4, .p 6, .w 3 [3, 8, 9], .w 5 [5, 8, 9], .w 7 [7, 8, 9], .p 8, .o 9]) (.s .d (.c (.s (.q [] [] [.p 0, .p 1, .p 2, .p 4, .p 6, .p 7, .p 8, .p 10, .p 14, .w 3 [3, 17, 18], .w 5 [5, 17, 18], .w 9 [9, 12, 13, 16, 17, 18], .w 11 [11, 12, 13, 16, 17, 18], .p 12, .w 13 [13, 16, 17, 18], .w 15 [15, 16, 17, 18], .p 16, .p 17, .o 18]) (.s (.q [] [] [.p 0, .p 1, .p 2, .p 4, .w 3 [3, 6, 7, 8], .w 5 [5, 6, 7, 8], .p 6, .w 7 [7, 8], .p 8]) .d)) (.s .d (.c (.s (.q [] [6] [.p 0, .p 1, .p 2, .p 4, .p 8, .w 3 [3, 6, 7, 10, 11, 12], .w 5 [5, 6, 7, 10, 11, 12], .p 6, .w 7 [7, 10, 11, 12], .w 9 [9, 10, 11, 12], .p 10, .p 11, .o 12]) (.s .d (.c (.s (.q [] [] [.p 0, .p 1, .p 2, .p 4, .p 6, .w 3 [3, 8, 9], .w 5 [5, 8, 9], .w 7 [7, 8, 9], .p 8, .o 9]) .d) .d))) .d)))))))))) (.s (.q [] [] [.p 0, .p 1, .p 2, .p 3, .w 4 [4, 7, 8, 9, 10], .w 5 [5, 6, 7, 8, 9, 10], .o 6, .o 7, .p 8, .p 9, .o 10]) (.s .d .d))))))))

def deque_capsOK.M  (low1 : Int) (most2 : Int) (h3 : Heap) (Q : Bool → Heap → Prop) : Prop :=
    (((decide ((1 : Int) ≤ low1)) = true →
    (((decide (low1 ≤ most2)) = true →
    Q (decide (most2 ≤ 4096)) h3) ∧
    ((decide (low1 ≤ most2)) = false →
    Q false h3))) ∧
    ((decide ((1 : Int) ≤ low1)) = false →
    Q false h3))
def deque_capsOK.mk : Mk := (.s .d (.s .d .d))

def ref3_CapOK.M  (first1 : Int) (most2 : Int) (h3 : Heap) (Q : Bool → Heap → Prop) : Prop :=
    (((decide ((1 : Int) ≤ first1)) = true →
    (((decide (first1 ≤ most2)) = true →
    Q (decide (most2 ≤ 4096)) h3) ∧
    ((decide (first1 ≤ most2)) = false →
    Q false h3))) ∧
    ((decide ((1 : Int) ≤ first1)) = false →
    Q false h3))
def ref3_CapOK.mk : Mk := (.s .d (.s .d .d))

def ref3_store.M  (addr1 : Int) (v2 : Int) (h3 : Heap) (Q : Den kref3Want → Heap → Prop) : Prop :=
    Q (1, (addr1, (v2, (0, (0, (0, ())))))) h3
def ref3_store.mk : Mk := (.s (.r [0]) (.s .d .d))

def cells_good.M  (size1 : Int) (h2 : Heap) (Q : Bool → Heap → Prop) : Prop :=
    (((decide ((0 : Int) ≤ size1)) = true →
    Q (decide (size1 ≤ 1048576)) h2) ∧
    ((decide ((0 : Int) ≤ size1)) = false →
    Q false h2))
def cells_good.mk : Mk := (.s .d (.s .d .d))

def cells_ledger_refuse.j1 (Q : Int → Heap → Prop) (s4 : Unit) (h5 : Heap) : Prop :=
    Q 0 h5
def cells_ledger_refuse.j2 (Q : Int → Heap → Prop) (s6 : (Bool × Unit)) (h7 : Heap) : Prop :=
    ((s6.1 = true →
    Q 22 h7) ∧
    (s6.1 = false →
    cells_ledger_refuse.j1 Q () h7))
def cells_ledger_refuse.M  (l1 : Option Addr) (n2 : Int) (h3 : Heap) (Q : Int → Heap → Prop) : Prop :=
    (((decide (n2 < 1)) = true →
    Q 21 h3) ∧
    ((decide (n2 < 1)) = false →
    (((Option.isNone l1) = true →
    cells_ledger_refuse.j2 Q (true, ()) h3) ∧
    ((Option.isNone l1) = false →
    deref l1 fun a8 =>
    deref l1 fun a9 =>
    ld ((.int .i64) : Kd) h3 (a8.add 0) fun t10 =>
    ld ((.int .i64) : Kd) h3 (a9.add 1) fun t11 =>
    cells_ledger_refuse.j2 Q ((decide ((w64 (t10 - t11)) < n2)), ()) h3))))
def cells_ledger_refuse.mk : Mk := (.s .d (.s (.s .d (.c (.s .d .d) .d)) (.j [] (.j [.slot 21 .bool] (.q [] [] [.p 0, .p 1, .p 2, .p 3, .p 4, .p 5, .p 6, .p 8, .p 9, .p 10, .w 7 [7, 12, 13, 14], .w 11 [11, 12, 13, 14], .p 12, .p 13, .p 14]) (.c (.s .d .d) .d)) (.s .d .d))))

def cells_ledger_take.M  (l1 : Option Addr) (n2 : Int) (h3 : Heap) (Q : Int → Heap → Prop) : Prop :=
    deref l1 fun a4 =>
    ld ((.int .i64) : Kd) h3 (a4.add 1) fun t5 =>
    deref l1 fun a6 =>
    ld ((.int .i64) : Kd) h3 (a6.add 1) fun t7 =>
    deref l1 fun a8 =>
    st ((.int .i64) : Kd) h3 (a8.add 1) (w64 (t7 + n2)) fun h9 =>
    Q t5 h9
def cells_ledger_take.mk : Mk := (.s .d (.s .d (.s .d (.s .d .d))))

def cells_Arena_note.M  (a1 : Option Addr) (kind2 : Int) (addr3 : Int) (x4 : Int) (y5 : Int) (ok6 : Bool) (h7 : Heap) (Q : Unit → Heap → Prop) : Prop :=
    deref a1 fun a8 =>
    ld (.bool : Kd) h7 (a8.add 5) fun t9 =>
    ((t9 = true →
    deref a1 fun a10 =>
    deref a1 fun a11 =>
    ld (.sl : Kd) h7 (a10.add 3) fun t12 =>
    ld ((.int .i64) : Kd) h7 (a11.add 4) fun t13 =>
    new h7 (([(t13, (kind2, (addr3, (x4, (y5, (ok6, ()))))))] : List (Den kapiAccess)).flatMap (Kd.cells kapiAccess)) fun p14 h15 =>
    appendM 6 48 h15 t12 ⟨some p14, 1, 1⟩ fun t16 h17 =>
    deref a1 fun a18 =>
    st (.sl : Kd) h17 (a18.add 3) t16 fun h19 =>
    Q () h19) ∧
    (t9 = false →
    Q () h7))
def cells_Arena_note.mk : Mk := (.s .d (.c (.q [] [] [.p 0, .p 1, .p 2, .p 3, .p 5, .p 6, .p 7, .p 9, .p 10, .p 11, .p 12, .p 13, .w 4 [4, 16, 17, 18, 19], .w 8 [8, 14, 15, 16, 17, 18, 19], .p 14, .o 15, .o 16, .p 17, .p 18, .o 19]) .d))

def cells_Arena_outside.M (c_cells_ledger_has : Option Addr → Int → Heap → (Bool → Heap → Prop) → Prop) (a1 : Option Addr) (addr2 : Int) (h3 : Heap) (Q : Bool → Heap → Prop) : Prop :=
    (((Option.isNone a1) = true →
    Q true h3) ∧
    ((Option.isNone a1) = false →
    deref a1 fun a4 =>
    c_cells_ledger_has (some (a4.add 0)) addr2 h3 fun r5 h6 =>
    Q (!r5) h6))
def cells_Arena_outside.mk : Mk := (.s .d (.s .d .d))

def cells_ledger_has.M  (l1 : Option Addr) (addr2 : Int) (h3 : Heap) (Q : Bool → Heap → Prop) : Prop :=
    (((decide ((0 : Int) ≤ addr2)) = true →
    deref l1 fun a4 =>
    ld ((.int .i64) : Kd) h3 (a4.add 1) fun t5 =>
    Q (decide (addr2 < t5)) h3) ∧
    ((decide ((0 : Int) ≤ addr2)) = false →
    Q false h3))
def cells_ledger_has.mk : Mk := (.s .d (.s .d .d))

def cells_Arena_Load.M (c_cells_Arena_outside : Option Addr → Int → Heap → (Bool → Heap → Prop) → Prop) (c_cells_Arena_note : Option Addr → Int → Int → Int → Int → Bool → Heap → (Unit → Heap → Prop) → Prop) (a1 : Option Addr) (addr2 : Int) (h3 : Heap) (Q : Den kparkLot → Heap → Prop) : Prop :=
    c_cells_Arena_outside a1 addr2 h3 fun r4 h5 =>
    ((r4 = true →
    Q (0, 20, ()) h5) ∧
    (r4 = false →
    deref a1 fun a6 =>
    ld (.sl : Kd) h5 (a6.add 2) fun t7 =>
    (0 ≤ addr2 ∧ addr2 < (t7.len : Int)) ∧
    deref t7.a fun a8 =>
    ld ((.int .i64) : Kd) h5 (a8.add ((addr2 : Int).toNat * 1)) fun t9 =>
    c_cells_Arena_note a1 0 addr2 t9 0 true h5 fun r10 h11 =>
    Q (t9, 0, ()) h11))
def cells_Arena_Load.mk : Mk := (.s .d (.s (.s .d (.c (.s .d .d) .d)) (.s .d (.s .d (.s .d .d)))))

def law3_Deny_Reserve.M (c_law3_Deny_refuses : Option Addr → Heap → (Bool → Heap → Prop) → Prop) (c_cells_Arena_Reserve : Option Addr → Int → Heap → (Den kparkLot → Heap → Prop) → Prop) (m1 : Option Addr) (n2 : Int) (h3 : Heap) (Q : Den kparkLot → Heap → Prop) : Prop :=
    c_law3_Deny_refuses m1 h3 fun r4 h5 =>
    ((r4 = true →
    Q (0, 77, ()) h5) ∧
    (r4 = false →
    deref m1 fun a6 =>
    ld (.ptr : Kd) h5 (a6.add 0) fun t7 =>
    c_cells_Arena_Reserve t7 n2 h5 fun r8 h9 =>
    Q (r8.1, r8.2.1, ()) h9))
def law3_Deny_Reserve.mk : Mk := (.s .d (.s (.s .d (.c (.s .d .d) .d)) (.s .d .d)))

def law3_Deny_Store.M (c_law3_Deny_refuses : Option Addr → Heap → (Bool → Heap → Prop) → Prop) (c_cells_Arena_Store : Option Addr → Int → Int → Heap → (Int → Heap → Prop) → Prop) (m1 : Option Addr) (addr2 : Int) (v3 : Int) (h4 : Heap) (Q : Int → Heap → Prop) : Prop :=
    c_law3_Deny_refuses m1 h4 fun r5 h6 =>
    ((r5 = true →
    Q 77 h6) ∧
    (r5 = false →
    deref m1 fun a7 =>
    ld (.ptr : Kd) h6 (a7.add 0) fun t8 =>
    c_cells_Arena_Store t8 addr2 v3 h6 fun r9 h10 =>
    Q r9 h10))
def law3_Deny_Store.mk : Mk := (.s .d (.s (.s .d (.c (.s .d .d) .d)) (.s .d .d)))

def law3_Deny_refuses.M  (m1 : Option Addr) (h2 : Heap) (Q : Bool → Heap → Prop) : Prop :=
    deref m1 fun a3 =>
    ld ((.int .i64) : Kd) h2 (a3.add 2) fun t4 =>
    deref m1 fun a5 =>
    st ((.int .i64) : Kd) h2 (a5.add 2) (w64 (t4 + 1)) fun h6 =>
    deref m1 fun a7 =>
    deref m1 fun a8 =>
    ld ((.int .i64) : Kd) h6 (a7.add 2) fun t9 =>
    ld ((.int .i64) : Kd) h6 (a8.add 1) fun t10 =>
    Q (decide (t10 < t9)) h6
def law3_Deny_refuses.mk : Mk := (.s .d (.s .d (.s (.q [] [] [.p 0, .p 1, .p 2, .p 4, .p 5, .p 6, .w 3 [3, 8, 9], .w 7 [7, 8, 9], .p 8, .p 9]) .d)))

end Go.Mx
