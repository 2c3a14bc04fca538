/-
  What the functions of this seat come to over abstract heaps: printed by a program of this workplace.
-/
import Derived.Test.YtppehoailhjdfaaMxN
set_option linter.unusedVariables false
namespace Go.Mx
abbrev kref3Mem : Kd := (.pair .sl (.pair (.int .i64) (.pair (.int .i64) (.pair .sl .nil))))
abbrev kparkLot : Kd := (.pair (.int .i64) (.pair (.int .i64) .nil))
abbrev kdequeOp : Kd := (.pair (.int .i64) (.pair (.int .i64) (.pair kparkLot (.pair (.int .i64) (.pair (.int .i64) (.pair (.int .i64) (.pair (.int .i64) (.pair (.int .i64) (.pair (.int .i64) (.pair (.int .i64) (.pair (.int .i64) (.pair (.int .i64) (.pair .bool kparkLot)))))))))))))
abbrev kref3Op : Kd := (.pair (.int .i64) (.pair kparkLot (.pair (.int .i64) (.pair .sl (.pair .bool .nil)))))
abbrev klaw3Move : Kd := (.pair (.int .i64) kparkLot)
abbrev kref3Want : Kd := (.pair (.int .i64) (.pair (.int .i64) (.pair (.int .i64) klaw3Move)))
abbrev klaw3Turn : Kd := (.pair (.int .i64) (.pair .bool (.pair .bool (.pair (.int .i64) .nil))))
abbrev kparkstate : Kd := (.pair kparkLot (.pair (.int .i64) kref3Want))
abbrev kparkOp : Kd := (.pair kparkstate (.pair (.arr 64 kparkLot) (.pair kdequeOp .nil)))
abbrev kref9Op : Kd := (.pair (.int .i64) (.pair (.int .i64) (.pair (.int .i64) (.pair (.int .i64) (.pair kparkLot (.pair .sl klaw3Move))))))
abbrev kcellsArena : Kd := (.pair kparkLot (.pair .sl (.pair .sl (.pair (.int .i64) (.pair .bool .nil)))))
abbrev kapiAccess : Kd := (.pair (.int .i64) (.pair (.int .i64) (.pair (.int .i64) (.pair (.int .i64) (.pair (.int .i64) (.pair .bool .nil))))))
abbrev klaw3Deny : Kd := (.pair .ptr kparkLot)
-- @T p_law3_Deny 131
-- @T p_cells_Arena 24

def law9_ParkNew.j1 (c_park_New : Value → Int → Heap → ((Den kparkLot × (Int × Unit)) → Heap → Prop) → Prop) (c_park_Cells : Int → Heap → (Int → Heap → Prop) → Prop) (c_ref9_Cells : Int → Heap → (Int → Heap → Prop) → Prop) (workers3 : Int) (Q : Bool → Heap → Prop) (s23 : Unit) (h24 : Heap) : Prop :=
    c_park_New Value.nilIface workers3 h24 fun r25 h26 =>
    (((decide (r25.2.1 = 1)) = true →
    (((decide (r25.1.1 = 0)) = true →
    (((decide (r25.1.2.1 = 0)) = true →
    c_park_Cells workers3 h26 fun r27 h28 =>
    c_ref9_Cells workers3 h28 fun r29 h30 =>
    Q (decide (r27 = r29)) h30) ∧
    ((decide (r25.1.2.1 = 0)) = false →
    Q false h26))) ∧
    ((decide (r25.1.1 = 0)) = false →
    Q false h26))) ∧
    ((decide (r25.2.1 = 1)) = false →
    Q false h26))
def law9_ParkNew.j2 (c_park_New : Value → Int → Heap → ((Den kparkLot × (Int × Unit)) → Heap → Prop) → Prop) (c_park_Cells : Int → Heap → (Int → Heap → Prop) → Prop) (c_ref9_Cells : Int → Heap → (Int → Heap → Prop) → Prop) (workers3 : Int) (Q : Bool → Heap → Prop) (s31 : (Bool × Unit)) (h32 : Heap) : Prop :=
    ((s31.1 = true →
    Q false h32) ∧
    (s31.1 = false →
    law9_ParkNew.j1 c_park_New c_park_Cells c_ref9_Cells workers3 Q () h32))
def law9_ParkNew.j3 (c_park_New : Value → Int → Heap → ((Den kparkLot × (Int × Unit)) → Heap → Prop) → Prop) (c_cells_Arena_Cells : Option Addr → Heap → (Sl → Heap → Prop) → Prop) (c_law9_sameInts : Sl → Sl → Heap → (Bool → Heap → Prop) → Prop) (c_cells_Arena_Log : Option Addr → Heap → (Sl → Heap → Prop) → Prop) (c_law9_sameLog : Sl → Sl → Heap → (Bool → Heap → Prop) → Prop) (c_park_Cells : Int → Heap → (Int → Heap → Prop) → Prop) (c_ref9_Cells : Int → Heap → (Int → Heap → Prop) → Prop) (workers3 : Int) (Q : Bool → Heap → Prop) (r9 : (Option Addr × (Bool × Unit))) (p15 : Addr) (s21 : Unit) (h22 : Heap) : Prop :=
    ld (.sl : Kd) h22 (p15.add 0) fun t33 =>
    c_cells_Arena_Cells r9.1 h22 fun r34 h35 =>
    sees h35 (some (p15.add 0)) (.sl : Kd) t33 ∧
    c_law9_sameInts r34 t33 h35 fun r36 h37 =>
    (((!r36) = true →
    law9_ParkNew.j2 c_park_New c_park_Cells c_ref9_Cells workers3 Q (true, ()) h37) ∧
    ((!r36) = false →
    ld (.sl : Kd) h37 (p15.add 3) fun t38 =>
    c_cells_Arena_Log r9.1 h37 fun r39 h40 =>
    sees h40 (some (p15.add 3)) (.sl : Kd) t38 ∧
    c_law9_sameLog r39 t38 h40 fun r41 h42 =>
    law9_ParkNew.j2 c_park_New c_park_Cells c_ref9_Cells workers3 Q ((!r41), ()) h42))
def law9_ParkNew.j4 (c_park_New : Value → Int → Heap → ((Den kparkLot × (Int × Unit)) → Heap → Prop) → Prop) (c_cells_Arena_Cells : Option Addr → Heap → (Sl → Heap → Prop) → Prop) (c_law9_sameInts : Sl → Sl → Heap → (Bool → Heap → Prop) → Prop) (c_cells_Arena_Log : Option Addr → Heap → (Sl → Heap → Prop) → Prop) (c_law9_sameLog : Sl → Sl → Heap → (Bool → Heap → Prop) → Prop) (c_park_Cells : Int → Heap → (Int → Heap → Prop) → Prop) (c_ref9_Cells : Int → Heap → (Int → Heap → Prop) → Prop) (workers3 : Int) (Q : Bool → Heap → Prop) (r9 : (Option Addr × (Bool × Unit))) (p15 : Addr) (s43 : (Bool × Unit)) (h44 : Heap) : Prop :=
    ((s43.1 = true →
    Q false h44) ∧
    (s43.1 = false →
    law9_ParkNew.j3 c_park_New c_cells_Arena_Cells c_law9_sameInts c_cells_Arena_Log c_law9_sameLog c_park_Cells c_ref9_Cells workers3 Q r9 p15 () h44))
def law9_ParkNew.j5 (c_law9_arena : Int → Sl → Heap → ((Option Addr × (Bool × Unit)) → Heap → Prop) → Prop) (c_park_New : Value → Int → Heap → ((Den kparkLot × (Int × Unit)) → Heap → Prop) → Prop) (c_ref9_New : Option Addr → Int → Heap → ((Den kparkLot × (Int × Unit)) → Heap → Prop) → Prop) (c_cells_Arena_Cells : Option Addr → Heap → (Sl → Heap → Prop) → Prop) (c_law9_sameInts : Sl → Sl → Heap → (Bool → Heap → Prop) → Prop) (c_cells_Arena_Log : Option Addr → Heap → (Sl → Heap → Prop) → Prop) (c_law9_sameLog : Sl → Sl → Heap → (Bool → Heap → Prop) → Prop) (c_park_Cells : Int → Heap → (Int → Heap → Prop) → Prop) (c_ref9_Cells : Int → Heap → (Int → Heap → Prop) → Prop) (workers3 : Int) (Q : Bool → Heap → Prop) (r5 : Int) (s7 : (Sl × Unit)) (h8 : Heap) : Prop :=
    c_law9_arena r5 s7.1 h8 fun r9 h10 =>
    (((!r9.2.1) = true →
    Q false h10) ∧
    ((!r9.2.1) = false →
    new h10 (([] : List (Den ((.int .i64) : Kd))).flatMap (Kd.cells ((.int .i64) : Kd))) fun p11 h12 =>
    appendM 1 8 h12 ⟨some p11, 0, 0⟩ s7.1 fun t13 h14 =>
    new h14 (kref3Mem.cells (t13, (r5, (0, (Sl.none, ()))))) fun p15 h16 =>
    c_park_New (Value.iface 24 (Kd.val (.ptr : Kd) r9.1)) workers3 h16 fun r17 h18 =>
    c_ref9_New (some p15) workers3 h18 fun r19 h20 =>
    (((decide (r17.2.1 ≠ r19.2.1)) = true →
    law9_ParkNew.j4 c_park_New c_cells_Arena_Cells c_law9_sameInts c_cells_Arena_Log c_law9_sameLog c_park_Cells c_ref9_Cells workers3 Q r9 p15 (true, ()) h20) ∧
    ((decide (r17.2.1 ≠ r19.2.1)) = false →
    (((decide (r17.1.1 ≠ r19.1.1)) = true →
    law9_ParkNew.j4 c_park_New c_cells_Arena_Cells c_law9_sameInts c_cells_Arena_Log c_law9_sameLog c_park_Cells c_ref9_Cells workers3 Q r9 p15 (true, ()) h20) ∧
    ((decide (r17.1.1 ≠ r19.1.1)) = false →
    law9_ParkNew.j4 c_park_New c_cells_Arena_Cells c_law9_sameInts c_cells_Arena_Log c_law9_sameLog c_park_Cells c_ref9_Cells workers3 Q r9 p15 ((decide (r17.1.2.1 ≠ r19.1.2.1)), ()) h20))))))
def law9_ParkNew.M (c_law9_mod : Int → Int → Heap → (Int → Heap → Prop) → Prop) (c_law9_arena : Int → Sl → Heap → ((Option Addr × (Bool × Unit)) → Heap → Prop) → Prop) (c_park_New : Value → Int → Heap → ((Den kparkLot × (Int × Unit)) → Heap → Prop) → Prop) (c_ref9_New : Option Addr → Int → Heap → ((Den kparkLot × (Int × Unit)) → Heap → Prop) → Prop) (c_cells_Arena_Cells : Option Addr → Heap → (Sl → Heap → Prop) → Prop) (c_law9_sameInts : Sl → Sl → Heap → (Bool → Heap → Prop) → Prop) (c_cells_Arena_Log : Option Addr → Heap → (Sl → Heap → Prop) → Prop) (c_law9_sameLog : Sl → Sl → Heap → (Bool → Heap → Prop) → Prop) (c_park_Cells : Int → Heap → (Int → Heap → Prop) → Prop) (c_ref9_Cells : Int → Heap → (Int → Heap → Prop) → Prop) (size1 : Int) (begin2 : Sl) (workers3 : Int) (h4 : Heap) (Q : Bool → Heap → Prop) : Prop :=
    c_law9_mod size1 4097 h4 fun r5 h6 =>
    (((decide (r5 < (begin2.len : Int))) = true →
    (0 ≤ r5 ∧ r5 ≤ (begin2.cap : Int)) ∧
    law9_ParkNew.j5 c_law9_arena c_park_New c_ref9_New c_cells_Arena_Cells c_law9_sameInts c_cells_Arena_Log c_law9_sameLog c_park_Cells c_ref9_Cells workers3 Q r5 ((begin2.cut 0 ((r5 : Int).toNat) 1), ()) h6) ∧
    ((decide (r5 < (begin2.len : Int))) = false →
    law9_ParkNew.j5 c_law9_arena c_park_New c_ref9_New c_cells_Arena_Cells c_law9_sameInts c_cells_Arena_Log c_law9_sameLog c_park_Cells c_ref9_Cells workers3 Q r5 (begin2, ()) h6))
def law9_ParkNew.mk : Mk := (.s .d (.s .d (.j [.slot 1 .sl] (.s .d (.c .d .d)) (.s .d (.s (.s .d (.c (.s .d .d) .d)) (.s .d (.s (.r [7]) (.s (.r [6]) (.j [] (.j [.slot 68 .bool] .d (.c (.s .d .d) .d)) (.j [] (.j [.slot 86 .bool] (.q [] [] [.p 0, .p 2, .p 3, .p 4, .w 5 [5, 6, 7, 8, 9, 10, 11, 12, 13, 14, 15, 16, 17], .o 1, .o 6, .p 7, .p 8, .p 9, .p 11, .p 12, .p 13, .w 14 [14, 15, 16, 17], .o 10, .o 15, .p 16, .p 17]) (.c (.s .d .d) .d)) (.s (.r [5]) (.s .d .d))))))))))))

def law3_DequeNew.j1 (c_deque_Cells : Int → Int → Heap → (Int → Heap → Prop) → Prop) (c_ref3_Cells : Int → Int → Heap → (Int → Heap → Prop) → Prop) (first3 : Int) (most4 : Int) (Q : Bool → Heap → Prop) (s28 : Unit) (h29 : Heap) : Prop :=
    c_deque_Cells first3 most4 h29 fun r30 h31 =>
    c_ref3_Cells first3 most4 h31 fun r32 h33 =>
    Q (decide (r30 = r32)) h33
def law3_DequeNew.j2 (c_deque_Cells : Int → Int → Heap → (Int → Heap → Prop) → Prop) (c_ref3_Cells : Int → Int → Heap → (Int → Heap → Prop) → Prop) (first3 : Int) (most4 : Int) (Q : Bool → Heap → Prop) (s34 : (Bool × Unit)) (h35 : Heap) : Prop :=
    ((s34.1 = true →
    Q false h35) ∧
    (s34.1 = false →
    law3_DequeNew.j1 c_deque_Cells c_ref3_Cells first3 most4 Q () h35))
def law3_DequeNew.j3 (c_deque_New : Value → Int → Int → Heap → ((Den kparkLot × (Int × Unit)) → Heap → Prop) → Prop) (c_law3_stops : Int → Heap → (Bool → Heap → Prop) → Prop) (c_deque_Cells : Int → Int → Heap → (Int → Heap → Prop) → Prop) (c_ref3_Cells : Int → Int → Heap → (Int → Heap → Prop) → Prop) (first3 : Int) (most4 : Int) (Q : Bool → Heap → Prop) (s24 : Unit) (h25 : Heap) : Prop :=
    c_deque_New Value.nilIface first3 most4 h25 fun r26 h27 =>
    (((decide (r26.2.1 ≠ 1)) = true →
    law3_DequeNew.j2 c_deque_Cells c_ref3_Cells first3 most4 Q (true, ()) h27) ∧
    ((decide (r26.2.1 ≠ 1)) = false →
    (((decide (r26.1.1 ≠ 0)) = true →
    law3_DequeNew.j2 c_deque_Cells c_ref3_Cells first3 most4 Q (true, ()) h27) ∧
    ((decide (r26.1.1 ≠ 0)) = false →
    (((decide (r26.1.2.1 ≠ 0)) = true →
    law3_DequeNew.j2 c_deque_Cells c_ref3_Cells first3 most4 Q (true, ()) h27) ∧
    ((decide (r26.1.2.1 ≠ 0)) = false →
    c_law3_stops first3 h27 fun r36 h37 =>
    law3_DequeNew.j2 c_deque_Cells c_ref3_Cells first3 most4 Q ((!r36), ()) h37))))))
def law3_DequeNew.j4 (c_deque_New : Value → Int → Int → Heap → ((Den kparkLot × (Int × Unit)) → Heap → Prop) → Prop) (c_law3_stops : Int → Heap → (Bool → Heap → Prop) → Prop) (c_deque_Cells : Int → Int → Heap → (Int → Heap → Prop) → Prop) (c_ref3_Cells : Int → Int → Heap → (Int → Heap → Prop) → Prop) (first3 : Int) (most4 : Int) (Q : Bool → Heap → Prop) (s38 : (Bool × Unit)) (h39 : Heap) : Prop :=
    ((s38.1 = true →
    Q false h39) ∧
    (s38.1 = false →
    law3_DequeNew.j3 c_deque_New c_law3_stops c_deque_Cells c_ref3_Cells first3 most4 Q () h39))
def law3_DequeNew.j5 (c_deque_New : Value → Int → Int → Heap → ((Den kparkLot × (Int × Unit)) → Heap → Prop) → Prop) (c_cells_Arena_Cells : Option Addr → Heap → (Sl → Heap → Prop) → Prop) (c_law3_sameInts : Sl → Sl → Heap → (Bool → Heap → Prop) → Prop) (c_cells_Arena_Log : Option Addr → Heap → (Sl → Heap → Prop) → Prop) (c_law3_sameLog : Sl → Sl → Heap → (Bool → Heap → Prop) → Prop) (c_law3_stops : Int → Heap → (Bool → Heap → Prop) → Prop) (c_deque_Cells : Int → Int → Heap → (Int → Heap → Prop) → Prop) (c_ref3_Cells : Int → Int → Heap → (Int → Heap → Prop) → Prop) (first3 : Int) (most4 : Int) (Q : Bool → Heap → Prop) (r10 : (Option Addr × (Bool × Unit))) (p16 : Addr) (s22 : Unit) (h23 : Heap) : Prop :=
    ld (.sl : Kd) h23 (p16.add 0) fun t40 =>
    c_cells_Arena_Cells r10.1 h23 fun r41 h42 =>
    sees h42 (some (p16.add 0)) (.sl : Kd) t40 ∧
    c_law3_sameInts r41 t40 h42 fun r43 h44 =>
    (((!r43) = true →
    law3_DequeNew.j4 c_deque_New c_law3_stops c_deque_Cells c_ref3_Cells first3 most4 Q (true, ()) h44) ∧
    ((!r43) = false →
    ld (.sl : Kd) h44 (p16.add 3) fun t45 =>
    c_cells_Arena_Log r10.1 h44 fun r46 h47 =>
    sees h47 (some (p16.add 3)) (.sl : Kd) t45 ∧
    c_law3_sameLog r46 t45 h47 fun r48 h49 =>
    law3_DequeNew.j4 c_deque_New c_law3_stops c_deque_Cells c_ref3_Cells first3 most4 Q ((!r48), ()) h49))
def law3_DequeNew.j6 (c_deque_New : Value → Int → Int → Heap → ((Den kparkLot × (Int × Unit)) → Heap → Prop) → Prop) (c_cells_Arena_Cells : Option Addr → Heap → (Sl → Heap → Prop) → Prop) (c_law3_sameInts : Sl → Sl → Heap → (Bool → Heap → Prop) → Prop) (c_cells_Arena_Log : Option Addr → Heap → (Sl → Heap → Prop) → Prop) (c_law3_sameLog : Sl → Sl → Heap → (Bool → Heap → Prop) → Prop) (c_law3_stops : Int → Heap → (Bool → Heap → Prop) → Prop) (c_deque_Cells : Int → Int → Heap → (Int → Heap → Prop) → Prop) (c_ref3_Cells : Int → Int → Heap → (Int → Heap → Prop) → Prop) (first3 : Int) (most4 : Int) (Q : Bool → Heap → Prop) (r10 : (Option Addr × (Bool × Unit))) (p16 : Addr) (s50 : (Bool × Unit)) (h51 : Heap) : Prop :=
    ((s50.1 = true →
    Q false h51) ∧
    (s50.1 = false →
    law3_DequeNew.j5 c_deque_New c_cells_Arena_Cells c_law3_sameInts c_cells_Arena_Log c_law3_sameLog c_law3_stops c_deque_Cells c_ref3_Cells first3 most4 Q r10 p16 () h51))
def law3_DequeNew.j7 (c_law3_arena : Int → Sl → Heap → ((Option Addr × (Bool × Unit)) → Heap → Prop) → Prop) (c_deque_New : Value → Int → Int → Heap → ((Den kparkLot × (Int × Unit)) → Heap → Prop) → Prop) (c_ref3_New : Option Addr → Int → Int → Heap → ((Den kparkLot × (Int × Unit)) → Heap → Prop) → Prop) (c_cells_Arena_Cells : Option Addr → Heap → (Sl → Heap → Prop) → Prop) (c_law3_sameInts : Sl → Sl → Heap → (Bool → Heap → Prop) → Prop) (c_cells_Arena_Log : Option Addr → Heap → (Sl → Heap → Prop) → Prop) (c_law3_sameLog : Sl → Sl → Heap → (Bool → Heap → Prop) → Prop) (c_law3_stops : Int → Heap → (Bool → Heap → Prop) → Prop) (c_deque_Cells : Int → Int → Heap → (Int → Heap → Prop) → Prop) (c_ref3_Cells : Int → Int → Heap → (Int → Heap → Prop) → Prop) (first3 : Int) (most4 : Int) (Q : Bool → Heap → Prop) (r6 : Int) (s8 : (Sl × Unit)) (h9 : Heap) : Prop :=
    c_law3_arena r6 s8.1 h9 fun r10 h11 =>
    (((!r10.2.1) = true →
    Q false h11) ∧
    ((!r10.2.1) = false →
    new h11 (([] : List (Den ((.int .i64) : Kd))).flatMap (Kd.cells ((.int .i64) : Kd))) fun p12 h13 =>
    appendM 1 8 h13 ⟨some p12, 0, 0⟩ s8.1 fun t14 h15 =>
    new h15 (kref3Mem.cells (t14, (r6, (0, (Sl.none, ()))))) fun p16 h17 =>
    c_deque_New (Value.iface 24 (Kd.val (.ptr : Kd) r10.1)) first3 most4 h17 fun r18 h19 =>
    c_ref3_New (some p16) first3 most4 h19 fun r20 h21 =>
    (((decide (r18.2.1 ≠ r20.2.1)) = true →
    law3_DequeNew.j6 c_deque_New c_cells_Arena_Cells c_law3_sameInts c_cells_Arena_Log c_law3_sameLog c_law3_stops c_deque_Cells c_ref3_Cells first3 most4 Q r10 p16 (true, ()) h21) ∧
    ((decide (r18.2.1 ≠ r20.2.1)) = false →
    (((decide (r18.1.1 ≠ r20.1.1)) = true →
    law3_DequeNew.j6 c_deque_New c_cells_Arena_Cells c_law3_sameInts c_cells_Arena_Log c_law3_sameLog c_law3_stops c_deque_Cells c_ref3_Cells first3 most4 Q r10 p16 (true, ()) h21) ∧
    ((decide (r18.1.1 ≠ r20.1.1)) = false →
    law3_DequeNew.j6 c_deque_New c_cells_Arena_Cells c_law3_sameInts c_cells_Arena_Log c_law3_sameLog c_law3_stops c_deque_Cells c_ref3_Cells first3 most4 Q r10 p16 ((decide (r18.1.2.1 ≠ r20.1.2.1)), ()) h21))))))
def law3_DequeNew.M (c_law3_mod : Int → Int → Heap → (Int → Heap → Prop) → Prop) (c_law3_arena : Int → Sl → Heap → ((Option Addr × (Bool × Unit)) → Heap → Prop) → Prop) (c_deque_New : Value → Int → Int → Heap → ((Den kparkLot × (Int × Unit)) → Heap → Prop) → Prop) (c_ref3_New : Option Addr → Int → Int → Heap → ((Den kparkLot × (Int × Unit)) → Heap → Prop) → Prop) (c_cells_Arena_Cells : Option Addr → Heap → (Sl → Heap → Prop) → Prop) (c_law3_sameInts : Sl → Sl → Heap → (Bool → Heap → Prop) → Prop) (c_cells_Arena_Log : Option Addr → Heap → (Sl → Heap → Prop) → Prop) (c_law3_sameLog : Sl → Sl → Heap → (Bool → Heap → Prop) → Prop) (c_law3_stops : Int → Heap → (Bool → Heap → Prop) → Prop) (c_deque_Cells : Int → Int → Heap → (Int → Heap → Prop) → Prop) (c_ref3_Cells : Int → Int → Heap → (Int → Heap → Prop) → Prop) (size1 : Int) (begin2 : Sl) (first3 : Int) (most4 : Int) (h5 : Heap) (Q : Bool → Heap → Prop) : Prop :=
    c_law3_mod size1 4097 h5 fun r6 h7 =>
    (((decide (r6 < (begin2.len : Int))) = true →
    (0 ≤ r6 ∧ r6 ≤ (begin2.cap : Int)) ∧
    law3_DequeNew.j7 c_law3_arena c_deque_New c_ref3_New c_cells_Arena_Cells c_law3_sameInts c_cells_Arena_Log c_law3_sameLog c_law3_stops c_deque_Cells c_ref3_Cells first3 most4 Q r6 ((begin2.cut 0 ((r6 : Int).toNat) 1), ()) h7) ∧
    ((decide (r6 < (begin2.len : Int))) = false →
    law3_DequeNew.j7 c_law3_arena c_deque_New c_ref3_New c_cells_Arena_Cells c_law3_sameInts c_cells_Arena_Log c_law3_sameLog c_law3_stops c_deque_Cells c_ref3_Cells first3 most4 Q r6 (begin2, ()) h7))
def law3_DequeNew.mk : Mk := (.s .d (.s .d (.j [.slot 1 .sl] (.s .d (.c .d .d)) (.s .d (.s (.s .d (.c (.s .d .d) .d)) (.s .d (.s (.r [8]) (.s (.r [7]) (.j [] (.j [.slot 72 .bool] .d (.c (.s .d .d) .d)) (.j [] (.j [.slot 90 .bool] (.q [] [] [.p 0, .p 2, .p 3, .p 4, .w 5 [5, 6, 7, 8, 9, 10, 11, 12, 13, 14, 15, 16, 17], .o 1, .o 6, .p 7, .p 8, .p 9, .p 11, .p 12, .p 13, .w 14 [14, 15, 16, 17], .o 10, .o 15, .p 16, .p 17]) (.c (.s .d .d) .d)) (.s (.r [6]) (.j [] (.j [.slot 113 .bool] .d (.c (.s .d .d) .d)) (.s .d .d)))))))))))))

def law3_DequeMicro.j1 (go27 : (Int × (((Fin 4 → Den kdequeOp) × Unit) × Unit)) → Heap → Prop) (s25 : (Int × (((Fin 4 → Den kdequeOp) × Unit) × Unit))) (s28 : (((Fin 4 → Den kdequeOp) × Unit) × Unit)) (h29 : Heap) : Prop :=
    go27 ((w64 (s25.1 + 1)), (s28.1.1, ()), ()) h29
def law3_DequeMicro.j2 (Q : Bool → Heap → Prop) (go27 : (Int × (((Fin 4 → Den kdequeOp) × Unit) × Unit)) → Heap → Prop) (s25 : (Int × (((Fin 4 → Den kdequeOp) × Unit) × Unit))) (s34 : (Int × (((Fin 4 → Den kdequeOp) × Unit) × Unit))) (s41 : (Bool × Unit)) (h42 : Heap) : Prop :=
    ((s41.1 = true →
    Q false h42) ∧
    (s41.1 = false →
    law3_DequeMicro.j1 go27 s25 ((s34.2.1.1, ()), ()) h42))
def law3_DequeMicro.j3 (c_deque_Answer : Den kdequeOp → Heap → (Den kparkLot → Heap → Prop) → Prop) (c_ref3_Answer : Den kref3Op → Heap → (Den kparkLot → Heap → Prop) → Prop) (Q : Bool → Heap → Prop) (p19 : Addr) (go27 : (Int × (((Fin 4 → Den kdequeOp) × Unit) × Unit)) → Heap → Prop) (s25 : (Int × (((Fin 4 → Den kdequeOp) × Unit) × Unit))) (s34 : (Int × (((Fin 4 → Den kdequeOp) × Unit) × Unit))) (h35 : Heap) : Prop :=
    (0 ≤ s34.1 ∧ s34.1 < (4 : Int)) ∧
    c_deque_Answer (aget (n := 4) (a := kdequeOp) s34.2.1.1 (s34.1 : Int).toNat) h35 fun r36 h37 =>
    (0 ≤ s34.1 ∧ s34.1 < (4 : Int)) ∧
    ld kref3Op h37 (p19.add ((s34.1 : Int).toNat * 6)) fun t38 =>
    c_ref3_Answer t38 h37 fun r39 h40 =>
    (((decide (r36.1 ≠ r39.1)) = true →
    law3_DequeMicro.j2 Q go27 s25 s34 (true, ()) h40) ∧
    ((decide (r36.1 ≠ r39.1)) = false →
    law3_DequeMicro.j2 Q go27 s25 s34 ((decide (r36.2.1 ≠ r39.2.1)), ()) h40))
def law3_DequeMicro.j4 (c_law3_born : Den klaw3Move → Int → Int → Heap → ((Den kdequeOp × (Den kref3Op × Unit)) → Heap → Prop) → Prop) (c_cells_Arena_Who : Option Addr → Int → Heap → (Unit → Heap → Prop) → Prop) (c_deque_Step : Value → Den kdequeOp → Heap → (Den kdequeOp → Heap → Prop) → Prop) (c_ref3_Step : Option Addr → Den kref3Op → Heap → (Den kref3Op → Heap → Prop) → Prop) (c_ref3_Next : Den kref3Op → Heap → (Den kref3Want → Heap → Prop) → Prop) (c_cells_New : Int → Heap → ((Option Addr × (Int × Unit)) → Heap → Prop) → Prop) (c_deque_Answer : Den kdequeOp → Heap → (Den kparkLot → Heap → Prop) → Prop) (c_ref3_Answer : Den kref3Op → Heap → (Den kparkLot → Heap → Prop) → Prop) (Q : Bool → Heap → Prop) (s9 : (Int × Den kref3Mem)) (r11 : (Option Addr × (Bool × Unit))) (p17 : Addr) (p19 : Addr) (go27 : (Int × (((Fin 4 → Den kdequeOp) × Unit) × Unit)) → Heap → Prop) (s25 : (Int × (((Fin 4 → Den kdequeOp) × Unit) × Unit))) (t31 : Den klaw3Move) (r32 : Int) (s43 : (Bool × Unit)) (h44 : Heap) : Prop :=
    ((s43.1 = true →
    c_law3_born (t31.1, (t31.2.1, (t31.2.2.1, ()))) s9.2.2.1 s9.2.2.2.1 h44 fun r45 h46 =>
    (0 ≤ r32 ∧ r32 < (4 : Int)) ∧
    (0 ≤ r32 ∧ r32 < (4 : Int)) ∧
    st kref3Op h46 (p19.add ((r32 : Int).toNat * 6)) (r45.2.1.1, ((r45.2.1.2.1.1, (r45.2.1.2.1.2.1, ())), (r45.2.1.2.2.1, (r45.2.1.2.2.2.1, (r45.2.1.2.2.2.2.1, ()))))) fun h47 =>
    law3_DequeMicro.j3 c_deque_Answer c_ref3_Answer Q p19 go27 s25 (r32, ((aset (n := 4) (a := kdequeOp) s25.2.1.1 (r32 : Int).toNat (r45.1.1, (r45.1.2.1, ((r45.1.2.2.1.1, (r45.1.2.2.1.2.1, ())), (r45.1.2.2.2.1, (r45.1.2.2.2.2.1, (r45.1.2.2.2.2.2.1, (r45.1.2.2.2.2.2.2.1, (r45.1.2.2.2.2.2.2.2.1, (r45.1.2.2.2.2.2.2.2.2.1, (r45.1.2.2.2.2.2.2.2.2.2.1, (r45.1.2.2.2.2.2.2.2.2.2.2.1, (r45.1.2.2.2.2.2.2.2.2.2.2.2.1, (r45.1.2.2.2.2.2.2.2.2.2.2.2.2.1, (r45.1.2.2.2.2.2.2.2.2.2.2.2.2.2.1, (r45.1.2.2.2.2.2.2.2.2.2.2.2.2.2.2.1, ())))))))))))))))), ()), ()) h47) ∧
    (s43.1 = false →
    (((decide (t31.1 = 5)) = true →
    c_cells_Arena_Who r11.1 r32 h44 fun r48 h49 =>
    st ((.int .i64) : Kd) h49 (p17.add 2) r32 fun h50 =>
    (0 ≤ r32 ∧ r32 < (4 : Int)) ∧
    c_deque_Step (Value.iface 24 (Kd.val (.ptr : Kd) r11.1)) (aget (n := 4) (a := kdequeOp) s25.2.1.1 (r32 : Int).toNat) h50 fun r51 h52 =>
    (0 ≤ r32 ∧ r32 < (4 : Int)) ∧
    (0 ≤ r32 ∧ r32 < (4 : Int)) ∧
    ld kref3Op h52 (p19.add ((r32 : Int).toNat * 6)) fun t53 =>
    c_ref3_Step (some p17) t53 h52 fun r54 h55 =>
    (0 ≤ r32 ∧ r32 < (4 : Int)) ∧
    st kref3Op h55 (p19.add ((r32 : Int).toNat * 6)) r54 fun h56 =>
    law3_DequeMicro.j3 c_deque_Answer c_ref3_Answer Q p19 go27 s25 (r32, ((aset (n := 4) (a := kdequeOp) s25.2.1.1 (r32 : Int).toNat r51), ()), ()) h56) ∧
    ((decide (t31.1 = 5)) = false →
    (((decide (t31.1 = 6)) = true →
    (0 ≤ r32 ∧ r32 < (4 : Int)) ∧
    c_deque_Step Value.nilIface (aget (n := 4) (a := kdequeOp) s25.2.1.1 (r32 : Int).toNat) h44 fun r57 h58 =>
    (0 ≤ r32 ∧ r32 < (4 : Int)) ∧
    (0 ≤ r32 ∧ r32 < (4 : Int)) ∧
    ld kref3Op h58 (p19.add ((r32 : Int).toNat * 6)) fun t59 =>
    c_ref3_Next t59 h58 fun r60 h61 =>
    (0 ≤ r32 ∧ r32 < (4 : Int)) ∧
    ld (.bool : Kd) h61 ((p19.add ((r32 : Int).toNat * 6)).add 5) fun t62 =>
    ((t62 = true →
    (0 ≤ r32 ∧ r32 < (4 : Int)) ∧
    st (.bool : Kd) h61 ((p19.add ((r32 : Int).toNat * 6)).add 5) true fun h63 =>
    law3_DequeMicro.j3 c_deque_Answer c_ref3_Answer Q p19 go27 s25 (r32, ((aset (n := 4) (a := kdequeOp) s25.2.1.1 (r32 : Int).toNat r57), ()), ()) h63) ∧
    (t62 = false →
    (0 ≤ r32 ∧ r32 < (4 : Int)) ∧
    st (.bool : Kd) h61 ((p19.add ((r32 : Int).toNat * 6)).add 5) (decide ((0 : Int) ≤ r60.1)) fun h64 =>
    law3_DequeMicro.j3 c_deque_Answer c_ref3_Answer Q p19 go27 s25 (r32, ((aset (n := 4) (a := kdequeOp) s25.2.1.1 (r32 : Int).toNat r57), ()), ()) h64))) ∧
    ((decide (t31.1 = 6)) = false →
    (((decide (t31.1 = 8)) = true →
    c_cells_New 0 h44 fun r65 h66 =>
    (((decide (r65.2.1 ≠ 0)) = true →
    Q false h66) ∧
    ((decide (r65.2.1 ≠ 0)) = false →
    (0 ≤ r32 ∧ r32 < (4 : Int)) ∧
    c_deque_Step (Value.iface 24 (Kd.val (.ptr : Kd) r65.1)) (aget (n := 4) (a := kdequeOp) s25.2.1.1 (r32 : Int).toNat) h66 fun r67 h68 =>
    (0 ≤ r32 ∧ r32 < (4 : Int)) ∧
    new h68 (kref3Mem.cells (Sl.none, (0, (0, (Sl.none, ()))))) fun p69 h70 =>
    (0 ≤ r32 ∧ r32 < (4 : Int)) ∧
    ld kref3Op h70 (p19.add ((r32 : Int).toNat * 6)) fun t71 =>
    c_ref3_Step (some p69) t71 h70 fun r72 h73 =>
    (0 ≤ r32 ∧ r32 < (4 : Int)) ∧
    st kref3Op h73 (p19.add ((r32 : Int).toNat * 6)) r72 fun h74 =>
    law3_DequeMicro.j3 c_deque_Answer c_ref3_Answer Q p19 go27 s25 (r32, ((aset (n := 4) (a := kdequeOp) s25.2.1.1 (r32 : Int).toNat r67), ()), ()) h74))) ∧
    ((decide (t31.1 = 8)) = false →
    (((decide (t31.1 = 7)) = true →
    (4 : Int) ≠ 0 ∧
    (0 ≤ r32 ∧ r32 < (4 : Int)) ∧
    (0 ≤ (Int.tmod (w64 (r32 + 1)) 4) ∧ (Int.tmod (w64 (r32 + 1)) 4) < (4 : Int)) ∧
    (4 : Int) ≠ 0 ∧
    (0 ≤ r32 ∧ r32 < (4 : Int)) ∧
    ld kref3Op h44 (p19.add ((r32 : Int).toNat * 6)) fun t75 =>
    (0 ≤ (Int.tmod (w64 (r32 + 1)) 4) ∧ (Int.tmod (w64 (r32 + 1)) 4) < (4 : Int)) ∧
    st kref3Op h44 (p19.add (((Int.tmod (w64 (r32 + 1)) 4) : Int).toNat * 6)) t75 fun h76 =>
    (4 : Int) ≠ 0 ∧
    law3_DequeMicro.j3 c_deque_Answer c_ref3_Answer Q p19 go27 s25 ((Int.tmod (w64 (r32 + 1)) 4), ((aset (n := 4) (a := kdequeOp) s25.2.1.1 ((Int.tmod (w64 (r32 + 1)) 4) : Int).toNat (aget (n := 4) (a := kdequeOp) s25.2.1.1 (r32 : Int).toNat)), ()), ()) h76) ∧
    ((decide (t31.1 = 7)) = false →
    law3_DequeMicro.j3 c_deque_Answer c_ref3_Answer Q p19 go27 s25 (r32, (s25.2.1.1, ()), ()) h44))))))))))
def law3_DequeMicro.l5 (c_law3_mod : Int → Int → Heap → (Int → Heap → Prop) → Prop) (c_law3_born : Den klaw3Move → Int → Int → Heap → ((Den kdequeOp × (Den kref3Op × Unit)) → Heap → Prop) → Prop) (c_cells_Arena_Who : Option Addr → Int → Heap → (Unit → Heap → Prop) → Prop) (c_deque_Step : Value → Den kdequeOp → Heap → (Den kdequeOp → Heap → Prop) → Prop) (c_ref3_Step : Option Addr → Den kref3Op → Heap → (Den kref3Op → Heap → Prop) → Prop) (c_ref3_Next : Den kref3Op → Heap → (Den kref3Want → Heap → Prop) → Prop) (c_cells_New : Int → Heap → ((Option Addr × (Int × Unit)) → Heap → Prop) → Prop) (c_deque_Answer : Den kdequeOp → Heap → (Den kparkLot → Heap → Prop) → Prop) (c_ref3_Answer : Den kref3Op → Heap → (Den kparkLot → Heap → Prop) → Prop) (c_cells_Arena_Cells : Option Addr → Heap → (Sl → Heap → Prop) → Prop) (c_law3_sameInts : Sl → Sl → Heap → (Bool → Heap → Prop) → Prop) (c_cells_Arena_Log : Option Addr → Heap → (Sl → Heap → Prop) → Prop) (c_law3_sameLog : Sl → Sl → Heap → (Bool → Heap → Prop) → Prop) (Q : Bool → Heap → Prop) (s9 : (Int × Den kref3Mem)) (r11 : (Option Addr × (Bool × Unit))) (p17 : Addr) (p19 : Addr) (go27 : (Int × (((Fin 4 → Den kdequeOp) × Unit) × Unit)) → Heap → Prop) (s25 : (Int × (((Fin 4 → Den kdequeOp) × Unit) × Unit))) (h26 : Heap) : Prop :=
    (((decide (s25.1 < (s9.2.2.2.2.1.len : Int))) = true →
    (0 ≤ s25.1 ∧ s25.1 < (s9.2.2.2.2.1.len : Int)) ∧
    deref s9.2.2.2.2.1.a fun a30 =>
    ld klaw3Move h26 (a30.add ((s25.1 : Int).toNat * 3)) fun t31 =>
    c_law3_mod t31.2.1 4 h26 fun r32 h33 =>
    (((decide (t31.1 = 0)) = true →
    law3_DequeMicro.j4 c_law3_born c_cells_Arena_Who c_deque_Step c_ref3_Step c_ref3_Next c_cells_New c_deque_Answer c_ref3_Answer Q s9 r11 p17 p19 go27 s25 t31 r32 ((decide (t31.1 = 0)), ()) h33) ∧
    ((decide (t31.1 = 0)) = false →
    (((decide (t31.1 = 1)) = true →
    law3_DequeMicro.j4 c_law3_born c_cells_Arena_Who c_deque_Step c_ref3_Step c_ref3_Next c_cells_New c_deque_Answer c_ref3_Answer Q s9 r11 p17 p19 go27 s25 t31 r32 ((decide (t31.1 = 1)), ()) h33) ∧
    ((decide (t31.1 = 1)) = false →
    (((decide (t31.1 = 2)) = true →
    law3_DequeMicro.j4 c_law3_born c_cells_Arena_Who c_deque_Step c_ref3_Step c_ref3_Next c_cells_New c_deque_Answer c_ref3_Answer Q s9 r11 p17 p19 go27 s25 t31 r32 ((decide (t31.1 = 2)), ()) h33) ∧
    ((decide (t31.1 = 2)) = false →
    (((decide (t31.1 = 3)) = true →
    law3_DequeMicro.j4 c_law3_born c_cells_Arena_Who c_deque_Step c_ref3_Step c_ref3_Next c_cells_New c_deque_Answer c_ref3_Answer Q s9 r11 p17 p19 go27 s25 t31 r32 ((decide (t31.1 = 3)), ()) h33) ∧
    ((decide (t31.1 = 3)) = false →
    law3_DequeMicro.j4 c_law3_born c_cells_Arena_Who c_deque_Step c_ref3_Step c_ref3_Next c_cells_New c_deque_Answer c_ref3_Answer Q s9 r11 p17 p19 go27 s25 t31 r32 ((decide (t31.1 = 4)), ()) h33))))))))) ∧
    ((decide (s25.1 < (s9.2.2.2.2.1.len : Int))) = false →
    ld (.sl : Kd) h26 (p17.add 0) fun t77 =>
    c_cells_Arena_Cells r11.1 h26 fun r78 h79 =>
    sees h79 (some (p17.add 0)) (.sl : Kd) t77 ∧
    c_law3_sameInts r78 t77 h79 fun r80 h81 =>
    ((r80 = true →
    ld (.sl : Kd) h81 (p17.add 3) fun t82 =>
    c_cells_Arena_Log r11.1 h81 fun r83 h84 =>
    sees h84 (some (p17.add 3)) (.sl : Kd) t82 ∧
    c_law3_sameLog r83 t82 h84 fun r85 h86 =>
    Q r85 h86) ∧
    (r80 = false →
    Q false h81))))
def law3_DequeMicro.l6 (c_law3_mod : Int → Int → Heap → (Int → Heap → Prop) → Prop) (c_law3_born : Den klaw3Move → Int → Int → Heap → ((Den kdequeOp × (Den kref3Op × Unit)) → Heap → Prop) → Prop) (c_cells_Arena_Who : Option Addr → Int → Heap → (Unit → Heap → Prop) → Prop) (c_deque_Step : Value → Den kdequeOp → Heap → (Den kdequeOp → Heap → Prop) → Prop) (c_ref3_Step : Option Addr → Den kref3Op → Heap → (Den kref3Op → Heap → Prop) → Prop) (c_ref3_Next : Den kref3Op → Heap → (Den kref3Want → Heap → Prop) → Prop) (c_cells_New : Int → Heap → ((Option Addr × (Int × Unit)) → Heap → Prop) → Prop) (c_deque_Answer : Den kdequeOp → Heap → (Den kparkLot → Heap → Prop) → Prop) (c_ref3_Answer : Den kref3Op → Heap → (Den kparkLot → Heap → Prop) → Prop) (c_cells_Arena_Cells : Option Addr → Heap → (Sl → Heap → Prop) → Prop) (c_law3_sameInts : Sl → Sl → Heap → (Bool → Heap → Prop) → Prop) (c_cells_Arena_Log : Option Addr → Heap → (Sl → Heap → Prop) → Prop) (c_law3_sameLog : Sl → Sl → Heap → (Bool → Heap → Prop) → Prop) (Q : Bool → Heap → Prop) (s9 : (Int × Den kref3Mem)) (r11 : (Option Addr × (Bool × Unit))) (p17 : Addr) (p19 : Addr) (go23 : (Int × Unit) → Heap → Prop) (s21 : (Int × Unit)) (h22 : Heap) : Prop :=
    (((decide (s21.1 < 4)) = true →
    (0 ≤ s21.1 ∧ s21.1 < (4 : Int)) ∧
    st ((.int .i64) : Kd) h22 ((p19.add ((s21.1 : Int).toNat * 6)).add 0) 4 fun h24 =>
    go23 ((w64 (s21.1 + 1)), ()) h24) ∧
    ((decide (s21.1 < 4)) = false →
    Loop (law3_DequeMicro.l5 c_law3_mod c_law3_born c_cells_Arena_Who c_deque_Step c_ref3_Step c_ref3_Next c_cells_New c_deque_Answer c_ref3_Answer c_cells_Arena_Cells c_law3_sameInts c_cells_Arena_Log c_law3_sameLog Q s9 r11 p17 p19) (0, ((fun _ => (0, (0, ((0, (0, ())), (0, (0, (0, (0, (0, (0, (0, (0, (0, (false, (0, (0, ())))))))))))))))), ()), ()) h22))
def law3_DequeMicro.k7 (c_law3_mod : Int → Int → Heap → (Int → Heap → Prop) → Prop) (c_law3_arena : Int → Sl → Heap → ((Option Addr × (Bool × Unit)) → Heap → Prop) → Prop) (c_law3_born : Den klaw3Move → Int → Int → Heap → ((Den kdequeOp × (Den kref3Op × Unit)) → Heap → Prop) → Prop) (c_cells_Arena_Who : Option Addr → Int → Heap → (Unit → Heap → Prop) → Prop) (c_deque_Step : Value → Den kdequeOp → Heap → (Den kdequeOp → Heap → Prop) → Prop) (c_ref3_Step : Option Addr → Den kref3Op → Heap → (Den kref3Op → Heap → Prop) → Prop) (c_ref3_Next : Den kref3Op → Heap → (Den kref3Want → Heap → Prop) → Prop) (c_cells_New : Int → Heap → ((Option Addr × (Int × Unit)) → Heap → Prop) → Prop) (c_deque_Answer : Den kdequeOp → Heap → (Den kparkLot → Heap → Prop) → Prop) (c_ref3_Answer : Den kref3Op → Heap → (Den kparkLot → Heap → Prop) → Prop) (c_cells_Arena_Cells : Option Addr → Heap → (Sl → Heap → Prop) → Prop) (c_law3_sameInts : Sl → Sl → Heap → (Bool → Heap → Prop) → Prop) (c_cells_Arena_Log : Option Addr → Heap → (Sl → Heap → Prop) → Prop) (c_law3_sameLog : Sl → Sl → Heap → (Bool → Heap → Prop) → Prop) (Q : Bool → Heap → Prop) (s9 : (Int × Den kref3Mem)) (h10 : Heap) : Prop :=
    c_law3_arena s9.1 s9.2.1 h10 fun r11 h12 =>
    (((!r11.2.1) = true →
    Q false h12) ∧
    ((!r11.2.1) = false →
    new h12 (([] : List (Den ((.int .i64) : Kd))).flatMap (Kd.cells ((.int .i64) : Kd))) fun p13 h14 =>
    appendM 1 8 h14 ⟨some p13, 0, 0⟩ s9.2.1 fun t15 h16 =>
    new h16 (kref3Mem.cells (t15, (s9.1, (0, (Sl.none, ()))))) fun p17 h18 =>
    new h18 (((.arr 4 kref3Op) : Kd).cells (((.arr 4 kref3Op) : Kd).zero)) fun p19 h20 =>
    Loop (law3_DequeMicro.l6 c_law3_mod c_law3_born c_cells_Arena_Who c_deque_Step c_ref3_Step c_ref3_Next c_cells_New c_deque_Answer c_ref3_Answer c_cells_Arena_Cells c_law3_sameInts c_cells_Arena_Log c_law3_sameLog Q s9 r11 p17 p19) (0, ()) h20))
def law3_DequeMicro.M (c_law3_mod : Int → Int → Heap → (Int → Heap → Prop) → Prop) (c_law3_arena : Int → Sl → Heap → ((Option Addr × (Bool × Unit)) → Heap → Prop) → Prop) (c_law3_born : Den klaw3Move → Int → Int → Heap → ((Den kdequeOp × (Den kref3Op × Unit)) → Heap → Prop) → Prop) (c_cells_Arena_Who : Option Addr → Int → Heap → (Unit → Heap → Prop) → Prop) (c_deque_Step : Value → Den kdequeOp → Heap → (Den kdequeOp → Heap → Prop) → Prop) (c_ref3_Step : Option Addr → Den kref3Op → Heap → (Den kref3Op → Heap → Prop) → Prop) (c_ref3_Next : Den kref3Op → Heap → (Den kref3Want → Heap → Prop) → Prop) (c_cells_New : Int → Heap → ((Option Addr × (Int × Unit)) → Heap → Prop) → Prop) (c_deque_Answer : Den kdequeOp → Heap → (Den kparkLot → Heap → Prop) → Prop) (c_ref3_Answer : Den kref3Op → Heap → (Den kparkLot → Heap → Prop) → Prop) (c_cells_Arena_Cells : Option Addr → Heap → (Sl → Heap → Prop) → Prop) (c_law3_sameInts : Sl → Sl → Heap → (Bool → Heap → Prop) → Prop) (c_cells_Arena_Log : Option Addr → Heap → (Sl → Heap → Prop) → Prop) (c_law3_sameLog : Sl → Sl → Heap → (Bool → Heap → Prop) → Prop) (size1 : Int) (begin2 : Sl) (base3 : Int) (most4 : Int) (moves5 : Sl) (h6 : Heap) (Q : Bool → Heap → Prop) : Prop :=
    c_law3_mod size1 4097 h6 fun r7 h8 =>
    (((decide (r7 < (begin2.len : Int))) = true →
    (0 ≤ r7 ∧ r7 ≤ (begin2.cap : Int)) ∧
    law3_DequeMicro.k7 c_law3_mod c_law3_arena c_law3_born c_cells_Arena_Who c_deque_Step c_ref3_Step c_ref3_Next c_cells_New c_deque_Answer c_ref3_Answer c_cells_Arena_Cells c_law3_sameInts c_cells_Arena_Log c_law3_sameLog Q (r7, (begin2.cut 0 ((r7 : Int).toNat) 1), base3, most4, moves5, ()) h8) ∧
    ((decide (r7 < (begin2.len : Int))) = false →
    law3_DequeMicro.k7 c_law3_mod c_law3_arena c_law3_born c_cells_Arena_Who c_deque_Step c_ref3_Step c_ref3_Next c_cells_New c_deque_Answer c_ref3_Answer c_cells_Arena_Cells c_law3_sameInts c_cells_Arena_Log c_law3_sameLog Q (r7, begin2, base3, most4, moves5, ()) h8))
def law3_DequeMicro.mk : Mk := (.s .d (.s .d (.k [.slot 0 (.int .i64), .slot 1 .sl, .slot 2 (.int .i64), .slot 3 (.int .i64), .slot 4 .sl] [] (.s .d (.c .d .d)) (.s .d (.s (.s .d (.c (.s .d .d) .d)) (.s .d (.s (.r [0]) (.s .d (.s (.s .d (.b (.l [.slot 16 (.int .i64)] (.s (.s .d (.c .d .d)) (.s (.b .d) .d))))) (.s (.s .d (.b (.l [.slot 17 (.int .i64), .box 14 (.pair (.arr 4 kdequeOp) .nil)] (.s (.s .d (.c .d .d)) (.j [.box 14 (.pair (.arr 4 kdequeOp) .nil)] (.b (.s (.r [4]) (.s .d (.j [.slot 19 (.int .i64), .box 14 (.pair (.arr 4 kdequeOp) .nil)] (.s .d (.b (.j [.slot 74 .bool] (.s .d (.c .d (.s .d (.c .d (.s .d (.c .d (.s .d (.c .d .d)))))))) (.c (.s (.r [7, 8]) (.s .d .d)) (.s .d (.c (.s .d (.s .d (.s .d .d))) (.s .d (.c (.s .d (.s (.r [4]) .d)) (.s .d (.c (.s .d (.s (.s .d (.c (.s .d .d) .d)) (.s .d .d))) (.s .d (.c (.s .d (.s .d .d)) .d)))))))))))) (.s .d (.s .d (.j [.slot 205 .bool] .d (.c (.s .d .d) .d)))))))) .d))))) (.s (.q [] [] [.p 0, .p 2, .p 3, .p 4, .w 5 [5, 6, 7, 8, 9, 10, 11, 12, 13, 14, 15, 16], .o 1, .o 6, .p 7, .p 8, .p 10, .p 11, .p 12, .w 13 [13, 14, 15, 16], .o 9, .o 14, .p 15, .p 16]) .d)))))))))))

def law9_mod.j1 (Q : Int → Heap → Prop) (s4 : (Int × Unit)) (h5 : Heap) : Prop :=
    Q s4.1 h5
def law9_mod.M  (x1 : Int) (n2 : Int) (h3 : Heap) (Q : Int → Heap → Prop) : Prop :=
    n2 ≠ 0 ∧
    (((decide ((Int.tmod x1 n2) < 0)) = true →
    law9_mod.j1 Q ((w64 ((Int.tmod x1 n2) + n2)), ()) h3) ∧
    ((decide ((Int.tmod x1 n2) < 0)) = false →
    law9_mod.j1 Q ((Int.tmod x1 n2), ()) h3))
def law9_mod.mk : Mk := (.s .d (.s .d (.j [.slot 5 (.int .i64)] (.s .d (.c .d .d)) (.s .d .d))))

def law9_arena.l1 (c_cells_Arena_Store : Option Addr → Int → Int → Heap → (Int → Heap → Prop) → Prop) (c_cells_Arena_Watch : Option Addr → Bool → Heap → (Unit → Heap → Prop) → Prop) (begin2 : Sl) (Q : (Option Addr × (Bool × Unit)) → Heap → Prop) (r4 : (Option Addr × (Int × Unit))) (go12 : (Int × Unit) → Heap → Prop) (s10 : (Int × Unit)) (h11 : Heap) : Prop :=
    (((decide (s10.1 < (begin2.len : Int))) = true →
    (0 ≤ s10.1 ∧ s10.1 < (begin2.len : Int)) ∧
    deref begin2.a fun a13 =>
    ld ((.int .i64) : Kd) h11 (a13.add ((s10.1 : Int).toNat * 1)) fun t14 =>
    c_cells_Arena_Store r4.1 s10.1 t14 h11 fun r15 h16 =>
    (((decide (r15 ≠ 0)) = true →
    Q (none, false, ()) h16) ∧
    ((decide (r15 ≠ 0)) = false →
    go12 ((w64 (s10.1 + 1)), ()) h16))) ∧
    ((decide (s10.1 < (begin2.len : Int))) = false →
    c_cells_Arena_Watch r4.1 true h11 fun r17 h18 =>
    Q (r4.1, true, ()) h18))
def law9_arena.j2 (c_cells_Arena_Store : Option Addr → Int → Int → Heap → (Int → Heap → Prop) → Prop) (c_cells_Arena_Watch : Option Addr → Bool → Heap → (Unit → Heap → Prop) → Prop) (begin2 : Sl) (Q : (Option Addr × (Bool × Unit)) → Heap → Prop) (r4 : (Option Addr × (Int × Unit))) (s8 : Unit) (h9 : Heap) : Prop :=
    Loop (law9_arena.l1 c_cells_Arena_Store c_cells_Arena_Watch begin2 Q r4) (0, ()) h9
def law9_arena.j3 (c_cells_Arena_Store : Option Addr → Int → Int → Heap → (Int → Heap → Prop) → Prop) (c_cells_Arena_Watch : Option Addr → Bool → Heap → (Unit → Heap → Prop) → Prop) (begin2 : Sl) (Q : (Option Addr × (Bool × Unit)) → Heap → Prop) (r4 : (Option Addr × (Int × Unit))) (s21 : (Bool × Unit)) (h22 : Heap) : Prop :=
    ((s21.1 = true →
    Q (none, false, ()) h22) ∧
    (s21.1 = false →
    law9_arena.j2 c_cells_Arena_Store c_cells_Arena_Watch begin2 Q r4 () h22))
def law9_arena.j4 (c_cells_Arena_Reserve : Option Addr → Int → Heap → (Den kparkLot → Heap → Prop) → Prop) (c_cells_Arena_Store : Option Addr → Int → Int → Heap → (Int → Heap → Prop) → Prop) (c_cells_Arena_Watch : Option Addr → Bool → Heap → (Unit → Heap → Prop) → Prop) (begin2 : Sl) (Q : (Option Addr × (Bool × Unit)) → Heap → Prop) (r4 : (Option Addr × (Int × Unit))) (s6 : Unit) (h7 : Heap) : Prop :=
    (((decide ((0 : Int) < (begin2.len : Int))) = true →
    c_cells_Arena_Reserve r4.1 (begin2.len : Int) h7 fun r19 h20 =>
    (((decide (r19.2.1 ≠ 0)) = true →
    law9_arena.j3 c_cells_Arena_Store c_cells_Arena_Watch begin2 Q r4 (true, ()) h20) ∧
    ((decide (r19.2.1 ≠ 0)) = false →
    law9_arena.j3 c_cells_Arena_Store c_cells_Arena_Watch begin2 Q r4 ((decide (r19.1 ≠ 0)), ()) h20))) ∧
    ((decide ((0 : Int) < (begin2.len : Int))) = false →
    law9_arena.j2 c_cells_Arena_Store c_cells_Arena_Watch begin2 Q r4 () h7))
def law9_arena.j5 (c_cells_Arena_Reserve : Option Addr → Int → Heap → (Den kparkLot → Heap → Prop) → Prop) (c_cells_Arena_Store : Option Addr → Int → Int → Heap → (Int → Heap → Prop) → Prop) (c_cells_Arena_Watch : Option Addr → Bool → Heap → (Unit → Heap → Prop) → Prop) (begin2 : Sl) (Q : (Option Addr × (Bool × Unit)) → Heap → Prop) (r4 : (Option Addr × (Int × Unit))) (s23 : (Bool × Unit)) (h24 : Heap) : Prop :=
    ((s23.1 = true →
    Q (none, false, ()) h24) ∧
    (s23.1 = false →
    law9_arena.j4 c_cells_Arena_Reserve c_cells_Arena_Store c_cells_Arena_Watch begin2 Q r4 () h24))
def law9_arena.M (c_cells_New : Int → Heap → ((Option Addr × (Int × Unit)) → Heap → Prop) → Prop) (c_cells_Arena_Reserve : Option Addr → Int → Heap → (Den kparkLot → Heap → Prop) → Prop) (c_cells_Arena_Store : Option Addr → Int → Int → Heap → (Int → Heap → Prop) → Prop) (c_cells_Arena_Watch : Option Addr → Bool → Heap → (Unit → Heap → Prop) → Prop) (size1 : Int) (begin2 : Sl) (h3 : Heap) (Q : (Option Addr × (Bool × Unit)) → Heap → Prop) : Prop :=
    c_cells_New size1 h3 fun r4 h5 =>
    (((decide (r4.2.1 ≠ 0)) = true →
    law9_arena.j5 c_cells_Arena_Reserve c_cells_Arena_Store c_cells_Arena_Watch begin2 Q r4 (true, ()) h5) ∧
    ((decide (r4.2.1 ≠ 0)) = false →
    law9_arena.j5 c_cells_Arena_Reserve c_cells_Arena_Store c_cells_Arena_Watch begin2 Q r4 ((Option.isNone r4.1), ()) h5))
def law9_arena.mk : Mk := (.s .d (.s .d (.j [] (.j [.slot 22 .bool] .d (.c (.s .d .d) .d)) (.j [] (.s .d (.c (.s .d (.j [.slot 38 .bool] .d (.c (.s .d .d) .d))) .d)) (.s (.s .d (.b (.l [.slot 10 (.int .i64)] (.s (.s .d (.c .d .d)) (.s (.b (.s .d (.s .d (.c (.s .d .d) .d)))) .d))))) (.s .d (.s .d .d)))))))

def park_New.M (c_park_Cells : Int → Heap → (Int → Heap → Prop) → Prop) (c_inv_Reserve : Value → Int → Heap → (Den kparkLot → Heap → Prop) → Prop) (c_nil : Value → Prop) (m1 : Value) (workers2 : Int) (h3 : Heap) (Q : (Den kparkLot × (Int × Unit)) → Heap → Prop) : Prop :=
    isI m1 ∧
    (((isNilI m1) = true →
    Q ((0, (0, ())), 1, ()) h3) ∧
    ((isNilI m1) = false →
    c_park_Cells workers2 h3 fun r4 h5 =>
    (((decide (r4 = 0)) = true →
    Q ((0, (0, ())), 3, ()) h5) ∧
    ((decide (r4 = 0)) = false →
    c_nil (Value.func (.method "Reserve") (List.toArray [Kd.val (.iface : Kd) m1]) (List.toArray [])) ∧
    c_park_Cells workers2 h5 fun r6 h7 =>
    c_inv_Reserve m1 r6 h7 fun r8 h9 =>
    (((decide (r8.2.1 ≠ 0)) = true →
    Q ((0, (0, ())), r8.2.1, ()) h9) ∧
    ((decide (r8.2.1 ≠ 0)) = false →
    Q ((r8.1, (workers2, ())), 0, ()) h9))))))
def park_New.mk : Mk := (.s (.r [0]) (.s (.s .d (.c (.s .d .d) .d)) (.s (.s .d (.c (.s .d .d) .d)) (.s (.q [] [] [.p 0, .p 1, .p 3, .p 4, .p 5, .o 2, .o 6, .p 7, .p 8, .p 9, .p 10, .p 11]) (.s (.s .d (.c (.s .d .d) .d)) (.s .d .d))))))

def ref9_New.j1 (c_ref3_Mem_Do : Option Addr → Den kref3Want → Heap → ((Int × (Bool × Unit)) → Heap → Prop) → Prop) (m1 : Option Addr) (workers2 : Int) (Q : (Den kparkLot × (Int × Unit)) → Heap → Prop) (s4 : (Den kparkLot × Unit)) (h5 : Heap) : Prop :=
    c_ref3_Mem_Do m1 (4, (0, ((w64 (2 + workers2)), (0, (0, (0, ())))))) h5 fun r6 h7 =>
    (((!r6.2.1) = true →
    Q ((0, (0, ())), 22, ()) h7) ∧
    ((!r6.2.1) = false →
    Q ((r6.1, (workers2, ())), 0, ()) h7))
def ref9_New.j2 (c_ref3_Mem_Do : Option Addr → Den kref3Want → Heap → ((Int × (Bool × Unit)) → Heap → Prop) → Prop) (m1 : Option Addr) (workers2 : Int) (Q : (Den kparkLot × (Int × Unit)) → Heap → Prop) (s8 : (Bool × Unit)) (h9 : Heap) : Prop :=
    ((s8.1 = true →
    Q ((0, (0, ())), 3, ()) h9) ∧
    (s8.1 = false →
    ref9_New.j1 c_ref3_Mem_Do m1 workers2 Q ((0, (0, ())), ()) h9))
def ref9_New.M (c_ref3_Mem_Do : Option Addr → Den kref3Want → Heap → ((Int × (Bool × Unit)) → Heap → Prop) → Prop) (m1 : Option Addr) (workers2 : Int) (h3 : Heap) (Q : (Den kparkLot × (Int × Unit)) → Heap → Prop) : Prop :=
    (((decide (workers2 < 1)) = true →
    ref9_New.j2 c_ref3_Mem_Do m1 workers2 Q (true, ()) h3) ∧
    ((decide (workers2 < 1)) = false →
    ref9_New.j2 c_ref3_Mem_Do m1 workers2 Q ((decide ((64 : Int) < workers2)), ()) h3))
def ref9_New.mk : Mk := (.s (.r [0]) (.j [.box 4 kparkLot] (.j [.slot 13 .bool] .d (.c (.s .d .d) .d)) (.s .d (.s (.s .d (.c (.s .d .d) .d)) (.s .d .d)))))

def law9_sameInts.l1 (a1 : Sl) (b2 : Sl) (Q : Bool → Heap → Prop) (go6 : (Int × Unit) → Heap → Prop) (s4 : (Int × Unit)) (h5 : Heap) : Prop :=
    (((decide (s4.1 < (a1.len : Int))) = true →
    (0 ≤ s4.1 ∧ s4.1 < (a1.len : Int)) ∧
    deref a1.a fun a7 =>
    (0 ≤ s4.1 ∧ s4.1 < (b2.len : Int)) ∧
    deref b2.a fun a8 =>
    ld ((.int .i64) : Kd) h5 (a7.add ((s4.1 : Int).toNat * 1)) fun t9 =>
    ld ((.int .i64) : Kd) h5 (a8.add ((s4.1 : Int).toNat * 1)) fun t10 =>
    (((decide (t9 ≠ t10)) = true →
    Q false h5) ∧
    ((decide (t9 ≠ t10)) = false →
    go6 ((w64 (s4.1 + 1)), ()) h5))) ∧
    ((decide (s4.1 < (a1.len : Int))) = false →
    Q true h5))
def law9_sameInts.M  (a1 : Sl) (b2 : Sl) (h3 : Heap) (Q : Bool → Heap → Prop) : Prop :=
    (((decide ((a1.len : Int) ≠ (b2.len : Int))) = true →
    Q false h3) ∧
    ((decide ((a1.len : Int) ≠ (b2.len : Int))) = false →
    Loop (law9_sameInts.l1 a1 b2 Q) (0, ()) h3))
def law9_sameInts.mk : Mk := (.s .d (.s (.s .d (.c (.s .d .d) .d)) (.s (.s .d (.b (.l [.slot 5 (.int .i64)] (.s (.s .d (.c .d .d)) (.s (.b (.s (.q [] [] [.p 0, .p 1, .p 2, .p 4, .p 5, .p 6, .w 3 [3, 8], .w 7 [7, 8], .p 8]) (.c (.s .d .d) .d))) .d))))) (.s .d .d))))

def cells_Arena_Cells.M  (a1 : Option Addr) (h2 : Heap) (Q : Sl → Heap → Prop) : Prop :=
    (((Option.isNone a1) = true →
    Q ⟨none, 0, 0⟩ h2) ∧
    ((Option.isNone a1) = false →
    deref a1 fun a3 =>
    ld (.sl : Kd) h2 (a3.add 2) fun t4 =>
    makeM ((.int .i64) : Kd) 8 h2 (t4.len : Int) (t4.len : Int) fun s5 h6 =>
    deref a1 fun a7 =>
    ld (.sl : Kd) h6 (a7.add 2) fun t8 =>
    copyM 1 h6 s5 t8 fun n9 h10 =>
    Q s5 h10))
def cells_Arena_Cells.mk : Mk := (.s .d (.s (.s .d (.c (.s .d .d) .d)) (.s .d (.s .d (.s .d .d)))))

def law9_sameLog.l1 (a1 : Sl) (b2 : Sl) (Q : Bool → Heap → Prop) (go6 : (Int × Unit) → Heap → Prop) (s4 : (Int × Unit)) (h5 : Heap) : Prop :=
    (((decide (s4.1 < (a1.len : Int))) = true →
    (0 ≤ s4.1 ∧ s4.1 < (a1.len : Int)) ∧
    deref a1.a fun a7 =>
    (0 ≤ s4.1 ∧ s4.1 < (b2.len : Int)) ∧
    deref b2.a fun a8 =>
    ld kapiAccess h5 (a7.add ((s4.1 : Int).toNat * 6)) fun t9 =>
    ld kapiAccess h5 (a8.add ((s4.1 : Int).toNat * 6)) fun t10 =>
    (((!(eqK kapiAccess t9 t10)) = true →
    Q false h5) ∧
    ((!(eqK kapiAccess t9 t10)) = false →
    go6 ((w64 (s4.1 + 1)), ()) h5))) ∧
    ((decide (s4.1 < (a1.len : Int))) = false →
    Q true h5))
def law9_sameLog.M  (a1 : Sl) (b2 : Sl) (h3 : Heap) (Q : Bool → Heap → Prop) : Prop :=
    (((decide ((a1.len : Int) ≠ (b2.len : Int))) = true →
    Q false h3) ∧
    ((decide ((a1.len : Int) ≠ (b2.len : Int))) = false →
    Loop (law9_sameLog.l1 a1 b2 Q) (0, ()) h3))
def law9_sameLog.mk : Mk := (.s .d (.s (.s .d (.c (.s .d .d) .d)) (.s (.s .d (.b (.l [.slot 5 (.int .i64)] (.s (.s .d (.c .d .d)) (.s (.b (.s (.q [] [] [.p 0, .p 1, .p 2, .p 4, .p 5, .p 6, .w 3 [3, 8], .w 7 [7, 8], .p 8]) (.c (.s .d .d) .d))) .d))))) (.s .d .d))))

def cells_Arena_Log.M  (a1 : Option Addr) (h2 : Heap) (Q : Sl → Heap → Prop) : Prop :=
    (((Option.isNone a1) = true →
    Q ⟨none, 0, 0⟩ h2) ∧
    ((Option.isNone a1) = false →
    deref a1 fun a3 =>
    ld (.sl : Kd) h2 (a3.add 3) fun t4 =>
    makeM kapiAccess 48 h2 (t4.len : Int) (t4.len : Int) fun s5 h6 =>
    deref a1 fun a7 =>
    ld (.sl : Kd) h6 (a7.add 3) fun t8 =>
    copyM 6 h6 s5 t8 fun n9 h10 =>
    Q s5 h10))
def cells_Arena_Log.mk : Mk := (.s .d (.s (.s .d (.c (.s .d .d) .d)) (.s .d (.s .d (.s .d .d)))))

def park_Cells.j1 (workers1 : Int) (Q : Int → Heap → Prop) (s3 : Unit) (h4 : Heap) : Prop :=
    Q (w64 (2 + workers1)) h4
def park_Cells.j2 (workers1 : Int) (Q : Int → Heap → Prop) (s5 : (Bool × Unit)) (h6 : Heap) : Prop :=
    ((s5.1 = true →
    Q 0 h6) ∧
    (s5.1 = false →
    park_Cells.j1 workers1 Q () h6))
def park_Cells.M  (workers1 : Int) (h2 : Heap) (Q : Int → Heap → Prop) : Prop :=
    (((decide (workers1 < 1)) = true →
    park_Cells.j2 workers1 Q (true, ()) h2) ∧
    ((decide (workers1 < 1)) = false →
    park_Cells.j2 workers1 Q ((decide ((64 : Int) < workers1)), ()) h2))
def park_Cells.mk : Mk := (.s .d (.j [] (.j [.slot 8 .bool] .d (.c (.s .d .d) .d)) (.s .d .d)))

def ref9_Cells.j1 (workers1 : Int) (Q : Int → Heap → Prop) (s3 : Unit) (h4 : Heap) : Prop :=
    Q (w64 (2 + workers1)) h4
def ref9_Cells.j2 (workers1 : Int) (Q : Int → Heap → Prop) (s5 : (Bool × Unit)) (h6 : Heap) : Prop :=
    ((s5.1 = true →
    Q 0 h6) ∧
    (s5.1 = false →
    ref9_Cells.j1 workers1 Q () h6))
def ref9_Cells.M  (workers1 : Int) (h2 : Heap) (Q : Int → Heap → Prop) : Prop :=
    (((decide (workers1 < 1)) = true →
    ref9_Cells.j2 workers1 Q (true, ()) h2) ∧
    ((decide (workers1 < 1)) = false →
    ref9_Cells.j2 workers1 Q ((decide ((64 : Int) < workers1)), ()) h2))
def ref9_Cells.mk : Mk := (.s .d (.j [] (.j [.slot 8 .bool] .d (.c (.s .d .d) .d)) (.s .d .d)))

def law3_mod.j1 (Q : Int → Heap → Prop) (s4 : (Int × Unit)) (h5 : Heap) : Prop :=
    Q s4.1 h5
def law3_mod.M  (x1 : Int) (n2 : Int) (h3 : Heap) (Q : Int → Heap → Prop) : Prop :=
    n2 ≠ 0 ∧
    (((decide ((Int.tmod x1 n2) < 0)) = true →
    law3_mod.j1 Q ((w64 ((Int.tmod x1 n2) + n2)), ()) h3) ∧
    ((decide ((Int.tmod x1 n2) < 0)) = false →
    law3_mod.j1 Q ((Int.tmod x1 n2), ()) h3))
def law3_mod.mk : Mk := (.s .d (.s .d (.j [.slot 5 (.int .i64)] (.s .d (.c .d .d)) (.s .d .d))))

def law3_arena.l1 (c_cells_Arena_Store : Option Addr → Int → Int → Heap → (Int → Heap → Prop) → Prop) (c_cells_Arena_Watch : Option Addr → Bool → Heap → (Unit → Heap → Prop) → Prop) (begin2 : Sl) (Q : (Option Addr × (Bool × Unit)) → Heap → Prop) (r4 : (Option Addr × (Int × Unit))) (go12 : (Int × Unit) → Heap → Prop) (s10 : (Int × Unit)) (h11 : Heap) : Prop :=
    (((decide (s10.1 < (begin2.len : Int))) = true →
    (0 ≤ s10.1 ∧ s10.1 < (begin2.len : Int)) ∧
    deref begin2.a fun a13 =>
    ld ((.int .i64) : Kd) h11 (a13.add ((s10.1 : Int).toNat * 1)) fun t14 =>
    c_cells_Arena_Store r4.1 s10.1 t14 h11 fun r15 h16 =>
    (((decide (r15 ≠ 0)) = true →
    Q (none, false, ()) h16) ∧
    ((decide (r15 ≠ 0)) = false →
    go12 ((w64 (s10.1 + 1)), ()) h16))) ∧
    ((decide (s10.1 < (begin2.len : Int))) = false →
    c_cells_Arena_Watch r4.1 true h11 fun r17 h18 =>
    Q (r4.1, true, ()) h18))
def law3_arena.j2 (c_cells_Arena_Store : Option Addr → Int → Int → Heap → (Int → Heap → Prop) → Prop) (c_cells_Arena_Watch : Option Addr → Bool → Heap → (Unit → Heap → Prop) → Prop) (begin2 : Sl) (Q : (Option Addr × (Bool × Unit)) → Heap → Prop) (r4 : (Option Addr × (Int × Unit))) (s8 : Unit) (h9 : Heap) : Prop :=
    Loop (law3_arena.l1 c_cells_Arena_Store c_cells_Arena_Watch begin2 Q r4) (0, ()) h9
def law3_arena.j3 (c_cells_Arena_Store : Option Addr → Int → Int → Heap → (Int → Heap → Prop) → Prop) (c_cells_Arena_Watch : Option Addr → Bool → Heap → (Unit → Heap → Prop) → Prop) (begin2 : Sl) (Q : (Option Addr × (Bool × Unit)) → Heap → Prop) (r4 : (Option Addr × (Int × Unit))) (s21 : (Bool × Unit)) (h22 : Heap) : Prop :=
    ((s21.1 = true →
    Q (none, false, ()) h22) ∧
    (s21.1 = false →
    law3_arena.j2 c_cells_Arena_Store c_cells_Arena_Watch begin2 Q r4 () h22))
def law3_arena.j4 (c_cells_Arena_Reserve : Option Addr → Int → Heap → (Den kparkLot → Heap → Prop) → Prop) (c_cells_Arena_Store : Option Addr → Int → Int → Heap → (Int → Heap → Prop) → Prop) (c_cells_Arena_Watch : Option Addr → Bool → Heap → (Unit → Heap → Prop) → Prop) (begin2 : Sl) (Q : (Option Addr × (Bool × Unit)) → Heap → Prop) (r4 : (Option Addr × (Int × Unit))) (s6 : Unit) (h7 : Heap) : Prop :=
    (((decide ((0 : Int) < (begin2.len : Int))) = true →
    c_cells_Arena_Reserve r4.1 (begin2.len : Int) h7 fun r19 h20 =>
    (((decide (r19.2.1 ≠ 0)) = true →
    law3_arena.j3 c_cells_Arena_Store c_cells_Arena_Watch begin2 Q r4 (true, ()) h20) ∧
    ((decide (r19.2.1 ≠ 0)) = false →
    law3_arena.j3 c_cells_Arena_Store c_cells_Arena_Watch begin2 Q r4 ((decide (r19.1 ≠ 0)), ()) h20))) ∧
    ((decide ((0 : Int) < (begin2.len : Int))) = false →
    law3_arena.j2 c_cells_Arena_Store c_cells_Arena_Watch begin2 Q r4 () h7))
def law3_arena.j5 (c_cells_Arena_Reserve : Option Addr → Int → Heap → (Den kparkLot → Heap → Prop) → Prop) (c_cells_Arena_Store : Option Addr → Int → Int → Heap → (Int → Heap → Prop) → Prop) (c_cells_Arena_Watch : Option Addr → Bool → Heap → (Unit → Heap → Prop) → Prop) (begin2 : Sl) (Q : (Option Addr × (Bool × Unit)) → Heap → Prop) (r4 : (Option Addr × (Int × Unit))) (s23 : (Bool × Unit)) (h24 : Heap) : Prop :=
    ((s23.1 = true →
    Q (none, false, ()) h24) ∧
    (s23.1 = false →
    law3_arena.j4 c_cells_Arena_Reserve c_cells_Arena_Store c_cells_Arena_Watch begin2 Q r4 () h24))
def law3_arena.M (c_cells_New : Int → Heap → ((Option Addr × (Int × Unit)) → Heap → Prop) → Prop) (c_cells_Arena_Reserve : Option Addr → Int → Heap → (Den kparkLot → Heap → Prop) → Prop) (c_cells_Arena_Store : Option Addr → Int → Int → Heap → (Int → Heap → Prop) → Prop) (c_cells_Arena_Watch : Option Addr → Bool → Heap → (Unit → Heap → Prop) → Prop) (size1 : Int) (begin2 : Sl) (h3 : Heap) (Q : (Option Addr × (Bool × Unit)) → Heap → Prop) : Prop :=
    c_cells_New size1 h3 fun r4 h5 =>
    (((decide (r4.2.1 ≠ 0)) = true →
    law3_arena.j5 c_cells_Arena_Reserve c_cells_Arena_Store c_cells_Arena_Watch begin2 Q r4 (true, ()) h5) ∧
    ((decide (r4.2.1 ≠ 0)) = false →
    law3_arena.j5 c_cells_Arena_Reserve c_cells_Arena_Store c_cells_Arena_Watch begin2 Q r4 ((Option.isNone r4.1), ()) h5))
def law3_arena.mk : Mk := (.s .d (.s .d (.j [] (.j [.slot 22 .bool] .d (.c (.s .d .d) .d)) (.j [] (.s .d (.c (.s .d (.j [.slot 38 .bool] .d (.c (.s .d .d) .d))) .d)) (.s (.s .d (.b (.l [.slot 10 (.int .i64)] (.s (.s .d (.c .d .d)) (.s (.b (.s .d (.s .d (.c (.s .d .d) .d)))) .d))))) (.s .d (.s .d .d)))))))

def deque_New.M (c_deque_capsOK : Int → Int → Heap → (Bool → Heap → Prop) → Prop) (c_inv_Reserve : Value → Int → Heap → (Den kparkLot → Heap → Prop) → Prop) (c_inv_Store : Value → Int → Int → Heap → (Int → Heap → Prop) → Prop) (m1 : Value) (low2 : Int) (most3 : Int) (h4 : Heap) (Q : (Den kparkLot × (Int × Unit)) → Heap → Prop) : Prop :=
    isI m1 ∧
    (((isNilI m1) = true →
    Q ((0, (0, ())), 1, ()) h4) ∧
    ((isNilI m1) = false →
    c_deque_capsOK low2 most3 h4 fun r5 h6 =>
    (((!r5) = true →
    Q ((0, (0, ())), 30, ()) h6) ∧
    ((!r5) = false →
    c_inv_Reserve m1 (w64 (4 + low2)) h6 fun r7 h8 =>
    (((decide (r7.2.1 ≠ 0)) = true →
    Q ((0, (0, ())), r7.2.1, ()) h8) ∧
    ((decide (r7.2.1 ≠ 0)) = false →
    c_inv_Store m1 (w64 (r7.1 + 2)) (w64 (r7.1 + 3)) h8 fun r9 h10 =>
    (((decide (r9 ≠ 0)) = true →
    Q ((0, (0, ())), r9, ()) h10) ∧
    ((decide (r9 ≠ 0)) = false →
    c_inv_Store m1 (w64 (r7.1 + 3)) low2 h10 fun r11 h12 =>
    (((decide (r11 ≠ 0)) = true →
    Q ((0, (0, ())), r11, ()) h12) ∧
    ((decide (r11 ≠ 0)) = false →
    Q ((r7.1, (most3, ())), 0, ()) h12))))))))))
def deque_New.mk : Mk := (.s (.r [0]) (.s (.s .d (.c (.s .d .d) .d)) (.s (.s .d (.c (.s .d .d) .d)) (.s .d (.s (.s .d (.c (.s .d .d) .d)) (.s (.s .d (.s .d (.c (.s .d .d) .d))) (.s (.s .d (.s .d (.c (.s .d .d) .d))) (.s .d .d))))))))

def ref3_New.M (c_ref3_CapOK : Int → Int → Heap → (Bool → Heap → Prop) → Prop) (c_ref3_Mem_Do : Option Addr → Den kref3Want → Heap → ((Int × (Bool × Unit)) → Heap → Prop) → Prop) (c_ref3_store : Int → Int → Heap → (Den kref3Want → Heap → Prop) → Prop) (m1 : Option Addr) (first2 : Int) (most3 : Int) (h4 : Heap) (Q : (Den kparkLot × (Int × Unit)) → Heap → Prop) : Prop :=
    c_ref3_CapOK first2 most3 h4 fun r5 h6 =>
    (((!r5) = true →
    Q ((0, (0, ())), 30, ()) h6) ∧
    ((!r5) = false →
    c_ref3_Mem_Do m1 (4, (0, ((w64 (4 + first2)), (0, (0, (0, ())))))) h6 fun r7 h8 =>
    (((!r7.2.1) = true →
    Q ((0, (0, ())), 22, ()) h8) ∧
    ((!r7.2.1) = false →
    c_ref3_store (w64 (r7.1 + 2)) (w64 (r7.1 + 3)) h8 fun r9 h10 =>
    c_ref3_Mem_Do m1 r9 h10 fun r11 h12 =>
    c_ref3_store (w64 (r7.1 + 3)) first2 h12 fun r13 h14 =>
    c_ref3_Mem_Do m1 r13 h14 fun r15 h16 =>
    Q ((r7.1, (most3, ())), 0, ()) h16))))
def ref3_New.mk : Mk := (.s (.r [0]) (.s (.s .d (.c (.s .d .d) .d)) (.s .d (.s (.s .d (.c (.s .d .d) .d)) (.s .d (.s .d (.s .d .d)))))))

def law3_sameInts.l1 (a1 : Sl) (b2 : Sl) (Q : Bool → Heap → Prop) (go6 : (Int × Unit) → Heap → Prop) (s4 : (Int × Unit)) (h5 : Heap) : Prop :=
    (((decide (s4.1 < (a1.len : Int))) = true →
    (0 ≤ s4.1 ∧ s4.1 < (a1.len : Int)) ∧
    deref a1.a fun a7 =>
    (0 ≤ s4.1 ∧ s4.1 < (b2.len : Int)) ∧
    deref b2.a fun a8 =>
    ld ((.int .i64) : Kd) h5 (a7.add ((s4.1 : Int).toNat * 1)) fun t9 =>
    ld ((.int .i64) : Kd) h5 (a8.add ((s4.1 : Int).toNat * 1)) fun t10 =>
    (((decide (t9 ≠ t10)) = true →
    Q false h5) ∧
    ((decide (t9 ≠ t10)) = false →
    go6 ((w64 (s4.1 + 1)), ()) h5))) ∧
    ((decide (s4.1 < (a1.len : Int))) = false →
    Q true h5))
def law3_sameInts.M  (a1 : Sl) (b2 : Sl) (h3 : Heap) (Q : Bool → Heap → Prop) : Prop :=
    (((decide ((a1.len : Int) ≠ (b2.len : Int))) = true →
    Q false h3) ∧
    ((decide ((a1.len : Int) ≠ (b2.len : Int))) = false →
    Loop (law3_sameInts.l1 a1 b2 Q) (0, ()) h3))
def law3_sameInts.mk : Mk := (.s .d (.s (.s .d (.c (.s .d .d) .d)) (.s (.s .d (.b (.l [.slot 5 (.int .i64)] (.s (.s .d (.c .d .d)) (.s (.b (.s (.q [] [] [.p 0, .p 1, .p 2, .p 4, .p 5, .p 6, .w 3 [3, 8], .w 7 [7, 8], .p 8]) (.c (.s .d .d) .d))) .d))))) (.s .d .d))))

def law3_sameLog.l1 (a1 : Sl) (b2 : Sl) (Q : Bool → Heap → Prop) (go6 : (Int × Unit) → Heap → Prop) (s4 : (Int × Unit)) (h5 : Heap) : Prop :=
    (((decide (s4.1 < (a1.len : Int))) = true →
    (0 ≤ s4.1 ∧ s4.1 < (a1.len : Int)) ∧
    deref a1.a fun a7 =>
    (0 ≤ s4.1 ∧ s4.1 < (b2.len : Int)) ∧
    deref b2.a fun a8 =>
    ld kapiAccess h5 (a7.add ((s4.1 : Int).toNat * 6)) fun t9 =>
    ld kapiAccess h5 (a8.add ((s4.1 : Int).toNat * 6)) fun t10 =>
    (((!(eqK kapiAccess t9 t10)) = true →
    Q false h5) ∧
    ((!(eqK kapiAccess t9 t10)) = false →
    go6 ((w64 (s4.1 + 1)), ()) h5))) ∧
    ((decide (s4.1 < (a1.len : Int))) = false →
    Q true h5))
def law3_sameLog.M  (a1 : Sl) (b2 : Sl) (h3 : Heap) (Q : Bool → Heap → Prop) : Prop :=
    (((decide ((a1.len : Int) ≠ (b2.len : Int))) = true →
    Q false h3) ∧
    ((decide ((a1.len : Int) ≠ (b2.len : Int))) = false →
    Loop (law3_sameLog.l1 a1 b2 Q) (0, ()) h3))
def law3_sameLog.mk : Mk := (.s .d (.s (.s .d (.c (.s .d .d) .d)) (.s (.s .d (.b (.l [.slot 5 (.int .i64)] (.s (.s .d (.c .d .d)) (.s (.b (.s (.q [] [] [.p 0, .p 1, .p 2, .p 4, .p 5, .p 6, .w 3 [3, 8], .w 7 [7, 8], .p 8]) (.c (.s .d .d) .d))) .d))))) (.s .d .d))))

def law3_stops.j1 (go7 : (Int × Unit) → Heap → Prop) (s5 : (Int × Unit)) (s8 : Unit) (h9 : Heap) : Prop :=
    go7 ((w64 (s5.1 + 1)), ()) h9
def law3_stops.j2 (Q : Bool → Heap → Prop) (go7 : (Int × Unit) → Heap → Prop) (s5 : (Int × Unit)) (s16 : (Bool × Unit)) (h17 : Heap) : Prop :=
    ((s16.1 = true →
    Q false h17) ∧
    (s16.1 = false →
    law3_stops.j1 go7 s5 () h17))
def law3_stops.l3 (c_law3_arena : Int → Sl → Heap → ((Option Addr × (Bool × Unit)) → Heap → Prop) → Prop) (c_deque_New : Value → Int → Int → Heap → ((Den kparkLot × (Int × Unit)) → Heap → Prop) → Prop) (Q : Bool → Heap → Prop) (r3 : Int) (go7 : (Int × Unit) → Heap → Prop) (s5 : (Int × Unit)) (h6 : Heap) : Prop :=
    (((decide (s5.1 < 4)) = true →
    c_law3_arena 40 ⟨none, 0, 0⟩ h6 fun r10 h11 =>
    (((!r10.2.1) = true →
    Q false h11) ∧
    ((!r10.2.1) = false →
    new h11 (klaw3Deny.cells (r10.1, (s5.1, (0, ())))) fun p12 h13 =>
    c_deque_New (Value.iface 131 (Kd.val (.ptr : Kd) (some p12))) (w64 (1 + r3)) (w64 (2 * (w64 (1 + r3)))) h13 fun r14 h15 =>
    (((decide (s5.1 < 3)) = true →
    (((decide (r14.2.1 ≠ 77)) = true →
    law3_stops.j2 Q go7 s5 (true, ()) h15) ∧
    ((decide (r14.2.1 ≠ 77)) = false →
    (((decide (r14.1.1 ≠ 0)) = true →
    law3_stops.j2 Q go7 s5 (true, ()) h15) ∧
    ((decide (r14.1.1 ≠ 0)) = false →
    (((decide (r14.1.2.1 ≠ 0)) = true →
    law3_stops.j2 Q go7 s5 (true, ()) h15) ∧
    ((decide (r14.1.2.1 ≠ 0)) = false →
    ld ((.int .i64) : Kd) h15 (p12.add 2) fun t18 =>
    (((decide (t18 ≠ (w64 (s5.1 + 1)))) = true →
    law3_stops.j2 Q go7 s5 (true, ()) h15) ∧
    ((decide (t18 ≠ (w64 (s5.1 + 1)))) = false →
    (((decide (s5.1 = 3)) = true →
    (((decide (r14.2.1 ≠ 0)) = true →
    law3_stops.j2 Q go7 s5 (true, ()) h15) ∧
    ((decide (r14.2.1 ≠ 0)) = false →
    (((decide (r14.1.2.1 ≠ (w64 (2 * (w64 (1 + r3)))))) = true →
    law3_stops.j2 Q go7 s5 (true, ()) h15) ∧
    ((decide (r14.1.2.1 ≠ (w64 (2 * (w64 (1 + r3)))))) = false →
    ld ((.int .i64) : Kd) h15 (p12.add 2) fun t19 =>
    law3_stops.j2 Q go7 s5 ((decide (t19 ≠ 3)), ()) h15))))) ∧
    ((decide (s5.1 = 3)) = false →
    law3_stops.j2 Q go7 s5 (false, ()) h15))))))))))) ∧
    ((decide (s5.1 < 3)) = false →
    (((decide (s5.1 = 3)) = true →
    (((decide (r14.2.1 ≠ 0)) = true →
    law3_stops.j2 Q go7 s5 (true, ()) h15) ∧
    ((decide (r14.2.1 ≠ 0)) = false →
    (((decide (r14.1.2.1 ≠ (w64 (2 * (w64 (1 + r3)))))) = true →
    law3_stops.j2 Q go7 s5 (true, ()) h15) ∧
    ((decide (r14.1.2.1 ≠ (w64 (2 * (w64 (1 + r3)))))) = false →
    ld ((.int .i64) : Kd) h15 (p12.add 2) fun t20 =>
    law3_stops.j2 Q go7 s5 ((decide (t20 ≠ 3)), ()) h15))))) ∧
    ((decide (s5.1 = 3)) = false →
    law3_stops.j2 Q go7 s5 (false, ()) h15))))))) ∧
    ((decide (s5.1 < 4)) = false →
    Q true h6))
def law3_stops.M (c_law3_mod : Int → Int → Heap → (Int → Heap → Prop) → Prop) (c_law3_arena : Int → Sl → Heap → ((Option Addr × (Bool × Unit)) → Heap → Prop) → Prop) (c_deque_New : Value → Int → Int → Heap → ((Den kparkLot × (Int × Unit)) → Heap → Prop) → Prop) (first1 : Int) (h2 : Heap) (Q : Bool → Heap → Prop) : Prop :=
    c_law3_mod first1 5 h2 fun r3 h4 =>
    Loop (law3_stops.l3 c_law3_arena c_deque_New Q r3) (0, ()) h4
def law3_stops.mk : Mk := (.s .d (.s .d (.s (.s .d (.b (.l [.slot 4 (.int .i64)] (.s (.s .d (.c .d .d)) (.j [] (.b (.s .d (.s (.s .d (.c (.s .d .d) .d)) (.s .d (.s (.r [9]) (.j [.slot 82 .bool] .d (.c (.s .d .d) .d))))))) .d))))) (.s .d .d))))

def deque_Cells.l1 (most2 : Int) (Q : Int → Heap → Prop) (go8 : Den kparkLot → Heap → Prop) (s6 : Den kparkLot) (h7 : Heap) : Prop :=
    (((decide (s6.2.1 < most2)) = true →
    go8 ((w64 (s6.1 + (w64 (1 + (if most2 < (w64 (2 * s6.2.1)) then most2 else (w64 (2 * s6.2.1))))))), (if most2 < (w64 (2 * s6.2.1)) then most2 else (w64 (2 * s6.2.1))), ()) h7) ∧
    ((decide (s6.2.1 < most2)) = false →
    Q s6.1 h7))
def deque_Cells.M (c_deque_capsOK : Int → Int → Heap → (Bool → Heap → Prop) → Prop) (low1 : Int) (most2 : Int) (h3 : Heap) (Q : Int → Heap → Prop) : Prop :=
    c_deque_capsOK low1 most2 h3 fun r4 h5 =>
    (((!r4) = true →
    Q 0 h5) ∧
    ((!r4) = false →
    Loop (deque_Cells.l1 most2 Q) ((w64 (4 + low1)), low1, ()) h5))
def deque_Cells.mk : Mk := (.s .d (.s (.s .d (.c (.s .d .d) .d)) (.s .d (.s (.s .d (.b (.l [.slot 5 (.int .i64), .slot 6 (.int .i64)] (.s (.s .d (.c .d .d)) (.b (.s .d .d)))))) (.s .d .d)))))

def ref3_Cells.l1 (most2 : Int) (Q : Int → Heap → Prop) (go8 : Den kparkLot → Heap → Prop) (s6 : Den kparkLot) (h7 : Heap) : Prop :=
    (((decide (s6.2.1 < most2)) = true →
    go8 ((w64 ((w64 (s6.1 + 1)) + (if most2 < (w64 (2 * s6.2.1)) then most2 else (w64 (2 * s6.2.1))))), (if most2 < (w64 (2 * s6.2.1)) then most2 else (w64 (2 * s6.2.1))), ()) h7) ∧
    ((decide (s6.2.1 < most2)) = false →
    Q s6.1 h7))
def ref3_Cells.M (c_ref3_CapOK : Int → Int → Heap → (Bool → Heap → Prop) → Prop) (first1 : Int) (most2 : Int) (h3 : Heap) (Q : Int → Heap → Prop) : Prop :=
    c_ref3_CapOK first1 most2 h3 fun r4 h5 =>
    (((!r4) = true →
    Q 0 h5) ∧
    ((!r4) = false →
    Loop (ref3_Cells.l1 most2 Q) ((w64 (4 + first1)), first1, ()) h5))
def ref3_Cells.mk : Mk := (.s .d (.s (.s .d (.c (.s .d .d) .d)) (.s .d (.s .d (.s (.b (.l [.slot 5 (.int .i64), .slot 6 (.int .i64)] (.s (.s .d (.c .d .d)) (.b (.s .d .d))))) (.s .d .d))))))

def law3_born.M (c_deque_Push : Den kparkLot → Int → Heap → (Den kdequeOp → Heap → Prop) → Prop) (c_deque_Pop : Den kparkLot → Heap → (Den kdequeOp → Heap → Prop) → Prop) (c_deque_Steal : Den kparkLot → Heap → (Den kdequeOp → Heap → Prop) → Prop) (c_deque_Look : Den kparkLot → Heap → (Den kdequeOp → Heap → Prop) → Prop) (v1 : Den klaw3Move) (base2 : Int) (most3 : Int) (h4 : Heap) (Q : (Den kdequeOp × (Den kref3Op × Unit)) → Heap → Prop) : Prop :=
    (((decide (v1.1 = 0)) = true →
    c_deque_Push (base2, (most3, ())) v1.2.2.1 h4 fun r5 h6 =>
    Q ((r5.1, (r5.2.1, ((r5.2.2.1.1, (r5.2.2.1.2.1, ())), (r5.2.2.2.1, (r5.2.2.2.2.1, (r5.2.2.2.2.2.1, (r5.2.2.2.2.2.2.1, (r5.2.2.2.2.2.2.2.1, (r5.2.2.2.2.2.2.2.2.1, (r5.2.2.2.2.2.2.2.2.2.1, (r5.2.2.2.2.2.2.2.2.2.2.1, (r5.2.2.2.2.2.2.2.2.2.2.2.1, (r5.2.2.2.2.2.2.2.2.2.2.2.2.1, (r5.2.2.2.2.2.2.2.2.2.2.2.2.2.1, (r5.2.2.2.2.2.2.2.2.2.2.2.2.2.2.1, ()))))))))))))))), (v1.1, ((base2, (most3, ())), (v1.2.2.1, (Sl.none, (false, ()))))), ()) h6) ∧
    ((decide (v1.1 = 0)) = false →
    (((decide (v1.1 = 1)) = true →
    c_deque_Pop (base2, (most3, ())) h4 fun r7 h8 =>
    Q ((r7.1, (r7.2.1, ((r7.2.2.1.1, (r7.2.2.1.2.1, ())), (r7.2.2.2.1, (r7.2.2.2.2.1, (r7.2.2.2.2.2.1, (r7.2.2.2.2.2.2.1, (r7.2.2.2.2.2.2.2.1, (r7.2.2.2.2.2.2.2.2.1, (r7.2.2.2.2.2.2.2.2.2.1, (r7.2.2.2.2.2.2.2.2.2.2.1, (r7.2.2.2.2.2.2.2.2.2.2.2.1, (r7.2.2.2.2.2.2.2.2.2.2.2.2.1, (r7.2.2.2.2.2.2.2.2.2.2.2.2.2.1, (r7.2.2.2.2.2.2.2.2.2.2.2.2.2.2.1, ()))))))))))))))), (v1.1, ((base2, (most3, ())), (v1.2.2.1, (Sl.none, (false, ()))))), ()) h8) ∧
    ((decide (v1.1 = 1)) = false →
    (((decide (v1.1 = 2)) = true →
    c_deque_Steal (base2, (most3, ())) h4 fun r9 h10 =>
    Q ((r9.1, (r9.2.1, ((r9.2.2.1.1, (r9.2.2.1.2.1, ())), (r9.2.2.2.1, (r9.2.2.2.2.1, (r9.2.2.2.2.2.1, (r9.2.2.2.2.2.2.1, (r9.2.2.2.2.2.2.2.1, (r9.2.2.2.2.2.2.2.2.1, (r9.2.2.2.2.2.2.2.2.2.1, (r9.2.2.2.2.2.2.2.2.2.2.1, (r9.2.2.2.2.2.2.2.2.2.2.2.1, (r9.2.2.2.2.2.2.2.2.2.2.2.2.1, (r9.2.2.2.2.2.2.2.2.2.2.2.2.2.1, (r9.2.2.2.2.2.2.2.2.2.2.2.2.2.2.1, ()))))))))))))))), (v1.1, ((base2, (most3, ())), (v1.2.2.1, (Sl.none, (false, ()))))), ()) h10) ∧
    ((decide (v1.1 = 2)) = false →
    (((decide (v1.1 = 3)) = true →
    c_deque_Look (base2, (most3, ())) h4 fun r11 h12 =>
    Q ((r11.1, (r11.2.1, ((r11.2.2.1.1, (r11.2.2.1.2.1, ())), (r11.2.2.2.1, (r11.2.2.2.2.1, (r11.2.2.2.2.2.1, (r11.2.2.2.2.2.2.1, (r11.2.2.2.2.2.2.2.1, (r11.2.2.2.2.2.2.2.2.1, (r11.2.2.2.2.2.2.2.2.2.1, (r11.2.2.2.2.2.2.2.2.2.2.1, (r11.2.2.2.2.2.2.2.2.2.2.2.1, (r11.2.2.2.2.2.2.2.2.2.2.2.2.1, (r11.2.2.2.2.2.2.2.2.2.2.2.2.2.1, (r11.2.2.2.2.2.2.2.2.2.2.2.2.2.2.1, ()))))))))))))))), (v1.1, ((base2, (most3, ())), (v1.2.2.1, (Sl.none, (false, ()))))), ()) h12) ∧
    ((decide (v1.1 = 3)) = false →
    Q ((0, (0, ((0, (0, ())), (0, (0, (0, (0, (0, (0, (0, (0, (0, (false, (0, (0, ()))))))))))))))), (4, ((base2, (most3, ())), (v1.2.2.1, (Sl.none, (false, ()))))), ()) h4))))))))
def law3_born.mk : Mk := (.s (.r [0, 1, 2]) (.s (.r [3]) (.s (.r [8]) (.s (.s .d (.b (.s .d (.c (.s (.q [] [6, 7] [.p 1, .w 0 [0, 3, 5, 6], .w 2 [2, 3, 5, 6], .w 4 [4, 6], .o 3, .o 5, .o 6]) .d) (.s .d (.c (.s (.q [] [6, 7] [.w 0 [0, 1, 3, 4], .w 2 [2, 4], .o 1, .o 3, .o 4]) .d) (.s .d (.c (.s (.q [] [6, 7] [.w 0 [0, 1, 3, 4], .w 2 [2, 4], .o 1, .o 3, .o 4]) .d) (.s .d (.c (.s (.q [] [6, 7] [.w 0 [0, 1, 3, 4], .w 2 [2, 4], .o 1, .o 3, .o 4]) .d) .d)))))))))) (.s .d (.s (.q [] [6, 7] [.p 0, .w 1 [1, 3], .o 2, .o 3]) .d))))))

def cells_Arena_Who.M  (a1 : Option Addr) (actor2 : Int) (h3 : Heap) (Q : Unit → Heap → Prop) : Prop :=
    (((Option.isSome a1) = true →
    deref a1 fun a4 =>
    st ((.int .i64) : Kd) h3 (a4.add 4) actor2 fun h5 =>
    Q () h5) ∧
    ((Option.isSome a1) = false →
    Q () h3))
def cells_Arena_Who.mk : Mk := (.s .d (.c .d .d))

def deque_Step.j1 (c_deque_Op_over : Den kdequeOp → Int → Int → Heap → (Den kdequeOp → Heap → Prop) → Prop) (c_deque_Op_access : Den kdequeOp → Value → Heap → (Den kparkLot → Heap → Prop) → Prop) (c_deque_Op_pushed : Den kdequeOp → Int → Heap → (Den kdequeOp → Heap → Prop) → Prop) (c_deque_Op_popped : Den kdequeOp → Int → Heap → (Den kdequeOp → Heap → Prop) → Prop) (c_deque_Op_stolen : Den kdequeOp → Int → Heap → (Den kdequeOp → Heap → Prop) → Prop) (c_deque_Op_looked : Den kdequeOp → Int → Heap → (Den kdequeOp → Heap → Prop) → Prop) (m1 : Value) (o2 : Den kdequeOp) (Q : Den kdequeOp → Heap → Prop) (s4 : ((Int × (Int × (Int × (Int × (Int × (Int × (Int × (Int × (Int × (Int × (Int × (Int × (Int × (Bool × Den kparkLot)))))))))))))) × Unit)) (h5 : Heap) : Prop :=
    isI m1 ∧
    (((isNilI m1) = true →
    c_deque_Op_over (o2.1, (o2.2.1, ((o2.2.2.1.1, (o2.2.2.1.2.1, ())), (o2.2.2.2.1, (o2.2.2.2.2.1, (o2.2.2.2.2.2.1, (o2.2.2.2.2.2.2.1, (o2.2.2.2.2.2.2.2.1, (o2.2.2.2.2.2.2.2.2.1, (o2.2.2.2.2.2.2.2.2.2.1, (o2.2.2.2.2.2.2.2.2.2.2.1, (o2.2.2.2.2.2.2.2.2.2.2.2.1, (o2.2.2.2.2.2.2.2.2.2.2.2.2.1, (o2.2.2.2.2.2.2.2.2.2.2.2.2.2.1, (o2.2.2.2.2.2.2.2.2.2.2.2.2.2.2.1, ()))))))))))))))) 1 0 h5 fun r6 h7 =>
    Q (r6.1, (r6.2.1, ((r6.2.2.1.1, (r6.2.2.1.2.1, ())), (r6.2.2.2.1, (r6.2.2.2.2.1, (r6.2.2.2.2.2.1, (r6.2.2.2.2.2.2.1, (r6.2.2.2.2.2.2.2.1, (r6.2.2.2.2.2.2.2.2.1, (r6.2.2.2.2.2.2.2.2.2.1, (r6.2.2.2.2.2.2.2.2.2.2.1, (r6.2.2.2.2.2.2.2.2.2.2.2.1, (r6.2.2.2.2.2.2.2.2.2.2.2.2.1, (r6.2.2.2.2.2.2.2.2.2.2.2.2.2.1, (r6.2.2.2.2.2.2.2.2.2.2.2.2.2.2.1, ()))))))))))))))) h7) ∧
    ((isNilI m1) = false →
    c_deque_Op_access (o2.1, (o2.2.1, ((o2.2.2.1.1, (o2.2.2.1.2.1, ())), (o2.2.2.2.1, (o2.2.2.2.2.1, (o2.2.2.2.2.2.1, (o2.2.2.2.2.2.2.1, (o2.2.2.2.2.2.2.2.1, (o2.2.2.2.2.2.2.2.2.1, (o2.2.2.2.2.2.2.2.2.2.1, (o2.2.2.2.2.2.2.2.2.2.2.1, (o2.2.2.2.2.2.2.2.2.2.2.2.1, (o2.2.2.2.2.2.2.2.2.2.2.2.2.1, (o2.2.2.2.2.2.2.2.2.2.2.2.2.2.1, (o2.2.2.2.2.2.2.2.2.2.2.2.2.2.2.1, ()))))))))))))))) m1 h5 fun r8 h9 =>
    (((decide (r8.2.1 ≠ 0)) = true →
    c_deque_Op_over (o2.1, (o2.2.1, ((o2.2.2.1.1, (o2.2.2.1.2.1, ())), (o2.2.2.2.1, (o2.2.2.2.2.1, (o2.2.2.2.2.2.1, (o2.2.2.2.2.2.2.1, (o2.2.2.2.2.2.2.2.1, (o2.2.2.2.2.2.2.2.2.1, (o2.2.2.2.2.2.2.2.2.2.1, (o2.2.2.2.2.2.2.2.2.2.2.1, (o2.2.2.2.2.2.2.2.2.2.2.2.1, (o2.2.2.2.2.2.2.2.2.2.2.2.2.1, (o2.2.2.2.2.2.2.2.2.2.2.2.2.2.1, (o2.2.2.2.2.2.2.2.2.2.2.2.2.2.2.1, ()))))))))))))))) 1 0 h9 fun r10 h11 =>
    Q (r10.1, (r10.2.1, ((r10.2.2.1.1, (r10.2.2.1.2.1, ())), (r10.2.2.2.1, (r10.2.2.2.2.1, (r10.2.2.2.2.2.1, (r10.2.2.2.2.2.2.1, (r10.2.2.2.2.2.2.2.1, (r10.2.2.2.2.2.2.2.2.1, (r10.2.2.2.2.2.2.2.2.2.1, (r10.2.2.2.2.2.2.2.2.2.2.1, (r10.2.2.2.2.2.2.2.2.2.2.2.1, (r10.2.2.2.2.2.2.2.2.2.2.2.2.1, (r10.2.2.2.2.2.2.2.2.2.2.2.2.2.1, (r10.2.2.2.2.2.2.2.2.2.2.2.2.2.2.1, ()))))))))))))))) h11) ∧
    ((decide (r8.2.1 ≠ 0)) = false →
    (((decide (o2.1 = 1)) = true →
    c_deque_Op_pushed (o2.1, (o2.2.1, ((o2.2.2.1.1, (o2.2.2.1.2.1, ())), (o2.2.2.2.1, (o2.2.2.2.2.1, (o2.2.2.2.2.2.1, (o2.2.2.2.2.2.2.1, (o2.2.2.2.2.2.2.2.1, (o2.2.2.2.2.2.2.2.2.1, (o2.2.2.2.2.2.2.2.2.2.1, (o2.2.2.2.2.2.2.2.2.2.2.1, (o2.2.2.2.2.2.2.2.2.2.2.2.1, (o2.2.2.2.2.2.2.2.2.2.2.2.2.1, (o2.2.2.2.2.2.2.2.2.2.2.2.2.2.1, (o2.2.2.2.2.2.2.2.2.2.2.2.2.2.2.1, ()))))))))))))))) r8.1 h9 fun r12 h13 =>
    Q (r12.1, (r12.2.1, ((r12.2.2.1.1, (r12.2.2.1.2.1, ())), (r12.2.2.2.1, (r12.2.2.2.2.1, (r12.2.2.2.2.2.1, (r12.2.2.2.2.2.2.1, (r12.2.2.2.2.2.2.2.1, (r12.2.2.2.2.2.2.2.2.1, (r12.2.2.2.2.2.2.2.2.2.1, (r12.2.2.2.2.2.2.2.2.2.2.1, (r12.2.2.2.2.2.2.2.2.2.2.2.1, (r12.2.2.2.2.2.2.2.2.2.2.2.2.1, (r12.2.2.2.2.2.2.2.2.2.2.2.2.2.1, (r12.2.2.2.2.2.2.2.2.2.2.2.2.2.2.1, ()))))))))))))))) h13) ∧
    ((decide (o2.1 = 1)) = false →
    (((decide (o2.1 = 2)) = true →
    c_deque_Op_popped (o2.1, (o2.2.1, ((o2.2.2.1.1, (o2.2.2.1.2.1, ())), (o2.2.2.2.1, (o2.2.2.2.2.1, (o2.2.2.2.2.2.1, (o2.2.2.2.2.2.2.1, (o2.2.2.2.2.2.2.2.1, (o2.2.2.2.2.2.2.2.2.1, (o2.2.2.2.2.2.2.2.2.2.1, (o2.2.2.2.2.2.2.2.2.2.2.1, (o2.2.2.2.2.2.2.2.2.2.2.2.1, (o2.2.2.2.2.2.2.2.2.2.2.2.2.1, (o2.2.2.2.2.2.2.2.2.2.2.2.2.2.1, (o2.2.2.2.2.2.2.2.2.2.2.2.2.2.2.1, ()))))))))))))))) r8.1 h9 fun r14 h15 =>
    Q (r14.1, (r14.2.1, ((r14.2.2.1.1, (r14.2.2.1.2.1, ())), (r14.2.2.2.1, (r14.2.2.2.2.1, (r14.2.2.2.2.2.1, (r14.2.2.2.2.2.2.1, (r14.2.2.2.2.2.2.2.1, (r14.2.2.2.2.2.2.2.2.1, (r14.2.2.2.2.2.2.2.2.2.1, (r14.2.2.2.2.2.2.2.2.2.2.1, (r14.2.2.2.2.2.2.2.2.2.2.2.1, (r14.2.2.2.2.2.2.2.2.2.2.2.2.1, (r14.2.2.2.2.2.2.2.2.2.2.2.2.2.1, (r14.2.2.2.2.2.2.2.2.2.2.2.2.2.2.1, ()))))))))))))))) h15) ∧
    ((decide (o2.1 = 2)) = false →
    (((decide (o2.1 = 3)) = true →
    c_deque_Op_stolen (o2.1, (o2.2.1, ((o2.2.2.1.1, (o2.2.2.1.2.1, ())), (o2.2.2.2.1, (o2.2.2.2.2.1, (o2.2.2.2.2.2.1, (o2.2.2.2.2.2.2.1, (o2.2.2.2.2.2.2.2.1, (o2.2.2.2.2.2.2.2.2.1, (o2.2.2.2.2.2.2.2.2.2.1, (o2.2.2.2.2.2.2.2.2.2.2.1, (o2.2.2.2.2.2.2.2.2.2.2.2.1, (o2.2.2.2.2.2.2.2.2.2.2.2.2.1, (o2.2.2.2.2.2.2.2.2.2.2.2.2.2.1, (o2.2.2.2.2.2.2.2.2.2.2.2.2.2.2.1, ()))))))))))))))) r8.1 h9 fun r16 h17 =>
    Q (r16.1, (r16.2.1, ((r16.2.2.1.1, (r16.2.2.1.2.1, ())), (r16.2.2.2.1, (r16.2.2.2.2.1, (r16.2.2.2.2.2.1, (r16.2.2.2.2.2.2.1, (r16.2.2.2.2.2.2.2.1, (r16.2.2.2.2.2.2.2.2.1, (r16.2.2.2.2.2.2.2.2.2.1, (r16.2.2.2.2.2.2.2.2.2.2.1, (r16.2.2.2.2.2.2.2.2.2.2.2.1, (r16.2.2.2.2.2.2.2.2.2.2.2.2.1, (r16.2.2.2.2.2.2.2.2.2.2.2.2.2.1, (r16.2.2.2.2.2.2.2.2.2.2.2.2.2.2.1, ()))))))))))))))) h17) ∧
    ((decide (o2.1 = 3)) = false →
    c_deque_Op_looked (o2.1, (o2.2.1, ((o2.2.2.1.1, (o2.2.2.1.2.1, ())), (o2.2.2.2.1, (o2.2.2.2.2.1, (o2.2.2.2.2.2.1, (o2.2.2.2.2.2.2.1, (o2.2.2.2.2.2.2.2.1, (o2.2.2.2.2.2.2.2.2.1, (o2.2.2.2.2.2.2.2.2.2.1, (o2.2.2.2.2.2.2.2.2.2.2.1, (o2.2.2.2.2.2.2.2.2.2.2.2.1, (o2.2.2.2.2.2.2.2.2.2.2.2.2.1, (o2.2.2.2.2.2.2.2.2.2.2.2.2.2.1, (o2.2.2.2.2.2.2.2.2.2.2.2.2.2.2.1, ()))))))))))))))) r8.1 h9 fun r18 h19 =>
    Q (r18.1, (r18.2.1, ((r18.2.2.1.1, (r18.2.2.1.2.1, ())), (r18.2.2.2.1, (r18.2.2.2.2.1, (r18.2.2.2.2.2.1, (r18.2.2.2.2.2.2.1, (r18.2.2.2.2.2.2.2.1, (r18.2.2.2.2.2.2.2.2.1, (r18.2.2.2.2.2.2.2.2.2.1, (r18.2.2.2.2.2.2.2.2.2.2.1, (r18.2.2.2.2.2.2.2.2.2.2.2.1, (r18.2.2.2.2.2.2.2.2.2.2.2.2.1, (r18.2.2.2.2.2.2.2.2.2.2.2.2.2.1, (r18.2.2.2.2.2.2.2.2.2.2.2.2.2.2.1, ()))))))))))))))) h19))))))))))
def deque_Step.j2 (c_deque_Op_over : Den kdequeOp → Int → Int → Heap → (Den kdequeOp → Heap → Prop) → Prop) (c_deque_Op_access : Den kdequeOp → Value → Heap → (Den kparkLot → Heap → Prop) → Prop) (c_deque_Op_pushed : Den kdequeOp → Int → Heap → (Den kdequeOp → Heap → Prop) → Prop) (c_deque_Op_popped : Den kdequeOp → Int → Heap → (Den kdequeOp → Heap → Prop) → Prop) (c_deque_Op_stolen : Den kdequeOp → Int → Heap → (Den kdequeOp → Heap → Prop) → Prop) (c_deque_Op_looked : Den kdequeOp → Int → Heap → (Den kdequeOp → Heap → Prop) → Prop) (m1 : Value) (o2 : Den kdequeOp) (Q : Den kdequeOp → Heap → Prop) (s20 : (Bool × Unit)) (h21 : Heap) : Prop :=
    ((s20.1 = true →
    Q (o2.1, (o2.2.1, ((o2.2.2.1.1, (o2.2.2.1.2.1, ())), (o2.2.2.2.1, (o2.2.2.2.2.1, (o2.2.2.2.2.2.1, (o2.2.2.2.2.2.2.1, (o2.2.2.2.2.2.2.2.1, (o2.2.2.2.2.2.2.2.2.1, (o2.2.2.2.2.2.2.2.2.2.1, (o2.2.2.2.2.2.2.2.2.2.2.1, (o2.2.2.2.2.2.2.2.2.2.2.2.1, (o2.2.2.2.2.2.2.2.2.2.2.2.2.1, (o2.2.2.2.2.2.2.2.2.2.2.2.2.2.1, (o2.2.2.2.2.2.2.2.2.2.2.2.2.2.2.1, ()))))))))))))))) h21) ∧
    (s20.1 = false →
    deque_Step.j1 c_deque_Op_over c_deque_Op_access c_deque_Op_pushed c_deque_Op_popped c_deque_Op_stolen c_deque_Op_looked m1 o2 Q ((0, (0, (0, (0, (0, (0, (0, (0, (0, (0, (0, (0, (0, (false, (0, (0, ())))))))))))))))), ()) h21))
def deque_Step.M (c_deque_Op_over : Den kdequeOp → Int → Int → Heap → (Den kdequeOp → Heap → Prop) → Prop) (c_deque_Op_access : Den kdequeOp → Value → Heap → (Den kparkLot → Heap → Prop) → Prop) (c_deque_Op_pushed : Den kdequeOp → Int → Heap → (Den kdequeOp → Heap → Prop) → Prop) (c_deque_Op_popped : Den kdequeOp → Int → Heap → (Den kdequeOp → Heap → Prop) → Prop) (c_deque_Op_stolen : Den kdequeOp → Int → Heap → (Den kdequeOp → Heap → Prop) → Prop) (c_deque_Op_looked : Den kdequeOp → Int → Heap → (Den kdequeOp → Heap → Prop) → Prop) (m1 : Value) (o2 : Den kdequeOp) (h3 : Heap) (Q : Den kdequeOp → Heap → Prop) : Prop :=
    (((eqK kdequeOp (o2.1, (o2.2.1, ((o2.2.2.1.1, (o2.2.2.1.2.1, ())), (o2.2.2.2.1, (o2.2.2.2.2.1, (o2.2.2.2.2.2.1, (o2.2.2.2.2.2.2.1, (o2.2.2.2.2.2.2.2.1, (o2.2.2.2.2.2.2.2.2.1, (o2.2.2.2.2.2.2.2.2.2.1, (o2.2.2.2.2.2.2.2.2.2.2.1, (o2.2.2.2.2.2.2.2.2.2.2.2.1, (o2.2.2.2.2.2.2.2.2.2.2.2.2.1, (o2.2.2.2.2.2.2.2.2.2.2.2.2.2.1, (o2.2.2.2.2.2.2.2.2.2.2.2.2.2.2.1, ()))))))))))))))) (0, (0, ((0, (0, ())), (0, (0, (0, (0, (0, (0, (0, (0, (0, (false, (0, (0, ())))))))))))))))) = true →
    deque_Step.j2 c_deque_Op_over c_deque_Op_access c_deque_Op_pushed c_deque_Op_popped c_deque_Op_stolen c_deque_Op_looked m1 o2 Q (true, ()) h3) ∧
    ((eqK kdequeOp (o2.1, (o2.2.1, ((o2.2.2.1.1, (o2.2.2.1.2.1, ())), (o2.2.2.2.1, (o2.2.2.2.2.1, (o2.2.2.2.2.2.1, (o2.2.2.2.2.2.2.1, (o2.2.2.2.2.2.2.2.1, (o2.2.2.2.2.2.2.2.2.1, (o2.2.2.2.2.2.2.2.2.2.1, (o2.2.2.2.2.2.2.2.2.2.2.1, (o2.2.2.2.2.2.2.2.2.2.2.2.1, (o2.2.2.2.2.2.2.2.2.2.2.2.2.1, (o2.2.2.2.2.2.2.2.2.2.2.2.2.2.1, (o2.2.2.2.2.2.2.2.2.2.2.2.2.2.2.1, ()))))))))))))))) (0, (0, ((0, (0, ())), (0, (0, (0, (0, (0, (0, (0, (0, (0, (false, (0, (0, ())))))))))))))))) = false →
    deque_Step.j2 c_deque_Op_over c_deque_Op_access c_deque_Op_pushed c_deque_Op_popped c_deque_Op_stolen c_deque_Op_looked m1 o2 Q ((decide (o2.2.1 = 0)), ()) h3))
def deque_Step.mk : Mk := (.s (.r [0, 1]) (.j [.box 4 (.pair (.int .i64) (.pair (.int .i64) (.pair (.int .i64) (.pair (.int .i64) (.pair (.int .i64) (.pair (.int .i64) (.pair (.int .i64) (.pair (.int .i64) (.pair (.int .i64) (.pair (.int .i64) (.pair (.int .i64) (.pair (.int .i64) (.pair (.int .i64) (.pair .bool kparkLot))))))))))))))] (.j [.slot 14 .bool] .d (.c (.s .d .d) .d)) (.s (.s .d (.c (.s .d .d) .d)) (.s .d (.s (.s .d (.c (.s .d .d) .d)) (.s (.s .d (.b (.s .d (.c (.s .d .d) (.s .d (.c (.s .d .d) (.s .d (.c (.s .d .d) .d)))))))) (.s .d .d)))))))

def ref3_Step.M (c_ref3_Next : Den kref3Op → Heap → (Den kref3Want → Heap → Prop) → Prop) (c_ref3_Mem_Do : Option Addr → Den kref3Want → Heap → ((Int × (Bool × Unit)) → Heap → Prop) → Prop) (m1 : Option Addr) (o2 : Den kref3Op) (h3 : Heap) (Q : Den kref3Op → Heap → Prop) : Prop :=
    c_ref3_Next (o2.1, ((o2.2.1.1, (o2.2.1.2.1, ())), (o2.2.2.1, (o2.2.2.2.1, (o2.2.2.2.2.1, ()))))) h3 fun r4 h5 =>
    (((decide (r4.1 < 0)) = true →
    Q (o2.1, ((o2.2.1.1, (o2.2.1.2.1, ())), (o2.2.2.1, (o2.2.2.2.1, (o2.2.2.2.2.1, ()))))) h5) ∧
    ((decide (r4.1 < 0)) = false →
    c_ref3_Mem_Do m1 (r4.1, (r4.2.1, (r4.2.2.1, (r4.2.2.2.1, (r4.2.2.2.2.1, (r4.2.2.2.2.2.1, ())))))) h5 fun r6 h7 =>
    (((!r6.2.1) = true →
    Q (o2.1, ((o2.2.1.1, (o2.2.1.2.1, ())), (o2.2.2.1, (o2.2.2.2.1, (true, ()))))) h7) ∧
    ((!r6.2.1) = false →
    new h7 (([] : List (Den ((.int .i64) : Kd))).flatMap (Kd.cells ((.int .i64) : Kd))) fun p8 h9 =>
    appendM 1 8 h9 ⟨some p8, 0, 0⟩ o2.2.2.2.1 fun t10 h11 =>
    new h11 (([r6.1] : List (Den ((.int .i64) : Kd))).flatMap (Kd.cells ((.int .i64) : Kd))) fun p12 h13 =>
    appendM 1 8 h13 t10 ⟨some p12, 1, 1⟩ fun t14 h15 =>
    Q (o2.1, ((o2.2.1.1, (o2.2.1.2.1, ())), (o2.2.2.1, (t14, (o2.2.2.2.2.1, ()))))) h15))))
def ref3_Step.mk : Mk := (.s (.r [0, 1]) (.s (.r [2]) (.s (.s .d (.c (.s .d .d) .d)) (.s .d (.s (.s .d (.c (.s .d (.s .d .d)) .d)) (.s .d (.s .d (.s .d (.s .d .d)))))))))

def ref3_Next.j1 (c_ref3_push : Den kparkLot → Int → Sl → Heap → (Den kref3Want → Heap → Prop) → Prop) (c_ref3_pop : Den kparkLot → Sl → Heap → (Den kref3Want → Heap → Prop) → Prop) (c_ref3_steal : Den kparkLot → Sl → Heap → (Den kref3Want → Heap → Prop) → Prop) (c_ref3_look : Den kparkLot → Sl → Heap → (Den kref3Want → Heap → Prop) → Prop) (o1 : Den kref3Op) (Q : Den kref3Want → Heap → Prop) (s3 : (Den kref3Want × Unit)) (h4 : Heap) : Prop :=
    (((decide (o1.1 = 0)) = true →
    c_ref3_push (o1.2.1.1, (o1.2.1.2.1, ())) o1.2.2.1 o1.2.2.2.1 h4 fun r5 h6 =>
    Q (r5.1, (r5.2.1, (r5.2.2.1, (r5.2.2.2.1, (r5.2.2.2.2.1, (r5.2.2.2.2.2.1, ())))))) h6) ∧
    ((decide (o1.1 = 0)) = false →
    (((decide (o1.1 = 1)) = true →
    c_ref3_pop (o1.2.1.1, (o1.2.1.2.1, ())) o1.2.2.2.1 h4 fun r7 h8 =>
    Q (r7.1, (r7.2.1, (r7.2.2.1, (r7.2.2.2.1, (r7.2.2.2.2.1, (r7.2.2.2.2.2.1, ())))))) h8) ∧
    ((decide (o1.1 = 1)) = false →
    (((decide (o1.1 = 2)) = true →
    c_ref3_steal (o1.2.1.1, (o1.2.1.2.1, ())) o1.2.2.2.1 h4 fun r9 h10 =>
    Q (r9.1, (r9.2.1, (r9.2.2.1, (r9.2.2.2.1, (r9.2.2.2.2.1, (r9.2.2.2.2.2.1, ())))))) h10) ∧
    ((decide (o1.1 = 2)) = false →
    c_ref3_look (o1.2.1.1, (o1.2.1.2.1, ())) o1.2.2.2.1 h4 fun r11 h12 =>
    Q (r11.1, (r11.2.1, (r11.2.2.1, (r11.2.2.2.1, (r11.2.2.2.2.1, (r11.2.2.2.2.2.1, ())))))) h12))))))
def ref3_Next.j2 (c_ref3_end : Int → Int → Heap → (Den kref3Want → Heap → Prop) → Prop) (c_ref3_push : Den kparkLot → Int → Sl → Heap → (Den kref3Want → Heap → Prop) → Prop) (c_ref3_pop : Den kparkLot → Sl → Heap → (Den kref3Want → Heap → Prop) → Prop) (c_ref3_steal : Den kparkLot → Sl → Heap → (Den kref3Want → Heap → Prop) → Prop) (c_ref3_look : Den kparkLot → Sl → Heap → (Den kref3Want → Heap → Prop) → Prop) (o1 : Den kref3Op) (Q : Den kref3Want → Heap → Prop) (s13 : (Bool × Unit)) (h14 : Heap) : Prop :=
    ((s13.1 = true →
    c_ref3_end 1 0 h14 fun r15 h16 =>
    Q (r15.1, (r15.2.1, (r15.2.2.1, (r15.2.2.2.1, (r15.2.2.2.2.1, (r15.2.2.2.2.2.1, ())))))) h16) ∧
    (s13.1 = false →
    ref3_Next.j1 c_ref3_push c_ref3_pop c_ref3_steal c_ref3_look o1 Q ((0, (0, (0, (0, (0, (0, ())))))), ()) h14))
def ref3_Next.M (c_ref3_end : Int → Int → Heap → (Den kref3Want → Heap → Prop) → Prop) (c_ref3_push : Den kparkLot → Int → Sl → Heap → (Den kref3Want → Heap → Prop) → Prop) (c_ref3_pop : Den kparkLot → Sl → Heap → (Den kref3Want → Heap → Prop) → Prop) (c_ref3_steal : Den kparkLot → Sl → Heap → (Den kref3Want → Heap → Prop) → Prop) (c_ref3_look : Den kparkLot → Sl → Heap → (Den kref3Want → Heap → Prop) → Prop) (o1 : Den kref3Op) (h2 : Heap) (Q : Den kref3Want → Heap → Prop) : Prop :=
    ((o1.2.2.2.2.1 = true →
    ref3_Next.j2 c_ref3_end c_ref3_push c_ref3_pop c_ref3_steal c_ref3_look o1 Q (true, ()) h2) ∧
    (o1.2.2.2.2.1 = false →
    (((decide (o1.1 = 4)) = true →
    ref3_Next.j2 c_ref3_end c_ref3_push c_ref3_pop c_ref3_steal c_ref3_look o1 Q (true, ()) h2) ∧
    ((decide (o1.1 = 4)) = false →
    (((decide (o1.2.1.2.1 < 1)) = true →
    ref3_Next.j2 c_ref3_end c_ref3_push c_ref3_pop c_ref3_steal c_ref3_look o1 Q (true, ()) h2) ∧
    ((decide (o1.2.1.2.1 < 1)) = false →
    ref3_Next.j2 c_ref3_end c_ref3_push c_ref3_pop c_ref3_steal c_ref3_look o1 Q ((decide ((4096 : Int) < o1.2.1.2.1)), ()) h2))))))
def ref3_Next.mk : Mk := (.s (.r [0, 1]) (.j [.box 2 kref3Want] (.j [.slot 21 .bool] .d (.c (.s .d .d) .d)) (.s (.s .d (.b (.s .d (.c (.s .d .d) (.s .d (.c (.s .d .d) (.s .d (.c (.s .d .d) .d)))))))) (.s .d .d))))

def cells_New.M (c_cells_good : Int → Heap → (Bool → Heap → Prop) → Prop) (size1 : Int) (h2 : Heap) (Q : (Option Addr × (Int × Unit)) → Heap → Prop) : Prop :=
    c_cells_good size1 h2 fun r3 h4 =>
    (((!r3) = true →
    Q (none, 3, ()) h4) ∧
    ((!r3) = false →
    new h4 (kcellsArena.cells ((size1, (0, ())), (Sl.none, (Sl.none, (0, (false, ())))))) fun p5 h6 =>
    Q ((some p5), 0, ()) h6))
def cells_New.mk : Mk := (.s .d (.s (.s .d (.c (.s .d .d) .d)) (.s .d .d)))

def deque_Answer.M  (o1 : Den kdequeOp) (h2 : Heap) (Q : Den kparkLot → Heap → Prop) : Prop :=
    (((eqK kdequeOp (o1.1, (o1.2.1, ((o1.2.2.1.1, (o1.2.2.1.2.1, ())), (o1.2.2.2.1, (o1.2.2.2.2.1, (o1.2.2.2.2.2.1, (o1.2.2.2.2.2.2.1, (o1.2.2.2.2.2.2.2.1, (o1.2.2.2.2.2.2.2.2.1, (o1.2.2.2.2.2.2.2.2.2.1, (o1.2.2.2.2.2.2.2.2.2.2.1, (o1.2.2.2.2.2.2.2.2.2.2.2.1, (o1.2.2.2.2.2.2.2.2.2.2.2.2.1, (o1.2.2.2.2.2.2.2.2.2.2.2.2.2.1, (o1.2.2.2.2.2.2.2.2.2.2.2.2.2.2.1, ()))))))))))))))) (0, (0, ((0, (0, ())), (0, (0, (0, (0, (0, (0, (0, (0, (0, (false, (0, (0, ())))))))))))))))) = true →
    Q (1, 0, ()) h2) ∧
    ((eqK kdequeOp (o1.1, (o1.2.1, ((o1.2.2.1.1, (o1.2.2.1.2.1, ())), (o1.2.2.2.1, (o1.2.2.2.2.1, (o1.2.2.2.2.2.1, (o1.2.2.2.2.2.2.1, (o1.2.2.2.2.2.2.2.1, (o1.2.2.2.2.2.2.2.2.1, (o1.2.2.2.2.2.2.2.2.2.1, (o1.2.2.2.2.2.2.2.2.2.2.1, (o1.2.2.2.2.2.2.2.2.2.2.2.1, (o1.2.2.2.2.2.2.2.2.2.2.2.2.1, (o1.2.2.2.2.2.2.2.2.2.2.2.2.2.1, (o1.2.2.2.2.2.2.2.2.2.2.2.2.2.2.1, ()))))))))))))))) (0, (0, ((0, (0, ())), (0, (0, (0, (0, (0, (0, (0, (0, (0, (false, (0, (0, ())))))))))))))))) = false →
    (((decide (o1.2.1 ≠ 0)) = true →
    Q (0, 0, ()) h2) ∧
    ((decide (o1.2.1 ≠ 0)) = false →
    Q (o1.2.2.2.2.2.2.2.2.2.2.2.2.2.1, o1.2.2.2.2.2.2.2.2.2.2.2.2.2.2.1, ()) h2))))
def deque_Answer.mk : Mk := (.s (.r [0]) (.s (.b (.s .d (.c (.s .d .d) (.s .d (.c (.s .d .d) .d))))) (.s (.q [] [] [.p 0, .p 2, .w 1 [1, 4, 5], .p 4, .w 3 [3, 5], .p 5]) .d)))

def ref3_Answer.M (c_ref3_Next : Den kref3Op → Heap → (Den kref3Want → Heap → Prop) → Prop) (o1 : Den kref3Op) (h2 : Heap) (Q : Den kparkLot → Heap → Prop) : Prop :=
    c_ref3_Next (o1.1, ((o1.2.1.1, (o1.2.1.2.1, ())), (o1.2.2.1, (o1.2.2.2.1, (o1.2.2.2.2.1, ()))))) h2 fun r3 h4 =>
    (((decide ((0 : Int) ≤ r3.1)) = true →
    Q (0, 0, ()) h4) ∧
    ((decide ((0 : Int) ≤ r3.1)) = false →
    Q (r3.2.2.2.2.1, r3.2.2.2.2.2.1, ()) h4))
def ref3_Answer.mk : Mk := (.s (.r [0]) (.s (.r [2]) (.s (.s .d (.c (.s .d .d) .d)) (.s (.q [] [] [.p 0, .p 2, .w 1 [1, 4, 5], .p 4, .w 3 [3, 5], .p 5]) .d))))

def deque_Push.M (c_deque_begin : Int → Int → Den kparkLot → Int → Heap → (Den kdequeOp → Heap → Prop) → Prop) (d1 : Den kparkLot) (v2 : Int) (h3 : Heap) (Q : Den kdequeOp → Heap → Prop) : Prop :=
    c_deque_begin 1 1 (d1.1, (d1.2.1, ())) v2 h3 fun r4 h5 =>
    Q (r4.1, (r4.2.1, ((r4.2.2.1.1, (r4.2.2.1.2.1, ())), (r4.2.2.2.1, (r4.2.2.2.2.1, (r4.2.2.2.2.2.1, (r4.2.2.2.2.2.2.1, (r4.2.2.2.2.2.2.2.1, (r4.2.2.2.2.2.2.2.2.1, (r4.2.2.2.2.2.2.2.2.2.1, (r4.2.2.2.2.2.2.2.2.2.2.1, (r4.2.2.2.2.2.2.2.2.2.2.2.1, (r4.2.2.2.2.2.2.2.2.2.2.2.2.1, (r4.2.2.2.2.2.2.2.2.2.2.2.2.2.1, (r4.2.2.2.2.2.2.2.2.2.2.2.2.2.2.1, ()))))))))))))))) h5
def deque_Push.mk : Mk := (.s (.r [0, 1]) (.s .d .d))

def deque_Pop.M (c_deque_begin : Int → Int → Den kparkLot → Int → Heap → (Den kdequeOp → Heap → Prop) → Prop) (d1 : Den kparkLot) (h2 : Heap) (Q : Den kdequeOp → Heap → Prop) : Prop :=
    c_deque_begin 2 1 (d1.1, (d1.2.1, ())) 0 h2 fun r3 h4 =>
    Q (r3.1, (r3.2.1, ((r3.2.2.1.1, (r3.2.2.1.2.1, ())), (r3.2.2.2.1, (r3.2.2.2.2.1, (r3.2.2.2.2.2.1, (r3.2.2.2.2.2.2.1, (r3.2.2.2.2.2.2.2.1, (r3.2.2.2.2.2.2.2.2.1, (r3.2.2.2.2.2.2.2.2.2.1, (r3.2.2.2.2.2.2.2.2.2.2.1, (r3.2.2.2.2.2.2.2.2.2.2.2.1, (r3.2.2.2.2.2.2.2.2.2.2.2.2.1, (r3.2.2.2.2.2.2.2.2.2.2.2.2.2.1, (r3.2.2.2.2.2.2.2.2.2.2.2.2.2.2.1, ()))))))))))))))) h4
def deque_Pop.mk : Mk := (.s (.r [0, 1]) (.s .d .d))

def deque_Steal.M (c_deque_begin : Int → Int → Den kparkLot → Int → Heap → (Den kdequeOp → Heap → Prop) → Prop) (d1 : Den kparkLot) (h2 : Heap) (Q : Den kdequeOp → Heap → Prop) : Prop :=
    c_deque_begin 3 2 (d1.1, (d1.2.1, ())) 0 h2 fun r3 h4 =>
    Q (r3.1, (r3.2.1, ((r3.2.2.1.1, (r3.2.2.1.2.1, ())), (r3.2.2.2.1, (r3.2.2.2.2.1, (r3.2.2.2.2.2.1, (r3.2.2.2.2.2.2.1, (r3.2.2.2.2.2.2.2.1, (r3.2.2.2.2.2.2.2.2.1, (r3.2.2.2.2.2.2.2.2.2.1, (r3.2.2.2.2.2.2.2.2.2.2.1, (r3.2.2.2.2.2.2.2.2.2.2.2.1, (r3.2.2.2.2.2.2.2.2.2.2.2.2.1, (r3.2.2.2.2.2.2.2.2.2.2.2.2.2.1, (r3.2.2.2.2.2.2.2.2.2.2.2.2.2.2.1, ()))))))))))))))) h4
def deque_Steal.mk : Mk := (.s (.r [0, 1]) (.s .d .d))

def deque_Look.M (c_deque_begin : Int → Int → Den kparkLot → Int → Heap → (Den kdequeOp → Heap → Prop) → Prop) (d1 : Den kparkLot) (h2 : Heap) (Q : Den kdequeOp → Heap → Prop) : Prop :=
    c_deque_begin 4 2 (d1.1, (d1.2.1, ())) 0 h2 fun r3 h4 =>
    Q (r3.1, (r3.2.1, ((r3.2.2.1.1, (r3.2.2.1.2.1, ())), (r3.2.2.2.1, (r3.2.2.2.2.1, (r3.2.2.2.2.2.1, (r3.2.2.2.2.2.2.1, (r3.2.2.2.2.2.2.2.1, (r3.2.2.2.2.2.2.2.2.1, (r3.2.2.2.2.2.2.2.2.2.1, (r3.2.2.2.2.2.2.2.2.2.2.1, (r3.2.2.2.2.2.2.2.2.2.2.2.1, (r3.2.2.2.2.2.2.2.2.2.2.2.2.1, (r3.2.2.2.2.2.2.2.2.2.2.2.2.2.1, (r3.2.2.2.2.2.2.2.2.2.2.2.2.2.2.1, ()))))))))))))))) h4
def deque_Look.mk : Mk := (.s (.r [0, 1]) (.s .d .d))

def cells_Arena_Reserve.j1 (c_cells_ledger_refuse : Option Addr → Int → Heap → (Int → Heap → Prop) → Prop) (c_cells_ledger_take : Option Addr → Int → Heap → (Int → Heap → Prop) → Prop) (c_cells_Arena_note : Option Addr → Int → Int → Int → Int → Bool → Heap → (Unit → Heap → Prop) → Prop) (a1 : Option Addr) (n2 : Int) (Q : Den kparkLot → Heap → Prop) (s4 : (Option Addr × Unit)) (h5 : Heap) : Prop :=
    c_cells_ledger_refuse s4.1 n2 h5 fun r6 h7 =>
    (((decide (r6 ≠ 0)) = true →
    Q (0, r6, ()) h7) ∧
    ((decide (r6 ≠ 0)) = false →
    c_cells_ledger_take s4.1 n2 h7 fun r8 h9 =>
    deref a1 fun a10 =>
    ld (.sl : Kd) h9 (a10.add 2) fun t11 =>
    appendZM ((.int .i64) : Kd) 8 h9 t11 n2 fun t12 h13 =>
    deref a1 fun a14 =>
    st (.sl : Kd) h13 (a14.add 2) t12 fun h15 =>
    c_cells_Arena_note a1 4 r8 n2 0 true h15 fun r16 h17 =>
    Q (r8, 0, ()) h17))
def cells_Arena_Reserve.M (c_cells_ledger_refuse : Option Addr → Int → Heap → (Int → Heap → Prop) → Prop) (c_cells_ledger_take : Option Addr → Int → Heap → (Int → Heap → Prop) → Prop) (c_cells_Arena_note : Option Addr → Int → Int → Int → Int → Bool → Heap → (Unit → Heap → Prop) → Prop) (a1 : Option Addr) (n2 : Int) (h3 : Heap) (Q : Den kparkLot → Heap → Prop) : Prop :=
    (((Option.isSome a1) = true →
    deref a1 fun a18 =>
    cells_Arena_Reserve.j1 c_cells_ledger_refuse c_cells_ledger_take c_cells_Arena_note a1 n2 Q ((some (a18.add 0)), ()) h3) ∧
    ((Option.isSome a1) = false →
    cells_Arena_Reserve.j1 c_cells_ledger_refuse c_cells_ledger_take c_cells_Arena_note a1 n2 Q (none, ()) h3))
def cells_Arena_Reserve.mk : Mk := (.s .d (.s .d (.j [.slot 6 .ptr] (.s .d (.c .d .d)) (.s (.s .d (.s .d (.c (.s .d .d) .d))) (.s .d (.s .d (.s .d (.s .d .d))))))))

def cells_Arena_Store.M (c_cells_Arena_outside : Option Addr → Int → Heap → (Bool → Heap → Prop) → Prop) (c_cells_Arena_note : Option Addr → Int → Int → Int → Int → Bool → Heap → (Unit → Heap → Prop) → Prop) (a1 : Option Addr) (addr2 : Int) (v3 : Int) (h4 : Heap) (Q : Int → Heap → Prop) : Prop :=
    c_cells_Arena_outside a1 addr2 h4 fun r5 h6 =>
    ((r5 = true →
    Q 20 h6) ∧
    (r5 = false →
    deref a1 fun a7 =>
    ld (.sl : Kd) h6 (a7.add 2) fun t8 =>
    (0 ≤ addr2 ∧ addr2 < (t8.len : Int)) ∧
    deref t8.a fun a9 =>
    st ((.int .i64) : Kd) h6 (a9.add ((addr2 : Int).toNat * 1)) v3 fun h10 =>
    c_cells_Arena_note a1 1 addr2 v3 0 true h10 fun r11 h12 =>
    Q 0 h12))
def cells_Arena_Store.mk : Mk := (.s .d (.s (.s .d (.c (.s .d .d) .d)) (.s .d (.s .d (.s .d .d)))))

def cells_Arena_Watch.M  (a1 : Option Addr) (on2 : Bool) (h3 : Heap) (Q : Unit → Heap → Prop) : Prop :=
    (((Option.isSome a1) = true →
    deref a1 fun a4 =>
    st (.bool : Kd) h3 (a4.add 5) on2 fun h5 =>
    Q () h5) ∧
    ((Option.isSome a1) = false →
    Q () h3))
def cells_Arena_Watch.mk : Mk := (.s .d (.c .d .d))

def ref3_Mem_Do.l1 (m1 : Option Addr) (w2 : Den kref3Want) (Q : (Int × (Bool × Unit)) → Heap → Prop) (t5 : Int) (t9 : Sl) (go12 : (Int × Unit) → Heap → Prop) (s10 : (Int × Unit)) (h11 : Heap) : Prop :=
    (((decide (s10.1 < w2.2.2.1)) = true →
    deref m1 fun a13 =>
    ld (.sl : Kd) h11 (a13.add 0) fun t14 =>
    new h11 (([0] : List (Den ((.int .i64) : Kd))).flatMap (Kd.cells ((.int .i64) : Kd))) fun p15 h16 =>
    appendM 1 8 h16 t14 ⟨some p15, 1, 1⟩ fun t17 h18 =>
    deref m1 fun a19 =>
    st (.sl : Kd) h18 (a19.add 0) t17 fun h20 =>
    go12 ((w64 (s10.1 + 1)), ()) h20) ∧
    ((decide (s10.1 < w2.2.2.1)) = false →
    deref m1 fun a21 =>
    ld (.sl : Kd) h11 (a21.add 3) fun t22 =>
    new h11 (([(t5, (w2.1, ((t9.len : Int), (w2.2.2.1, (w2.2.2.2.1, (true, ()))))))] : List (Den kapiAccess)).flatMap (Kd.cells kapiAccess)) fun p23 h24 =>
    appendM 6 48 h24 t22 ⟨some p23, 1, 1⟩ fun t25 h26 =>
    deref m1 fun a27 =>
    st (.sl : Kd) h26 (a27.add 3) t25 fun h28 =>
    Q ((t9.len : Int), true, ()) h28))
def ref3_Mem_Do.j2 (m1 : Option Addr) (w2 : Den kref3Want) (Q : (Int × (Bool × Unit)) → Heap → Prop) (t5 : Int) (s6 : Unit) (h7 : Heap) : Prop :=
    deref m1 fun a8 =>
    ld (.sl : Kd) h7 (a8.add 0) fun t9 =>
    Loop (ref3_Mem_Do.l1 m1 w2 Q t5 t9) (0, ()) h7
def ref3_Mem_Do.j3 (m1 : Option Addr) (w2 : Den kref3Want) (Q : (Int × (Bool × Unit)) → Heap → Prop) (t5 : Int) (s29 : (Bool × Unit)) (h30 : Heap) : Prop :=
    ((s29.1 = true →
    Q (0, false, ()) h30) ∧
    (s29.1 = false →
    ref3_Mem_Do.j2 m1 w2 Q t5 () h30))
def ref3_Mem_Do.j4 (m1 : Option Addr) (Q : (Int × (Bool × Unit)) → Heap → Prop) (s37 : (Int × (Den kapiAccess × Unit))) (h38 : Heap) : Prop :=
    deref m1 fun a39 =>
    ld (.sl : Kd) h38 (a39.add 3) fun t40 =>
    new h38 (([(s37.2.1.1, (s37.2.1.2.1, (s37.2.1.2.2.1, (s37.2.1.2.2.2.1, (s37.2.1.2.2.2.2.1, (s37.2.1.2.2.2.2.2.1, ()))))))] : List (Den kapiAccess)).flatMap (Kd.cells kapiAccess)) fun p41 h42 =>
    appendM 6 48 h42 t40 ⟨some p41, 1, 1⟩ fun t43 h44 =>
    deref m1 fun a45 =>
    st (.sl : Kd) h44 (a45.add 3) t43 fun h46 =>
    Q (s37.1, true, ()) h46
def ref3_Mem_Do.j5 (m1 : Option Addr) (w2 : Den kref3Want) (Q : (Int × (Bool × Unit)) → Heap → Prop) (t5 : Int) (s35 : Unit) (h36 : Heap) : Prop :=
    (((decide (w2.1 = 0)) = true →
    deref m1 fun a47 =>
    ld (.sl : Kd) h36 (a47.add 0) fun t48 =>
    (0 ≤ w2.2.1 ∧ w2.2.1 < (t48.len : Int)) ∧
    deref t48.a fun a49 =>
    ld ((.int .i64) : Kd) h36 (a49.add ((w2.2.1 : Int).toNat * 1)) fun t50 =>
    ref3_Mem_Do.j4 m1 Q (t50, (t5, (w2.1, (w2.2.1, (t50, (w2.2.2.2.1, (true, ())))))), ()) h36) ∧
    ((decide (w2.1 = 0)) = false →
    (((decide (w2.1 = 1)) = true →
    deref m1 fun a51 =>
    ld (.sl : Kd) h36 (a51.add 0) fun t52 =>
    (0 ≤ w2.2.1 ∧ w2.2.1 < (t52.len : Int)) ∧
    deref t52.a fun a53 =>
    st ((.int .i64) : Kd) h36 (a53.add ((w2.2.1 : Int).toNat * 1)) w2.2.2.1 fun h54 =>
    ref3_Mem_Do.j4 m1 Q (0, (t5, (w2.1, (w2.2.1, (w2.2.2.1, (w2.2.2.2.1, (true, ())))))), ()) h54) ∧
    ((decide (w2.1 = 1)) = false →
    (((decide (w2.1 = 3)) = true →
    deref m1 fun a55 =>
    deref m1 fun a56 =>
    ld (.sl : Kd) h36 (a55.add 0) fun t57 =>
    ld (.sl : Kd) h36 (a56.add 0) fun t58 =>
    (0 ≤ w2.2.1 ∧ w2.2.1 < (t58.len : Int)) ∧
    deref t58.a fun a59 =>
    ld ((.int .i64) : Kd) h36 (a59.add ((w2.2.1 : Int).toNat * 1)) fun t60 =>
    (0 ≤ w2.2.1 ∧ w2.2.1 < (t57.len : Int)) ∧
    deref t57.a fun a61 =>
    st ((.int .i64) : Kd) h36 (a61.add ((w2.2.1 : Int).toNat * 1)) (w64 (t60 + w2.2.2.1)) fun h62 =>
    deref m1 fun a63 =>
    ld (.sl : Kd) h62 (a63.add 0) fun t64 =>
    (0 ≤ w2.2.1 ∧ w2.2.1 < (t64.len : Int)) ∧
    deref t64.a fun a65 =>
    ld ((.int .i64) : Kd) h62 (a65.add ((w2.2.1 : Int).toNat * 1)) fun t66 =>
    ref3_Mem_Do.j4 m1 Q (t66, (t5, (w2.1, (w2.2.1, (w2.2.2.1, (t66, (true, ())))))), ()) h62) ∧
    ((decide (w2.1 = 3)) = false →
    (((decide (w2.1 = 2)) = true →
    deref m1 fun a67 =>
    ld (.sl : Kd) h36 (a67.add 0) fun t68 =>
    (0 ≤ w2.2.1 ∧ w2.2.1 < (t68.len : Int)) ∧
    deref t68.a fun a69 =>
    ld ((.int .i64) : Kd) h36 (a69.add ((w2.2.1 : Int).toNat * 1)) fun t70 =>
    (((decide (t70 = w2.2.2.1)) = true →
    deref m1 fun a71 =>
    ld (.sl : Kd) h36 (a71.add 0) fun t72 =>
    (0 ≤ w2.2.1 ∧ w2.2.1 < (t72.len : Int)) ∧
    deref t72.a fun a73 =>
    st ((.int .i64) : Kd) h36 (a73.add ((w2.2.1 : Int).toNat * 1)) w2.2.2.2.1 fun h74 =>
    ref3_Mem_Do.j4 m1 Q (1, (t5, (w2.1, (w2.2.1, (w2.2.2.1, (w2.2.2.2.1, ((decide (t70 = w2.2.2.1)), ())))))), ()) h74) ∧
    ((decide (t70 = w2.2.2.1)) = false →
    ref3_Mem_Do.j4 m1 Q (0, (t5, (w2.1, (w2.2.1, (w2.2.2.1, (w2.2.2.2.1, ((decide (t70 = w2.2.2.1)), ())))))), ()) h36))) ∧
    ((decide (w2.1 = 2)) = false →
    ref3_Mem_Do.j4 m1 Q (0, (t5, (w2.1, (w2.2.1, (w2.2.2.1, (w2.2.2.2.1, (true, ())))))), ()) h36))))))))
def ref3_Mem_Do.j6 (m1 : Option Addr) (w2 : Den kref3Want) (Q : (Int × (Bool × Unit)) → Heap → Prop) (t5 : Int) (s75 : (Bool × Unit)) (h76 : Heap) : Prop :=
    ((s75.1 = true →
    Q (0, false, ()) h76) ∧
    (s75.1 = false →
    ref3_Mem_Do.j5 m1 w2 Q t5 () h76))
def ref3_Mem_Do.M  (m1 : Option Addr) (w2 : Den kref3Want) (h3 : Heap) (Q : (Int × (Bool × Unit)) → Heap → Prop) : Prop :=
    deref m1 fun a4 =>
    ld ((.int .i64) : Kd) h3 (a4.add 2) fun t5 =>
    (((decide (w2.1 = 4)) = true →
    (((decide (w2.2.2.1 < 1)) = true →
    ref3_Mem_Do.j3 m1 w2 Q t5 (true, ()) h3) ∧
    ((decide (w2.2.2.1 < 1)) = false →
    deref m1 fun a31 =>
    deref m1 fun a32 =>
    ld ((.int .i64) : Kd) h3 (a31.add 1) fun t33 =>
    ld (.sl : Kd) h3 (a32.add 0) fun t34 =>
    ref3_Mem_Do.j3 m1 w2 Q t5 ((decide ((w64 (t33 - (t34.len : Int))) < w2.2.2.1)), ()) h3))) ∧
    ((decide (w2.1 = 4)) = false →
    (((decide (w2.2.1 < 0)) = true →
    ref3_Mem_Do.j6 m1 w2 Q t5 (true, ()) h3) ∧
    ((decide (w2.2.1 < 0)) = false →
    deref m1 fun a77 =>
    ld (.sl : Kd) h3 (a77.add 0) fun t78 =>
    ref3_Mem_Do.j6 m1 w2 Q t5 ((decide ((t78.len : Int) ≤ w2.2.1)), ()) h3))))
def ref3_Mem_Do.mk : Mk := (.s (.r [0]) (.s (.q [13] [6] [.p 0, .p 1, .p 2, .p 4, .p 6, .p 8, .p 10, .w 3 [3, 12, 14], .w 5 [5, 12, 14], .w 7 [7, 12, 14], .w 9 [9, 12, 14], .w 11 [11, 12, 14], .p 12, .o 13, .o 14]) (.s (.s .d (.c (.j [] (.j [.slot 42 .bool] (.q [] [] [.p 0, .w 1 [1, 2, 3, 4, 5, 6, 7, 8, 9, 10, 11, 12, 13, 14, 15, 16, 17], .p 2, .p 3, .p 4, .p 6, .p 7, .p 8, .p 10, .p 11, .p 12, .w 5 [5, 16, 17], .w 9 [9, 15, 16, 17], .w 13 [13, 14, 15, 16, 17], .p 14, .p 15, .p 16, .p 17]) (.c (.s .d .d) .d)) (.s .d (.s (.s .d (.b (.l [.slot 7 (.int .i64)] (.s (.s .d (.c .d .d)) (.s (.b .d) .d))))) (.s (.q [] [] [.p 0, .p 1, .p 2, .p 3, .w 4 [4, 7, 8, 9, 10], .w 5 [5, 6, 7, 8, 9, 10], .o 6, .o 7, .p 8, .p 9, .o 10]) (.s .d .d))))) .d)) (.j [] (.j [.slot 88 .bool] (.q [] [] [.p 0, .w 1 [1, 2, 3, 4, 5, 6, 7, 8, 9, 10, 11, 12], .p 2, .p 3, .p 4, .p 6, .p 7, .p 8, .w 5 [5, 11, 12], .w 9 [9, 10, 11, 12], .p 10, .p 11, .p 12]) (.c (.s .d .d) .d)) (.s .d (.j [.slot 8 (.int .i64), .box 6 kapiAccess] (.s .d (.b (.s .d (.c (.s (.q [] [] [.p 0, .p 1, .p 2, .p 4, .w 3 [3, 6, 7, 8], .w 5 [5, 6, 7, 8], .p 6, .w 7 [7, 8], .p 8]) .d) (.s .d (.c (.q [] [] [.p 0, .p 1, .p 2, .p 4, .p 6, .w 3 [3, 8, 9], .w 5 [5, 8, 9], .w 7 [7, 8, 9], .p 8, .o 9]) (.s .d (.c (.s (.q [] [] [.p 0, .p 1, .p 2, .p 4, .p 6, .p 7, .p 8, .p 10, .p 14, .w 3 [3, 17, 18], .w 5 [5, 17, 18], .w 9 [9, 12, 13, 16, 17, 18], .w 11 [11, 12, 13, 16, 17, 18], .p 12, .w 13 [13, 16, 17, 18], .w 15 [15, 16, 17, 18], .p 16, .p 17, .o 18]) (.s (.q [] [] [.p 0, .p 1, .p 2, .p 4, .w 3 [3, 6, 7, 8], .w 5 [5, 6, 7, 8], .p 6, .w 7 [7, 8], .p 8]) .d)) (.s .d (.c (.s (.q [] [6] [.p 0, .p 1, .p 2, .p 4, .p 8, .w 3 [3, 6, 7, 10, 11, 12], .w 5 [5, 6, 7, 10, 11, 12], .p 6, .w 7 [7, 10, 11, 12], .w 9 [9, 10, 11, 12], .p 10, .p 11, .o 12]) (.s .d (.c (.s (.q [] [] [.p 0, .p 1, .p 2, .p 4, .p 6, .w 3 [3, 8, 9], .w 5 [5, 8, 9], .w 7 [7, 8, 9], .p 8, .o 9]) .d) .d))) .d)))))))))) (.s (.q [] [] [.p 0, .p 1, .p 2, .p 3, .w 4 [4, 7, 8, 9, 10], .w 5 [5, 6, 7, 8, 9, 10], .o 6, .o 7, .p 8, .p 9, .o 10]) (.s .d .d))))))))

def deque_capsOK.M  (low1 : Int) (most2 : Int) (h3 : Heap) (Q : Bool → Heap → Prop) : Prop :=
    (((decide ((1 : Int) ≤ low1)) = true →
    (((decide (low1 ≤ most2)) = true →
    Q (decide (most2 ≤ 4096)) h3) ∧
    ((decide (low1 ≤ most2)) = false →
    Q false h3))) ∧
    ((decide ((1 : Int) ≤ low1)) = false →
    Q false h3))
def deque_capsOK.mk : Mk := (.s .d (.s .d .d))

def ref3_CapOK.M  (first1 : Int) (most2 : Int) (h3 : Heap) (Q : Bool → Heap → Prop) : Prop :=
    (((decide ((1 : Int) ≤ first1)) = true →
    (((decide (first1 ≤ most2)) = true →
    Q (decide (most2 ≤ 4096)) h3) ∧
    ((decide (first1 ≤ most2)) = false →
    Q false h3))) ∧
    ((decide ((1 : Int) ≤ first1)) = false →
    Q false h3))
def ref3_CapOK.mk : Mk := (.s .d (.s .d .d))

def ref3_store.M  (addr1 : Int) (v2 : Int) (h3 : Heap) (Q : Den kref3Want → Heap → Prop) : Prop :=
    Q (1, (addr1, (v2, (0, (0, (0, ())))))) h3
def ref3_store.mk : Mk := (.s (.r [0]) (.s .d .d))

def deque_Op_over.M  (o1 : Den kdequeOp) (code2 : Int) (v3 : Int) (h4 : Heap) (Q : Den kdequeOp → Heap → Prop) : Prop :=
    Q (o1.1, (0, ((o1.2.2.1.1, (o1.2.2.1.2.1, ())), (o1.2.2.2.1, (o1.2.2.2.2.1, (o1.2.2.2.2.2.1, (o1.2.2.2.2.2.2.1, (o1.2.2.2.2.2.2.2.1, (o1.2.2.2.2.2.2.2.2.1, (o1.2.2.2.2.2.2.2.2.2.1, (o1.2.2.2.2.2.2.2.2.2.2.1, (o1.2.2.2.2.2.2.2.2.2.2.2.1, (o1.2.2.2.2.2.2.2.2.2.2.2.2.1, (code2, (v3, ()))))))))))))))) h4
def deque_Op_over.mk : Mk := (.s (.r [0, 1]) (.s .d (.s .d .d)))

def deque_Op_access.j1 (c_inv_Load : Value → Int → Heap → (Den kparkLot → Heap → Prop) → Prop) (c_deque_place : Int → Int → Int → Heap → (Int → Heap → Prop) → Prop) (c_nil : Value → Prop) (o1 : Den kdequeOp) (m2 : Value) (Q : Den kparkLot → Heap → Prop) (s34 : (Int × Unit)) (h35 : Heap) : Prop :=
    c_nil (Value.func (.method "Load") (List.toArray [Kd.val (.iface : Kd) m2]) (List.toArray [])) ∧
    c_deque_place o1.2.2.2.2.2.2.1 o1.2.2.2.2.2.2.2.1 s34.1 h35 fun r36 h37 =>
    c_inv_Load m2 r36 h37 fun r38 h39 =>
    Q (r38.1, r38.2.1, ()) h39
def deque_Op_access.M (c_inv_Load : Value → Int → Heap → (Den kparkLot → Heap → Prop) → Prop) (c_inv_Reserve : Value → Int → Heap → (Den kparkLot → Heap → Prop) → Prop) (c_inv_Store : Value → Int → Int → Heap → (Int → Heap → Prop) → Prop) (c_deque_place : Int → Int → Int → Heap → (Int → Heap → Prop) → Prop) (c_deque_Op_next : Den kdequeOp → Heap → (Int → Heap → Prop) → Prop) (c_inv_CAS : Value → Int → Int → Int → Heap → ((Bool × (Int × Unit)) → Heap → Prop) → Prop) (c_nil : Value → Prop) (o1 : Den kdequeOp) (m2 : Value) (h3 : Heap) (Q : Den kparkLot → Heap → Prop) : Prop :=
    (((decide (o1.2.1 = 1)) = true →
    c_inv_Load m2 (w64 (o1.2.2.1.1 + 1)) h3 fun r4 h5 =>
    Q (r4.1, r4.2.1, ()) h5) ∧
    ((decide (o1.2.1 = 1)) = false →
    (((decide (o1.2.1 = 2)) = true →
    c_inv_Load m2 (w64 (o1.2.2.1.1 + 0)) h3 fun r6 h7 =>
    Q (r6.1, r6.2.1, ()) h7) ∧
    ((decide (o1.2.1 = 2)) = false →
    (((decide (o1.2.1 = 3)) = true →
    c_inv_Load m2 (w64 (o1.2.2.1.1 + 2)) h3 fun r8 h9 =>
    Q (r8.1, r8.2.1, ()) h9) ∧
    ((decide (o1.2.1 = 3)) = false →
    (((decide (o1.2.1 = 4)) = true →
    c_inv_Load m2 o1.2.2.2.2.2.2.1 h3 fun r10 h11 =>
    Q (r10.1, r10.2.1, ()) h11) ∧
    ((decide (o1.2.1 = 4)) = false →
    (((decide (o1.2.1 = 5)) = true →
    c_inv_Reserve m2 (w64 (1 + o1.2.2.2.2.2.2.2.2.2.1)) h3 fun r12 h13 =>
    Q (r12.1, r12.2.1, ()) h13) ∧
    ((decide (o1.2.1 = 5)) = false →
    (((decide (o1.2.1 = 6)) = true →
    c_inv_Store m2 o1.2.2.2.2.2.2.2.2.1 o1.2.2.2.2.2.2.2.2.2.1 h3 fun r14 h15 =>
    Q (0, r14, ()) h15) ∧
    ((decide (o1.2.1 = 6)) = false →
    (((decide (o1.2.1 = 7)) = true →
    c_nil (Value.func (.method "Load") (List.toArray [Kd.val (.iface : Kd) m2]) (List.toArray [])) ∧
    c_deque_place o1.2.2.2.2.2.2.1 o1.2.2.2.2.2.2.2.1 o1.2.2.2.2.2.2.2.2.2.2.1 h3 fun r16 h17 =>
    c_inv_Load m2 r16 h17 fun r18 h19 =>
    Q (r18.1, r18.2.1, ()) h19) ∧
    ((decide (o1.2.1 = 7)) = false →
    (((decide (o1.2.1 = 8)) = true →
    c_nil (Value.func (.method "Store") (List.toArray [Kd.val (.iface : Kd) m2]) (List.toArray [])) ∧
    c_deque_place o1.2.2.2.2.2.2.2.2.1 o1.2.2.2.2.2.2.2.2.2.1 o1.2.2.2.2.2.2.2.2.2.2.1 h3 fun r20 h21 =>
    c_inv_Store m2 r20 o1.2.2.2.2.2.2.2.2.2.2.2.1 h21 fun r22 h23 =>
    Q (0, r22, ()) h23) ∧
    ((decide (o1.2.1 = 8)) = false →
    (((decide (o1.2.1 = 9)) = true →
    c_inv_Store m2 (w64 (o1.2.2.1.1 + 2)) o1.2.2.2.2.2.2.2.2.1 h3 fun r24 h25 =>
    Q (0, r24, ()) h25) ∧
    ((decide (o1.2.1 = 9)) = false →
    (((decide (o1.2.1 = 10)) = true →
    c_nil (Value.func (.method "Store") (List.toArray [Kd.val (.iface : Kd) m2]) (List.toArray [])) ∧
    c_deque_place o1.2.2.2.2.2.2.1 o1.2.2.2.2.2.2.2.1 o1.2.2.2.2.2.1 h3 fun r26 h27 =>
    c_inv_Store m2 r26 o1.2.2.2.1 h27 fun r28 h29 =>
    Q (0, r28, ()) h29) ∧
    ((decide (o1.2.1 = 10)) = false →
    (((decide (o1.2.1 = 11)) = true →
    c_nil (Value.func (.method "Store") (List.toArray [Kd.val (.iface : Kd) m2]) (List.toArray [])) ∧
    c_deque_Op_next (o1.1, (o1.2.1, ((o1.2.2.1.1, (o1.2.2.1.2.1, ())), (o1.2.2.2.1, (o1.2.2.2.2.1, (o1.2.2.2.2.2.1, (o1.2.2.2.2.2.2.1, (o1.2.2.2.2.2.2.2.1, (o1.2.2.2.2.2.2.2.2.1, (o1.2.2.2.2.2.2.2.2.2.1, (o1.2.2.2.2.2.2.2.2.2.2.1, (o1.2.2.2.2.2.2.2.2.2.2.2.1, (o1.2.2.2.2.2.2.2.2.2.2.2.2.1, (o1.2.2.2.2.2.2.2.2.2.2.2.2.2.1, (o1.2.2.2.2.2.2.2.2.2.2.2.2.2.2.1, ()))))))))))))))) h3 fun r30 h31 =>
    c_inv_Store m2 (w64 (o1.2.2.1.1 + 1)) r30 h31 fun r32 h33 =>
    Q (0, r32, ()) h33) ∧
    ((decide (o1.2.1 = 11)) = false →
    (((decide (o1.2.1 = 12)) = true →
    (((decide (o1.1 = 2)) = true →
    deque_Op_access.j1 c_inv_Load c_deque_place c_nil o1 m2 Q (o1.2.2.2.2.2.1, ()) h3) ∧
    ((decide (o1.1 = 2)) = false →
    deque_Op_access.j1 c_inv_Load c_deque_place c_nil o1 m2 Q (o1.2.2.2.2.1, ()) h3))) ∧
    ((decide (o1.2.1 = 12)) = false →
    c_inv_CAS m2 (w64 (o1.2.2.1.1 + 0)) o1.2.2.2.2.1 (w64 (o1.2.2.2.2.1 + 1)) h3 fun r40 h41 =>
    ((r40.1 = true →
    Q (1, r40.2.1, ()) h41) ∧
    (r40.1 = false →
    Q (0, r40.2.1, ()) h41))))))))))))))))))))))))))
def deque_Op_access.mk : Mk := (.s (.r [0]) (.s .d (.s (.s .d (.b (.s .d (.c (.s .d .d) (.s .d (.c (.s .d .d) (.s .d (.c (.s .d .d) (.s .d (.c (.s .d .d) (.s .d (.c (.s .d (.s .d .d)) (.s .d (.c (.s .d .d) (.s .d (.c (.s (.q [] [] [.p 0, .p 1, .p 3, .p 5, .p 8, .p 9, .p 10, .w 2 [2, 7, 11, 12, 13, 14, 15], .w 4 [4, 7, 11, 12, 13, 14, 15], .w 6 [6, 7, 11, 12, 13, 14, 15], .o 7, .o 11, .p 12, .p 13, .p 14, .p 15]) .d) (.s .d (.c (.s (.q [] [] [.p 0, .p 1, .p 3, .p 5, .p 8, .p 10, .p 11, .p 12, .w 2 [2, 7, 13, 14, 15], .w 4 [4, 7, 13, 14, 15], .w 6 [6, 7, 13, 14, 15], .w 9 [9, 13, 14, 15], .o 7, .o 13, .p 14, .p 15]) .d) (.s .d (.c (.s .d .d) (.s .d (.c (.s (.q [] [] [.p 0, .p 1, .p 3, .p 5, .p 8, .p 10, .p 11, .p 12, .w 2 [2, 7, 13, 14, 15], .w 4 [4, 7, 13, 14, 15], .w 6 [6, 7, 13, 14, 15], .w 9 [9, 13, 14, 15], .o 7, .o 13, .p 14, .p 15]) .d) (.s .d (.c (.s (.q [] [] [.p 0, .p 1, .p 2, .p 5, .p 6, .p 7, .w 3 [3, 4, 8, 9, 10], .o 4, .o 8, .p 9, .p 10]) .d) (.s .d (.c (.s .d (.j [.slot 9 (.int .i64)] (.s .d (.c .d .d)) (.s (.q [] [] [.p 0, .p 1, .p 3, .p 5, .p 7, .p 8, .p 9, .w 2 [2, 6, 10, 11, 12, 13, 14], .w 4 [4, 6, 10, 11, 12, 13, 14], .o 6, .o 10, .p 11, .p 12, .p 13, .p 14]) .d))) .d)))))))))))))))))))))))))) (.s .d (.s (.s .d (.c (.s .d .d) .d)) (.s .d .d))))))

def deque_Op_pushed.j1 (Q : Den kdequeOp → Heap → Prop) (s4 : ((Int × (Int × (Int × (Int × (Int × (Int × (Int × (Int × (Int × (Int × (Int × (Int × (Int × (Bool × Den kparkLot)))))))))))))) × ((Int × (Int × (Int × (Int × (Int × (Int × (Int × (Int × (Int × (Int × (Int × (Int × (Int × (Bool × Den kparkLot)))))))))))))) × Unit))) (h5 : Heap) : Prop :=
    Q (s4.1.1, (s4.1.2.1, ((s4.1.2.2.1, (s4.1.2.2.2.1, ())), (s4.1.2.2.2.2.1, (s4.1.2.2.2.2.2.1, (s4.1.2.2.2.2.2.2.1, (s4.1.2.2.2.2.2.2.2.1, (s4.1.2.2.2.2.2.2.2.2.1, (s4.1.2.2.2.2.2.2.2.2.2.1, (s4.1.2.2.2.2.2.2.2.2.2.2.1, (s4.1.2.2.2.2.2.2.2.2.2.2.2.1, (s4.1.2.2.2.2.2.2.2.2.2.2.2.2.1, (s4.1.2.2.2.2.2.2.2.2.2.2.2.2.2.1, (s4.1.2.2.2.2.2.2.2.2.2.2.2.2.2.2.1, (s4.1.2.2.2.2.2.2.2.2.2.2.2.2.2.2.2.1, ()))))))))))))))) h5
def deque_Op_pushed.M (c_deque_Op_over : Den kdequeOp → Int → Int → Heap → (Den kdequeOp → Heap → Prop) → Prop) (o1 : Den kdequeOp) (got2 : Int) (h3 : Heap) (Q : Den kdequeOp → Heap → Prop) : Prop :=
    (((decide (o1.2.1 = 1)) = true →
    deque_Op_pushed.j1 Q ((o1.1, (2, (o1.2.2.1.1, (o1.2.2.1.2.1, (o1.2.2.2.1, (o1.2.2.2.2.1, (got2, (o1.2.2.2.2.2.2.1, (o1.2.2.2.2.2.2.2.1, (o1.2.2.2.2.2.2.2.2.1, (o1.2.2.2.2.2.2.2.2.2.1, (o1.2.2.2.2.2.2.2.2.2.2.1, (o1.2.2.2.2.2.2.2.2.2.2.2.1, (o1.2.2.2.2.2.2.2.2.2.2.2.2.1, (o1.2.2.2.2.2.2.2.2.2.2.2.2.2.1, (o1.2.2.2.2.2.2.2.2.2.2.2.2.2.2.1, ())))))))))))))))), (0, (0, (0, (0, (0, (0, (0, (0, (0, (0, (0, (0, (0, (false, (0, (0, ())))))))))))))))), ()) h3) ∧
    ((decide (o1.2.1 = 1)) = false →
    (((decide (o1.2.1 = 2)) = true →
    deque_Op_pushed.j1 Q ((o1.1, (3, (o1.2.2.1.1, (o1.2.2.1.2.1, (o1.2.2.2.1, (got2, (o1.2.2.2.2.2.1, (o1.2.2.2.2.2.2.1, (o1.2.2.2.2.2.2.2.1, (o1.2.2.2.2.2.2.2.2.1, (o1.2.2.2.2.2.2.2.2.2.1, (o1.2.2.2.2.2.2.2.2.2.2.1, (o1.2.2.2.2.2.2.2.2.2.2.2.1, (o1.2.2.2.2.2.2.2.2.2.2.2.2.1, (o1.2.2.2.2.2.2.2.2.2.2.2.2.2.1, (o1.2.2.2.2.2.2.2.2.2.2.2.2.2.2.1, ())))))))))))))))), (0, (0, (0, (0, (0, (0, (0, (0, (0, (0, (0, (0, (0, (false, (0, (0, ())))))))))))))))), ()) h3) ∧
    ((decide (o1.2.1 = 2)) = false →
    (((decide (o1.2.1 = 3)) = true →
    deque_Op_pushed.j1 Q ((o1.1, (4, (o1.2.2.1.1, (o1.2.2.1.2.1, (o1.2.2.2.1, (o1.2.2.2.2.1, (o1.2.2.2.2.2.1, (got2, (o1.2.2.2.2.2.2.2.1, (o1.2.2.2.2.2.2.2.2.1, (o1.2.2.2.2.2.2.2.2.2.1, (o1.2.2.2.2.2.2.2.2.2.2.1, (o1.2.2.2.2.2.2.2.2.2.2.2.1, (o1.2.2.2.2.2.2.2.2.2.2.2.2.1, (o1.2.2.2.2.2.2.2.2.2.2.2.2.2.1, (o1.2.2.2.2.2.2.2.2.2.2.2.2.2.2.1, ())))))))))))))))), (0, (0, (0, (0, (0, (0, (0, (0, (0, (0, (0, (0, (0, (false, (0, (0, ())))))))))))))))), ()) h3) ∧
    ((decide (o1.2.1 = 3)) = false →
    (((decide (o1.2.1 = 4)) = true →
    (((decide (got2 < 1)) = true →
    c_deque_Op_over (o1.1, (10, ((o1.2.2.1.1, (o1.2.2.1.2.1, ())), (o1.2.2.2.1, (o1.2.2.2.2.1, (o1.2.2.2.2.2.1, (o1.2.2.2.2.2.2.1, (got2, (o1.2.2.2.2.2.2.2.2.1, (o1.2.2.2.2.2.2.2.2.2.1, (o1.2.2.2.2.2.2.2.2.2.2.1, (o1.2.2.2.2.2.2.2.2.2.2.2.1, (o1.2.2.2.2.2.2.2.2.2.2.2.2.1, (o1.2.2.2.2.2.2.2.2.2.2.2.2.2.1, (o1.2.2.2.2.2.2.2.2.2.2.2.2.2.2.1, ()))))))))))))))) 1 0 h3 fun r6 h7 =>
    Q (r6.1, (r6.2.1, ((r6.2.2.1.1, (r6.2.2.1.2.1, ())), (r6.2.2.2.1, (r6.2.2.2.2.1, (r6.2.2.2.2.2.1, (r6.2.2.2.2.2.2.1, (r6.2.2.2.2.2.2.2.1, (r6.2.2.2.2.2.2.2.2.1, (r6.2.2.2.2.2.2.2.2.2.1, (r6.2.2.2.2.2.2.2.2.2.2.1, (r6.2.2.2.2.2.2.2.2.2.2.2.1, (r6.2.2.2.2.2.2.2.2.2.2.2.2.1, (r6.2.2.2.2.2.2.2.2.2.2.2.2.2.1, (r6.2.2.2.2.2.2.2.2.2.2.2.2.2.2.1, ()))))))))))))))) h7) ∧
    ((decide (got2 < 1)) = false →
    (((decide ((w64 (o1.2.2.2.2.2.1 - o1.2.2.2.2.1)) < got2)) = true →
    deque_Op_pushed.j1 Q ((o1.1, (10, (o1.2.2.1.1, (o1.2.2.1.2.1, (o1.2.2.2.1, (o1.2.2.2.2.1, (o1.2.2.2.2.2.1, (o1.2.2.2.2.2.2.1, (got2, (o1.2.2.2.2.2.2.2.2.1, (o1.2.2.2.2.2.2.2.2.2.1, (o1.2.2.2.2.2.2.2.2.2.2.1, (o1.2.2.2.2.2.2.2.2.2.2.2.1, (o1.2.2.2.2.2.2.2.2.2.2.2.2.1, (o1.2.2.2.2.2.2.2.2.2.2.2.2.2.1, (o1.2.2.2.2.2.2.2.2.2.2.2.2.2.2.1, ())))))))))))))))), (0, (0, (0, (0, (0, (0, (0, (0, (0, (0, (0, (0, (0, (false, (0, (0, ())))))))))))))))), ()) h3) ∧
    ((decide ((w64 (o1.2.2.2.2.2.1 - o1.2.2.2.2.1)) < got2)) = false →
    (((decide (o1.2.2.1.2.1 ≤ got2)) = true →
    c_deque_Op_over (o1.1, (10, ((o1.2.2.1.1, (o1.2.2.1.2.1, ())), (o1.2.2.2.1, (o1.2.2.2.2.1, (o1.2.2.2.2.2.1, (o1.2.2.2.2.2.2.1, (got2, (o1.2.2.2.2.2.2.2.2.1, (o1.2.2.2.2.2.2.2.2.2.1, (o1.2.2.2.2.2.2.2.2.2.2.1, (o1.2.2.2.2.2.2.2.2.2.2.2.1, (o1.2.2.2.2.2.2.2.2.2.2.2.2.1, (o1.2.2.2.2.2.2.2.2.2.2.2.2.2.1, (o1.2.2.2.2.2.2.2.2.2.2.2.2.2.2.1, ()))))))))))))))) 3 0 h3 fun r8 h9 =>
    Q (r8.1, (r8.2.1, ((r8.2.2.1.1, (r8.2.2.1.2.1, ())), (r8.2.2.2.1, (r8.2.2.2.2.1, (r8.2.2.2.2.2.1, (r8.2.2.2.2.2.2.1, (r8.2.2.2.2.2.2.2.1, (r8.2.2.2.2.2.2.2.2.1, (r8.2.2.2.2.2.2.2.2.2.1, (r8.2.2.2.2.2.2.2.2.2.2.1, (r8.2.2.2.2.2.2.2.2.2.2.2.1, (r8.2.2.2.2.2.2.2.2.2.2.2.2.1, (r8.2.2.2.2.2.2.2.2.2.2.2.2.2.1, (r8.2.2.2.2.2.2.2.2.2.2.2.2.2.2.1, ()))))))))))))))) h9) ∧
    ((decide (o1.2.2.1.2.1 ≤ got2)) = false →
    deque_Op_pushed.j1 Q ((o1.1, (5, (o1.2.2.1.1, (o1.2.2.1.2.1, (o1.2.2.2.1, (o1.2.2.2.2.1, (o1.2.2.2.2.2.1, (o1.2.2.2.2.2.2.1, (got2, (o1.2.2.2.2.2.2.2.2.1, ((if o1.2.2.1.2.1 < (w64 (2 * got2)) then o1.2.2.1.2.1 else (w64 (2 * got2))), (o1.2.2.2.2.2.2.2.2.2.2.1, (o1.2.2.2.2.2.2.2.2.2.2.2.1, (o1.2.2.2.2.2.2.2.2.2.2.2.2.1, (o1.2.2.2.2.2.2.2.2.2.2.2.2.2.1, (o1.2.2.2.2.2.2.2.2.2.2.2.2.2.2.1, ())))))))))))))))), (0, (0, (0, (0, (0, (0, (0, (0, (0, (0, (0, (0, (0, (false, (0, (0, ())))))))))))))))), ()) h3))))))) ∧
    ((decide (o1.2.1 = 4)) = false →
    (((decide (o1.2.1 = 5)) = true →
    deque_Op_pushed.j1 Q ((o1.1, (6, (o1.2.2.1.1, (o1.2.2.1.2.1, (o1.2.2.2.1, (o1.2.2.2.2.1, (o1.2.2.2.2.2.1, (o1.2.2.2.2.2.2.1, (o1.2.2.2.2.2.2.2.1, (got2, (o1.2.2.2.2.2.2.2.2.2.1, (o1.2.2.2.2.2.2.2.2.2.2.1, (o1.2.2.2.2.2.2.2.2.2.2.2.1, (o1.2.2.2.2.2.2.2.2.2.2.2.2.1, (o1.2.2.2.2.2.2.2.2.2.2.2.2.2.1, (o1.2.2.2.2.2.2.2.2.2.2.2.2.2.2.1, ())))))))))))))))), (0, (0, (0, (0, (0, (0, (0, (0, (0, (0, (0, (0, (0, (false, (0, (0, ())))))))))))))))), ()) h3) ∧
    ((decide (o1.2.1 = 5)) = false →
    (((decide (o1.2.1 = 6)) = true →
    deque_Op_pushed.j1 Q ((o1.1, (7, (o1.2.2.1.1, (o1.2.2.1.2.1, (o1.2.2.2.1, (o1.2.2.2.2.1, (o1.2.2.2.2.2.1, (o1.2.2.2.2.2.2.1, (o1.2.2.2.2.2.2.2.1, (o1.2.2.2.2.2.2.2.2.1, (o1.2.2.2.2.2.2.2.2.2.1, (o1.2.2.2.2.1, (o1.2.2.2.2.2.2.2.2.2.2.2.1, (o1.2.2.2.2.2.2.2.2.2.2.2.2.1, (o1.2.2.2.2.2.2.2.2.2.2.2.2.2.1, (o1.2.2.2.2.2.2.2.2.2.2.2.2.2.2.1, ())))))))))))))))), (0, (0, (0, (0, (0, (0, (0, (0, (0, (0, (0, (0, (0, (false, (0, (0, ())))))))))))))))), ()) h3) ∧
    ((decide (o1.2.1 = 6)) = false →
    (((decide (o1.2.1 = 7)) = true →
    deque_Op_pushed.j1 Q ((o1.1, (8, (o1.2.2.1.1, (o1.2.2.1.2.1, (o1.2.2.2.1, (o1.2.2.2.2.1, (o1.2.2.2.2.2.1, (o1.2.2.2.2.2.2.1, (o1.2.2.2.2.2.2.2.1, (o1.2.2.2.2.2.2.2.2.1, (o1.2.2.2.2.2.2.2.2.2.1, (o1.2.2.2.2.2.2.2.2.2.2.1, (got2, (o1.2.2.2.2.2.2.2.2.2.2.2.2.1, (o1.2.2.2.2.2.2.2.2.2.2.2.2.2.1, (o1.2.2.2.2.2.2.2.2.2.2.2.2.2.2.1, ())))))))))))))))), (0, (0, (0, (0, (0, (0, (0, (0, (0, (0, (0, (0, (0, (false, (0, (0, ())))))))))))))))), ()) h3) ∧
    ((decide (o1.2.1 = 7)) = false →
    (((decide (o1.2.1 = 8)) = true →
    (((decide ((w64 (o1.2.2.2.2.2.2.2.2.2.2.1 + 1)) = o1.2.2.2.2.2.1)) = true →
    deque_Op_pushed.j1 Q ((o1.1, (9, (o1.2.2.1.1, (o1.2.2.1.2.1, (o1.2.2.2.1, (o1.2.2.2.2.1, (o1.2.2.2.2.2.1, (o1.2.2.2.2.2.2.1, (o1.2.2.2.2.2.2.2.1, (o1.2.2.2.2.2.2.2.2.1, (o1.2.2.2.2.2.2.2.2.2.1, ((w64 (o1.2.2.2.2.2.2.2.2.2.2.1 + 1)), (o1.2.2.2.2.2.2.2.2.2.2.2.1, (o1.2.2.2.2.2.2.2.2.2.2.2.2.1, (o1.2.2.2.2.2.2.2.2.2.2.2.2.2.1, (o1.2.2.2.2.2.2.2.2.2.2.2.2.2.2.1, ())))))))))))))))), (0, (0, (0, (0, (0, (0, (0, (0, (0, (0, (0, (0, (0, (false, (0, (0, ())))))))))))))))), ()) h3) ∧
    ((decide ((w64 (o1.2.2.2.2.2.2.2.2.2.2.1 + 1)) = o1.2.2.2.2.2.1)) = false →
    deque_Op_pushed.j1 Q ((o1.1, (7, (o1.2.2.1.1, (o1.2.2.1.2.1, (o1.2.2.2.1, (o1.2.2.2.2.1, (o1.2.2.2.2.2.1, (o1.2.2.2.2.2.2.1, (o1.2.2.2.2.2.2.2.1, (o1.2.2.2.2.2.2.2.2.1, (o1.2.2.2.2.2.2.2.2.2.1, ((w64 (o1.2.2.2.2.2.2.2.2.2.2.1 + 1)), (o1.2.2.2.2.2.2.2.2.2.2.2.1, (o1.2.2.2.2.2.2.2.2.2.2.2.2.1, (o1.2.2.2.2.2.2.2.2.2.2.2.2.2.1, (o1.2.2.2.2.2.2.2.2.2.2.2.2.2.2.1, ())))))))))))))))), (0, (0, (0, (0, (0, (0, (0, (0, (0, (0, (0, (0, (0, (false, (0, (0, ())))))))))))))))), ()) h3))) ∧
    ((decide (o1.2.1 = 8)) = false →
    (((decide (o1.2.1 = 9)) = true →
    deque_Op_pushed.j1 Q ((o1.1, (10, (o1.2.2.1.1, (o1.2.2.1.2.1, (o1.2.2.2.1, (o1.2.2.2.2.1, (o1.2.2.2.2.2.1, (o1.2.2.2.2.2.2.2.2.1, (o1.2.2.2.2.2.2.2.2.2.1, (o1.2.2.2.2.2.2.2.2.1, (o1.2.2.2.2.2.2.2.2.2.1, (o1.2.2.2.2.2.2.2.2.2.2.1, (o1.2.2.2.2.2.2.2.2.2.2.2.1, (o1.2.2.2.2.2.2.2.2.2.2.2.2.1, (o1.2.2.2.2.2.2.2.2.2.2.2.2.2.1, (o1.2.2.2.2.2.2.2.2.2.2.2.2.2.2.1, ())))))))))))))))), (0, (0, (0, (0, (0, (0, (0, (0, (0, (0, (0, (0, (0, (false, (0, (0, ())))))))))))))))), ()) h3) ∧
    ((decide (o1.2.1 = 9)) = false →
    (((decide (o1.2.1 = 10)) = true →
    deque_Op_pushed.j1 Q ((o1.1, (11, (o1.2.2.1.1, (o1.2.2.1.2.1, (o1.2.2.2.1, (o1.2.2.2.2.1, (o1.2.2.2.2.2.1, (o1.2.2.2.2.2.2.1, (o1.2.2.2.2.2.2.2.1, (o1.2.2.2.2.2.2.2.2.1, (o1.2.2.2.2.2.2.2.2.2.1, (o1.2.2.2.2.2.2.2.2.2.2.1, (o1.2.2.2.2.2.2.2.2.2.2.2.1, (o1.2.2.2.2.2.2.2.2.2.2.2.2.1, (o1.2.2.2.2.2.2.2.2.2.2.2.2.2.1, (o1.2.2.2.2.2.2.2.2.2.2.2.2.2.2.1, ())))))))))))))))), (0, (0, (0, (0, (0, (0, (0, (0, (0, (0, (0, (0, (0, (false, (0, (0, ())))))))))))))))), ()) h3) ∧
    ((decide (o1.2.1 = 10)) = false →
    (((decide (o1.2.1 = 11)) = true →
    c_deque_Op_over (o1.1, (o1.2.1, ((o1.2.2.1.1, (o1.2.2.1.2.1, ())), (o1.2.2.2.1, (o1.2.2.2.2.1, (o1.2.2.2.2.2.1, (o1.2.2.2.2.2.2.1, (o1.2.2.2.2.2.2.2.1, (o1.2.2.2.2.2.2.2.2.1, (o1.2.2.2.2.2.2.2.2.2.1, (o1.2.2.2.2.2.2.2.2.2.2.1, (o1.2.2.2.2.2.2.2.2.2.2.2.1, (o1.2.2.2.2.2.2.2.2.2.2.2.2.1, (o1.2.2.2.2.2.2.2.2.2.2.2.2.2.1, (o1.2.2.2.2.2.2.2.2.2.2.2.2.2.2.1, ()))))))))))))))) 2 0 h3 fun r10 h11 =>
    Q (r10.1, (r10.2.1, ((r10.2.2.1.1, (r10.2.2.1.2.1, ())), (r10.2.2.2.1, (r10.2.2.2.2.1, (r10.2.2.2.2.2.1, (r10.2.2.2.2.2.2.1, (r10.2.2.2.2.2.2.2.1, (r10.2.2.2.2.2.2.2.2.1, (r10.2.2.2.2.2.2.2.2.2.1, (r10.2.2.2.2.2.2.2.2.2.2.1, (r10.2.2.2.2.2.2.2.2.2.2.2.1, (r10.2.2.2.2.2.2.2.2.2.2.2.2.1, (r10.2.2.2.2.2.2.2.2.2.2.2.2.2.1, (r10.2.2.2.2.2.2.2.2.2.2.2.2.2.2.1, ()))))))))))))))) h11) ∧
    ((decide (o1.2.1 = 11)) = false →
    deque_Op_pushed.j1 Q ((o1.1, (o1.2.1, (o1.2.2.1.1, (o1.2.2.1.2.1, (o1.2.2.2.1, (o1.2.2.2.2.1, (o1.2.2.2.2.2.1, (o1.2.2.2.2.2.2.1, (o1.2.2.2.2.2.2.2.1, (o1.2.2.2.2.2.2.2.2.1, (o1.2.2.2.2.2.2.2.2.2.1, (o1.2.2.2.2.2.2.2.2.2.2.1, (o1.2.2.2.2.2.2.2.2.2.2.2.1, (o1.2.2.2.2.2.2.2.2.2.2.2.2.1, (o1.2.2.2.2.2.2.2.2.2.2.2.2.2.1, (o1.2.2.2.2.2.2.2.2.2.2.2.2.2.2.1, ())))))))))))))))), (0, (0, (0, (0, (0, (0, (0, (0, (0, (0, (0, (0, (0, (false, (0, (0, ())))))))))))))))), ()) h3))))))))))))))))))))))
def deque_Op_pushed.mk : Mk := (.s (.r [0, 1]) (.j [.box 2 (.pair (.int .i64) (.pair (.int .i64) (.pair (.int .i64) (.pair (.int .i64) (.pair (.int .i64) (.pair (.int .i64) (.pair (.int .i64) (.pair (.int .i64) (.pair (.int .i64) (.pair (.int .i64) (.pair (.int .i64) (.pair (.int .i64) (.pair (.int .i64) (.pair .bool kparkLot)))))))))))))), .box 4 (.pair (.int .i64) (.pair (.int .i64) (.pair (.int .i64) (.pair (.int .i64) (.pair (.int .i64) (.pair (.int .i64) (.pair (.int .i64) (.pair (.int .i64) (.pair (.int .i64) (.pair (.int .i64) (.pair (.int .i64) (.pair (.int .i64) (.pair (.int .i64) (.pair .bool kparkLot))))))))))))))] (.s .d (.b (.s .d (.c .d (.s .d (.c .d (.s .d (.c .d (.s .d (.c (.s .d (.b (.s .d (.c (.s .d .d) (.s .d (.c .d (.s .d (.c (.s .d .d) .d)))))))) (.s .d (.c .d (.s .d (.c .d (.s .d (.c .d (.s .d (.c (.s .d (.s .d (.s .d (.c .d .d)))) (.s .d (.c .d (.s .d (.c .d (.s .d (.c (.s .d .d) .d)))))))))))))))))))))))) (.s .d .d)))

def deque_Op_popped.j1 (Q : Den kdequeOp → Heap → Prop) (s4 : ((Int × (Int × (Int × (Int × (Int × (Int × (Int × (Int × (Int × (Int × (Int × (Int × (Int × (Bool × Den kparkLot)))))))))))))) × ((Int × (Int × (Int × (Int × (Int × (Int × (Int × (Int × (Int × (Int × (Int × (Int × (Int × (Bool × Den kparkLot)))))))))))))) × Unit))) (h5 : Heap) : Prop :=
    Q (s4.1.1, (s4.1.2.1, ((s4.1.2.2.1, (s4.1.2.2.2.1, ())), (s4.1.2.2.2.2.1, (s4.1.2.2.2.2.2.1, (s4.1.2.2.2.2.2.2.1, (s4.1.2.2.2.2.2.2.2.1, (s4.1.2.2.2.2.2.2.2.2.1, (s4.1.2.2.2.2.2.2.2.2.2.1, (s4.1.2.2.2.2.2.2.2.2.2.2.1, (s4.1.2.2.2.2.2.2.2.2.2.2.2.1, (s4.1.2.2.2.2.2.2.2.2.2.2.2.2.1, (s4.1.2.2.2.2.2.2.2.2.2.2.2.2.2.1, (s4.1.2.2.2.2.2.2.2.2.2.2.2.2.2.2.1, (s4.1.2.2.2.2.2.2.2.2.2.2.2.2.2.2.2.1, ()))))))))))))))) h5
def deque_Op_popped.M (c_deque_Op_over : Den kdequeOp → Int → Int → Heap → (Den kdequeOp → Heap → Prop) → Prop) (o1 : Den kdequeOp) (got2 : Int) (h3 : Heap) (Q : Den kdequeOp → Heap → Prop) : Prop :=
    (((decide (o1.2.1 = 1)) = true →
    deque_Op_popped.j1 Q ((o1.1, (3, (o1.2.2.1.1, (o1.2.2.1.2.1, (o1.2.2.2.1, (o1.2.2.2.2.1, ((w64 (got2 - 1)), (o1.2.2.2.2.2.2.1, (o1.2.2.2.2.2.2.2.1, (o1.2.2.2.2.2.2.2.2.1, (o1.2.2.2.2.2.2.2.2.2.1, (o1.2.2.2.2.2.2.2.2.2.2.1, (o1.2.2.2.2.2.2.2.2.2.2.2.1, (o1.2.2.2.2.2.2.2.2.2.2.2.2.1, (o1.2.2.2.2.2.2.2.2.2.2.2.2.2.1, (o1.2.2.2.2.2.2.2.2.2.2.2.2.2.2.1, ())))))))))))))))), (0, (0, (0, (0, (0, (0, (0, (0, (0, (0, (0, (0, (0, (false, (0, (0, ())))))))))))))))), ()) h3) ∧
    ((decide (o1.2.1 = 1)) = false →
    (((decide (o1.2.1 = 3)) = true →
    deque_Op_popped.j1 Q ((o1.1, (11, (o1.2.2.1.1, (o1.2.2.1.2.1, (o1.2.2.2.1, (o1.2.2.2.2.1, (o1.2.2.2.2.2.1, (got2, (o1.2.2.2.2.2.2.2.1, (o1.2.2.2.2.2.2.2.2.1, (o1.2.2.2.2.2.2.2.2.2.1, (o1.2.2.2.2.2.2.2.2.2.2.1, (o1.2.2.2.2.2.2.2.2.2.2.2.1, (o1.2.2.2.2.2.2.2.2.2.2.2.2.1, (o1.2.2.2.2.2.2.2.2.2.2.2.2.2.1, (o1.2.2.2.2.2.2.2.2.2.2.2.2.2.2.1, ())))))))))))))))), (0, (0, (0, (0, (0, (0, (0, (0, (0, (0, (0, (0, (0, (false, (0, (0, ())))))))))))))))), ()) h3) ∧
    ((decide (o1.2.1 = 3)) = false →
    (((decide (o1.2.1 = 11)) = true →
    (((decide (o1.2.2.2.2.2.2.2.2.2.2.1 = 0)) = true →
    deque_Op_popped.j1 Q ((o1.1, (2, (o1.2.2.1.1, (o1.2.2.1.2.1, (o1.2.2.2.1, (o1.2.2.2.2.1, (o1.2.2.2.2.2.1, (o1.2.2.2.2.2.2.1, (o1.2.2.2.2.2.2.2.1, (o1.2.2.2.2.2.2.2.2.1, (o1.2.2.2.2.2.2.2.2.2.1, (o1.2.2.2.2.2.2.2.2.2.2.1, (o1.2.2.2.2.2.2.2.2.2.2.2.1, (o1.2.2.2.2.2.2.2.2.2.2.2.2.1, (o1.2.2.2.2.2.2.2.2.2.2.2.2.2.1, (o1.2.2.2.2.2.2.2.2.2.2.2.2.2.2.1, ())))))))))))))))), (0, (0, (0, (0, (0, (0, (0, (0, (0, (0, (0, (0, (0, (false, (0, (0, ())))))))))))))))), ()) h3) ∧
    ((decide (o1.2.2.2.2.2.2.2.2.2.2.1 = 0)) = false →
    ((o1.2.2.2.2.2.2.2.2.2.2.2.2.1 = true →
    c_deque_Op_over (o1.1, (o1.2.1, ((o1.2.2.1.1, (o1.2.2.1.2.1, ())), (o1.2.2.2.1, (o1.2.2.2.2.1, (o1.2.2.2.2.2.1, (o1.2.2.2.2.2.2.1, (o1.2.2.2.2.2.2.2.1, (o1.2.2.2.2.2.2.2.2.1, (o1.2.2.2.2.2.2.2.2.2.1, (o1.2.2.2.2.2.2.2.2.2.2.1, (o1.2.2.2.2.2.2.2.2.2.2.2.1, (o1.2.2.2.2.2.2.2.2.2.2.2.2.1, (o1.2.2.2.2.2.2.2.2.2.2.2.2.2.1, (o1.2.2.2.2.2.2.2.2.2.2.2.2.2.2.1, ()))))))))))))))) 4 o1.2.2.2.2.2.2.2.2.2.2.2.1 h3 fun r6 h7 =>
    Q (r6.1, (r6.2.1, ((r6.2.2.1.1, (r6.2.2.1.2.1, ())), (r6.2.2.2.1, (r6.2.2.2.2.1, (r6.2.2.2.2.2.1, (r6.2.2.2.2.2.2.1, (r6.2.2.2.2.2.2.2.1, (r6.2.2.2.2.2.2.2.2.1, (r6.2.2.2.2.2.2.2.2.2.1, (r6.2.2.2.2.2.2.2.2.2.2.1, (r6.2.2.2.2.2.2.2.2.2.2.2.1, (r6.2.2.2.2.2.2.2.2.2.2.2.2.1, (r6.2.2.2.2.2.2.2.2.2.2.2.2.2.1, (r6.2.2.2.2.2.2.2.2.2.2.2.2.2.2.1, ()))))))))))))))) h7) ∧
    (o1.2.2.2.2.2.2.2.2.2.2.2.2.1 = false →
    c_deque_Op_over (o1.1, (o1.2.1, ((o1.2.2.1.1, (o1.2.2.1.2.1, ())), (o1.2.2.2.1, (o1.2.2.2.2.1, (o1.2.2.2.2.2.1, (o1.2.2.2.2.2.2.1, (o1.2.2.2.2.2.2.2.1, (o1.2.2.2.2.2.2.2.2.1, (o1.2.2.2.2.2.2.2.2.2.1, (o1.2.2.2.2.2.2.2.2.2.2.1, (o1.2.2.2.2.2.2.2.2.2.2.2.1, (o1.2.2.2.2.2.2.2.2.2.2.2.2.1, (o1.2.2.2.2.2.2.2.2.2.2.2.2.2.1, (o1.2.2.2.2.2.2.2.2.2.2.2.2.2.2.1, ()))))))))))))))) 5 0 h3 fun r8 h9 =>
    Q (r8.1, (r8.2.1, ((r8.2.2.1.1, (r8.2.2.1.2.1, ())), (r8.2.2.2.1, (r8.2.2.2.2.1, (r8.2.2.2.2.2.1, (r8.2.2.2.2.2.2.1, (r8.2.2.2.2.2.2.2.1, (r8.2.2.2.2.2.2.2.2.1, (r8.2.2.2.2.2.2.2.2.2.1, (r8.2.2.2.2.2.2.2.2.2.2.1, (r8.2.2.2.2.2.2.2.2.2.2.2.1, (r8.2.2.2.2.2.2.2.2.2.2.2.2.1, (r8.2.2.2.2.2.2.2.2.2.2.2.2.2.1, (r8.2.2.2.2.2.2.2.2.2.2.2.2.2.2.1, ()))))))))))))))) h9))))) ∧
    ((decide (o1.2.1 = 11)) = false →
    (((decide (o1.2.1 = 2)) = true →
    (((decide (o1.2.2.2.2.2.1 < got2)) = true →
    deque_Op_popped.j1 Q ((o1.1, (11, (o1.2.2.1.1, (o1.2.2.1.2.1, (o1.2.2.2.1, (got2, (o1.2.2.2.2.2.1, (o1.2.2.2.2.2.2.1, (o1.2.2.2.2.2.2.2.1, (o1.2.2.2.2.2.2.2.2.1, (o1.2.2.2.2.2.2.2.2.2.1, (1, (o1.2.2.2.2.2.2.2.2.2.2.2.1, (o1.2.2.2.2.2.2.2.2.2.2.2.2.1, (o1.2.2.2.2.2.2.2.2.2.2.2.2.2.1, (o1.2.2.2.2.2.2.2.2.2.2.2.2.2.2.1, ())))))))))))))))), (0, (0, (0, (0, (0, (0, (0, (0, (0, (0, (0, (0, (0, (false, (0, (0, ())))))))))))))))), ()) h3) ∧
    ((decide (o1.2.2.2.2.2.1 < got2)) = false →
    deque_Op_popped.j1 Q ((o1.1, (4, (o1.2.2.1.1, (o1.2.2.1.2.1, (o1.2.2.2.1, (got2, (o1.2.2.2.2.2.1, (o1.2.2.2.2.2.2.1, (o1.2.2.2.2.2.2.2.1, (o1.2.2.2.2.2.2.2.2.1, (o1.2.2.2.2.2.2.2.2.2.1, (1, (o1.2.2.2.2.2.2.2.2.2.2.2.1, (o1.2.2.2.2.2.2.2.2.2.2.2.2.1, (o1.2.2.2.2.2.2.2.2.2.2.2.2.2.1, (o1.2.2.2.2.2.2.2.2.2.2.2.2.2.2.1, ())))))))))))))))), (0, (0, (0, (0, (0, (0, (0, (0, (0, (0, (0, (0, (0, (false, (0, (0, ())))))))))))))))), ()) h3))) ∧
    ((decide (o1.2.1 = 2)) = false →
    (((decide (o1.2.1 = 4)) = true →
    (((decide (got2 < 1)) = true →
    c_deque_Op_over (o1.1, (12, ((o1.2.2.1.1, (o1.2.2.1.2.1, ())), (o1.2.2.2.1, (o1.2.2.2.2.1, (o1.2.2.2.2.2.1, (o1.2.2.2.2.2.2.1, (got2, (o1.2.2.2.2.2.2.2.2.1, (o1.2.2.2.2.2.2.2.2.2.1, (o1.2.2.2.2.2.2.2.2.2.2.1, (o1.2.2.2.2.2.2.2.2.2.2.2.1, (o1.2.2.2.2.2.2.2.2.2.2.2.2.1, (o1.2.2.2.2.2.2.2.2.2.2.2.2.2.1, (o1.2.2.2.2.2.2.2.2.2.2.2.2.2.2.1, ()))))))))))))))) 1 0 h3 fun r10 h11 =>
    Q (r10.1, (r10.2.1, ((r10.2.2.1.1, (r10.2.2.1.2.1, ())), (r10.2.2.2.1, (r10.2.2.2.2.1, (r10.2.2.2.2.2.1, (r10.2.2.2.2.2.2.1, (r10.2.2.2.2.2.2.2.1, (r10.2.2.2.2.2.2.2.2.1, (r10.2.2.2.2.2.2.2.2.2.1, (r10.2.2.2.2.2.2.2.2.2.2.1, (r10.2.2.2.2.2.2.2.2.2.2.2.1, (r10.2.2.2.2.2.2.2.2.2.2.2.2.1, (r10.2.2.2.2.2.2.2.2.2.2.2.2.2.1, (r10.2.2.2.2.2.2.2.2.2.2.2.2.2.2.1, ()))))))))))))))) h11) ∧
    ((decide (got2 < 1)) = false →
    deque_Op_popped.j1 Q ((o1.1, (12, (o1.2.2.1.1, (o1.2.2.1.2.1, (o1.2.2.2.1, (o1.2.2.2.2.1, (o1.2.2.2.2.2.1, (o1.2.2.2.2.2.2.1, (got2, (o1.2.2.2.2.2.2.2.2.1, (o1.2.2.2.2.2.2.2.2.2.1, (o1.2.2.2.2.2.2.2.2.2.2.1, (o1.2.2.2.2.2.2.2.2.2.2.2.1, (o1.2.2.2.2.2.2.2.2.2.2.2.2.1, (o1.2.2.2.2.2.2.2.2.2.2.2.2.2.1, (o1.2.2.2.2.2.2.2.2.2.2.2.2.2.2.1, ())))))))))))))))), (0, (0, (0, (0, (0, (0, (0, (0, (0, (0, (0, (0, (0, (false, (0, (0, ())))))))))))))))), ()) h3))) ∧
    ((decide (o1.2.1 = 4)) = false →
    (((decide (o1.2.1 = 12)) = true →
    (((decide (o1.2.2.2.2.1 < o1.2.2.2.2.2.1)) = true →
    c_deque_Op_over (o1.1, (13, ((o1.2.2.1.1, (o1.2.2.1.2.1, ())), (o1.2.2.2.1, (o1.2.2.2.2.1, (o1.2.2.2.2.2.1, (o1.2.2.2.2.2.2.1, (o1.2.2.2.2.2.2.2.1, (o1.2.2.2.2.2.2.2.2.1, (o1.2.2.2.2.2.2.2.2.2.1, (o1.2.2.2.2.2.2.2.2.2.2.1, (got2, (o1.2.2.2.2.2.2.2.2.2.2.2.2.1, (o1.2.2.2.2.2.2.2.2.2.2.2.2.2.1, (o1.2.2.2.2.2.2.2.2.2.2.2.2.2.2.1, ()))))))))))))))) 4 got2 h3 fun r12 h13 =>
    Q (r12.1, (r12.2.1, ((r12.2.2.1.1, (r12.2.2.1.2.1, ())), (r12.2.2.2.1, (r12.2.2.2.2.1, (r12.2.2.2.2.2.1, (r12.2.2.2.2.2.2.1, (r12.2.2.2.2.2.2.2.1, (r12.2.2.2.2.2.2.2.2.1, (r12.2.2.2.2.2.2.2.2.2.1, (r12.2.2.2.2.2.2.2.2.2.2.1, (r12.2.2.2.2.2.2.2.2.2.2.2.1, (r12.2.2.2.2.2.2.2.2.2.2.2.2.1, (r12.2.2.2.2.2.2.2.2.2.2.2.2.2.1, (r12.2.2.2.2.2.2.2.2.2.2.2.2.2.2.1, ()))))))))))))))) h13) ∧
    ((decide (o1.2.2.2.2.1 < o1.2.2.2.2.2.1)) = false →
    deque_Op_popped.j1 Q ((o1.1, (13, (o1.2.2.1.1, (o1.2.2.1.2.1, (o1.2.2.2.1, (o1.2.2.2.2.1, (o1.2.2.2.2.2.1, (o1.2.2.2.2.2.2.1, (o1.2.2.2.2.2.2.2.1, (o1.2.2.2.2.2.2.2.2.1, (o1.2.2.2.2.2.2.2.2.2.1, (o1.2.2.2.2.2.2.2.2.2.2.1, (got2, (o1.2.2.2.2.2.2.2.2.2.2.2.2.1, (o1.2.2.2.2.2.2.2.2.2.2.2.2.2.1, (o1.2.2.2.2.2.2.2.2.2.2.2.2.2.2.1, ())))))))))))))))), (0, (0, (0, (0, (0, (0, (0, (0, (0, (0, (0, (0, (0, (false, (0, (0, ())))))))))))))))), ()) h3))) ∧
    ((decide (o1.2.1 = 12)) = false →
    (((decide (o1.2.1 = 13)) = true →
    deque_Op_popped.j1 Q ((o1.1, (11, (o1.2.2.1.1, (o1.2.2.1.2.1, (o1.2.2.2.1, (o1.2.2.2.2.1, (o1.2.2.2.2.2.1, (o1.2.2.2.2.2.2.1, (o1.2.2.2.2.2.2.2.1, (o1.2.2.2.2.2.2.2.2.1, (o1.2.2.2.2.2.2.2.2.2.1, (o1.2.2.2.2.2.2.2.2.2.2.1, (o1.2.2.2.2.2.2.2.2.2.2.2.1, ((decide (got2 = 1)), (o1.2.2.2.2.2.2.2.2.2.2.2.2.2.1, (o1.2.2.2.2.2.2.2.2.2.2.2.2.2.2.1, ())))))))))))))))), (0, (0, (0, (0, (0, (0, (0, (0, (0, (0, (0, (0, (0, (false, (0, (0, ())))))))))))))))), ()) h3) ∧
    ((decide (o1.2.1 = 13)) = false →
    deque_Op_popped.j1 Q ((o1.1, (o1.2.1, (o1.2.2.1.1, (o1.2.2.1.2.1, (o1.2.2.2.1, (o1.2.2.2.2.1, (o1.2.2.2.2.2.1, (o1.2.2.2.2.2.2.1, (o1.2.2.2.2.2.2.2.1, (o1.2.2.2.2.2.2.2.2.1, (o1.2.2.2.2.2.2.2.2.2.1, (o1.2.2.2.2.2.2.2.2.2.2.1, (o1.2.2.2.2.2.2.2.2.2.2.2.1, (o1.2.2.2.2.2.2.2.2.2.2.2.2.1, (o1.2.2.2.2.2.2.2.2.2.2.2.2.2.1, (o1.2.2.2.2.2.2.2.2.2.2.2.2.2.2.1, ())))))))))))))))), (0, (0, (0, (0, (0, (0, (0, (0, (0, (0, (0, (0, (0, (false, (0, (0, ())))))))))))))))), ()) h3))))))))))))))
def deque_Op_popped.mk : Mk := (.s (.r [0, 1]) (.j [.box 2 (.pair (.int .i64) (.pair (.int .i64) (.pair (.int .i64) (.pair (.int .i64) (.pair (.int .i64) (.pair (.int .i64) (.pair (.int .i64) (.pair (.int .i64) (.pair (.int .i64) (.pair (.int .i64) (.pair (.int .i64) (.pair (.int .i64) (.pair (.int .i64) (.pair .bool kparkLot)))))))))))))), .box 4 (.pair (.int .i64) (.pair (.int .i64) (.pair (.int .i64) (.pair (.int .i64) (.pair (.int .i64) (.pair (.int .i64) (.pair (.int .i64) (.pair (.int .i64) (.pair (.int .i64) (.pair (.int .i64) (.pair (.int .i64) (.pair (.int .i64) (.pair (.int .i64) (.pair .bool kparkLot))))))))))))))] (.s .d (.b (.s .d (.c .d (.s .d (.c .d (.s .d (.c (.b (.s .d (.c .d (.s .d (.c (.s .d .d) (.s .d .d)))))) (.s .d (.c (.s .d (.s .d (.c .d .d))) (.s .d (.c (.s .d (.s .d (.c (.s .d .d) .d))) (.s .d (.c (.s .d (.s .d (.c (.s .d .d) .d))) (.s .d (.c .d .d)))))))))))))))) (.s .d .d)))

def deque_Op_stolen.j1 (Q : Den kdequeOp → Heap → Prop) (s4 : ((Int × (Int × (Int × (Int × (Int × (Int × (Int × (Int × (Int × (Int × (Int × (Int × (Int × (Bool × Den kparkLot)))))))))))))) × ((Int × (Int × (Int × (Int × (Int × (Int × (Int × (Int × (Int × (Int × (Int × (Int × (Int × (Bool × Den kparkLot)))))))))))))) × Unit))) (h5 : Heap) : Prop :=
    Q (s4.1.1, (s4.1.2.1, ((s4.1.2.2.1, (s4.1.2.2.2.1, ())), (s4.1.2.2.2.2.1, (s4.1.2.2.2.2.2.1, (s4.1.2.2.2.2.2.2.1, (s4.1.2.2.2.2.2.2.2.1, (s4.1.2.2.2.2.2.2.2.2.1, (s4.1.2.2.2.2.2.2.2.2.2.1, (s4.1.2.2.2.2.2.2.2.2.2.2.1, (s4.1.2.2.2.2.2.2.2.2.2.2.2.1, (s4.1.2.2.2.2.2.2.2.2.2.2.2.2.1, (s4.1.2.2.2.2.2.2.2.2.2.2.2.2.2.1, (s4.1.2.2.2.2.2.2.2.2.2.2.2.2.2.2.1, (s4.1.2.2.2.2.2.2.2.2.2.2.2.2.2.2.2.1, ()))))))))))))))) h5
def deque_Op_stolen.M (c_deque_Op_over : Den kdequeOp → Int → Int → Heap → (Den kdequeOp → Heap → Prop) → Prop) (o1 : Den kdequeOp) (got2 : Int) (h3 : Heap) (Q : Den kdequeOp → Heap → Prop) : Prop :=
    (((decide (o1.2.1 = 2)) = true →
    deque_Op_stolen.j1 Q ((o1.1, (1, (o1.2.2.1.1, (o1.2.2.1.2.1, (o1.2.2.2.1, (got2, (o1.2.2.2.2.2.1, (o1.2.2.2.2.2.2.1, (o1.2.2.2.2.2.2.2.1, (o1.2.2.2.2.2.2.2.2.1, (o1.2.2.2.2.2.2.2.2.2.1, (o1.2.2.2.2.2.2.2.2.2.2.1, (o1.2.2.2.2.2.2.2.2.2.2.2.1, (o1.2.2.2.2.2.2.2.2.2.2.2.2.1, (o1.2.2.2.2.2.2.2.2.2.2.2.2.2.1, (o1.2.2.2.2.2.2.2.2.2.2.2.2.2.2.1, ())))))))))))))))), (0, (0, (0, (0, (0, (0, (0, (0, (0, (0, (0, (0, (0, (false, (0, (0, ())))))))))))))))), ()) h3) ∧
    ((decide (o1.2.1 = 2)) = false →
    (((decide (o1.2.1 = 1)) = true →
    (((decide (got2 ≤ o1.2.2.2.2.1)) = true →
    c_deque_Op_over (o1.1, (3, ((o1.2.2.1.1, (o1.2.2.1.2.1, ())), (o1.2.2.2.1, (o1.2.2.2.2.1, (got2, (o1.2.2.2.2.2.2.1, (o1.2.2.2.2.2.2.2.1, (o1.2.2.2.2.2.2.2.2.1, (o1.2.2.2.2.2.2.2.2.2.1, (o1.2.2.2.2.2.2.2.2.2.2.1, (o1.2.2.2.2.2.2.2.2.2.2.2.1, (o1.2.2.2.2.2.2.2.2.2.2.2.2.1, (o1.2.2.2.2.2.2.2.2.2.2.2.2.2.1, (o1.2.2.2.2.2.2.2.2.2.2.2.2.2.2.1, ()))))))))))))))) 5 0 h3 fun r6 h7 =>
    Q (r6.1, (r6.2.1, ((r6.2.2.1.1, (r6.2.2.1.2.1, ())), (r6.2.2.2.1, (r6.2.2.2.2.1, (r6.2.2.2.2.2.1, (r6.2.2.2.2.2.2.1, (r6.2.2.2.2.2.2.2.1, (r6.2.2.2.2.2.2.2.2.1, (r6.2.2.2.2.2.2.2.2.2.1, (r6.2.2.2.2.2.2.2.2.2.2.1, (r6.2.2.2.2.2.2.2.2.2.2.2.1, (r6.2.2.2.2.2.2.2.2.2.2.2.2.1, (r6.2.2.2.2.2.2.2.2.2.2.2.2.2.1, (r6.2.2.2.2.2.2.2.2.2.2.2.2.2.2.1, ()))))))))))))))) h7) ∧
    ((decide (got2 ≤ o1.2.2.2.2.1)) = false →
    deque_Op_stolen.j1 Q ((o1.1, (3, (o1.2.2.1.1, (o1.2.2.1.2.1, (o1.2.2.2.1, (o1.2.2.2.2.1, (got2, (o1.2.2.2.2.2.2.1, (o1.2.2.2.2.2.2.2.1, (o1.2.2.2.2.2.2.2.2.1, (o1.2.2.2.2.2.2.2.2.2.1, (o1.2.2.2.2.2.2.2.2.2.2.1, (o1.2.2.2.2.2.2.2.2.2.2.2.1, (o1.2.2.2.2.2.2.2.2.2.2.2.2.1, (o1.2.2.2.2.2.2.2.2.2.2.2.2.2.1, (o1.2.2.2.2.2.2.2.2.2.2.2.2.2.2.1, ())))))))))))))))), (0, (0, (0, (0, (0, (0, (0, (0, (0, (0, (0, (0, (0, (false, (0, (0, ())))))))))))))))), ()) h3))) ∧
    ((decide (o1.2.1 = 1)) = false →
    (((decide (o1.2.1 = 3)) = true →
    deque_Op_stolen.j1 Q ((o1.1, (4, (o1.2.2.1.1, (o1.2.2.1.2.1, (o1.2.2.2.1, (o1.2.2.2.2.1, (o1.2.2.2.2.2.1, (got2, (o1.2.2.2.2.2.2.2.1, (o1.2.2.2.2.2.2.2.2.1, (o1.2.2.2.2.2.2.2.2.2.1, (o1.2.2.2.2.2.2.2.2.2.2.1, (o1.2.2.2.2.2.2.2.2.2.2.2.1, (o1.2.2.2.2.2.2.2.2.2.2.2.2.1, (o1.2.2.2.2.2.2.2.2.2.2.2.2.2.1, (o1.2.2.2.2.2.2.2.2.2.2.2.2.2.2.1, ())))))))))))))))), (0, (0, (0, (0, (0, (0, (0, (0, (0, (0, (0, (0, (0, (false, (0, (0, ())))))))))))))))), ()) h3) ∧
    ((decide (o1.2.1 = 3)) = false →
    (((decide (o1.2.1 = 4)) = true →
    (((decide (got2 < 1)) = true →
    c_deque_Op_over (o1.1, (12, ((o1.2.2.1.1, (o1.2.2.1.2.1, ())), (o1.2.2.2.1, (o1.2.2.2.2.1, (o1.2.2.2.2.2.1, (o1.2.2.2.2.2.2.1, (got2, (o1.2.2.2.2.2.2.2.2.1, (o1.2.2.2.2.2.2.2.2.2.1, (o1.2.2.2.2.2.2.2.2.2.2.1, (o1.2.2.2.2.2.2.2.2.2.2.2.1, (o1.2.2.2.2.2.2.2.2.2.2.2.2.1, (o1.2.2.2.2.2.2.2.2.2.2.2.2.2.1, (o1.2.2.2.2.2.2.2.2.2.2.2.2.2.2.1, ()))))))))))))))) 1 0 h3 fun r8 h9 =>
    Q (r8.1, (r8.2.1, ((r8.2.2.1.1, (r8.2.2.1.2.1, ())), (r8.2.2.2.1, (r8.2.2.2.2.1, (r8.2.2.2.2.2.1, (r8.2.2.2.2.2.2.1, (r8.2.2.2.2.2.2.2.1, (r8.2.2.2.2.2.2.2.2.1, (r8.2.2.2.2.2.2.2.2.2.1, (r8.2.2.2.2.2.2.2.2.2.2.1, (r8.2.2.2.2.2.2.2.2.2.2.2.1, (r8.2.2.2.2.2.2.2.2.2.2.2.2.1, (r8.2.2.2.2.2.2.2.2.2.2.2.2.2.1, (r8.2.2.2.2.2.2.2.2.2.2.2.2.2.2.1, ()))))))))))))))) h9) ∧
    ((decide (got2 < 1)) = false →
    deque_Op_stolen.j1 Q ((o1.1, (12, (o1.2.2.1.1, (o1.2.2.1.2.1, (o1.2.2.2.1, (o1.2.2.2.2.1, (o1.2.2.2.2.2.1, (o1.2.2.2.2.2.2.1, (got2, (o1.2.2.2.2.2.2.2.2.1, (o1.2.2.2.2.2.2.2.2.2.1, (o1.2.2.2.2.2.2.2.2.2.2.1, (o1.2.2.2.2.2.2.2.2.2.2.2.1, (o1.2.2.2.2.2.2.2.2.2.2.2.2.1, (o1.2.2.2.2.2.2.2.2.2.2.2.2.2.1, (o1.2.2.2.2.2.2.2.2.2.2.2.2.2.2.1, ())))))))))))))))), (0, (0, (0, (0, (0, (0, (0, (0, (0, (0, (0, (0, (0, (false, (0, (0, ())))))))))))))))), ()) h3))) ∧
    ((decide (o1.2.1 = 4)) = false →
    (((decide (o1.2.1 = 12)) = true →
    deque_Op_stolen.j1 Q ((o1.1, (13, (o1.2.2.1.1, (o1.2.2.1.2.1, (o1.2.2.2.1, (o1.2.2.2.2.1, (o1.2.2.2.2.2.1, (o1.2.2.2.2.2.2.1, (o1.2.2.2.2.2.2.2.1, (o1.2.2.2.2.2.2.2.2.1, (o1.2.2.2.2.2.2.2.2.2.1, (o1.2.2.2.2.2.2.2.2.2.2.1, (got2, (o1.2.2.2.2.2.2.2.2.2.2.2.2.1, (o1.2.2.2.2.2.2.2.2.2.2.2.2.2.1, (o1.2.2.2.2.2.2.2.2.2.2.2.2.2.2.1, ())))))))))))))))), (0, (0, (0, (0, (0, (0, (0, (0, (0, (0, (0, (0, (0, (false, (0, (0, ())))))))))))))))), ()) h3) ∧
    ((decide (o1.2.1 = 12)) = false →
    (((decide (o1.2.1 = 13)) = true →
    (((decide (got2 = 1)) = true →
    c_deque_Op_over (o1.1, (o1.2.1, ((o1.2.2.1.1, (o1.2.2.1.2.1, ())), (o1.2.2.2.1, (o1.2.2.2.2.1, (o1.2.2.2.2.2.1, (o1.2.2.2.2.2.2.1, (o1.2.2.2.2.2.2.2.1, (o1.2.2.2.2.2.2.2.2.1, (o1.2.2.2.2.2.2.2.2.2.1, (o1.2.2.2.2.2.2.2.2.2.2.1, (o1.2.2.2.2.2.2.2.2.2.2.2.1, (o1.2.2.2.2.2.2.2.2.2.2.2.2.1, (o1.2.2.2.2.2.2.2.2.2.2.2.2.2.1, (o1.2.2.2.2.2.2.2.2.2.2.2.2.2.2.1, ()))))))))))))))) 4 o1.2.2.2.2.2.2.2.2.2.2.2.1 h3 fun r10 h11 =>
    Q (r10.1, (r10.2.1, ((r10.2.2.1.1, (r10.2.2.1.2.1, ())), (r10.2.2.2.1, (r10.2.2.2.2.1, (r10.2.2.2.2.2.1, (r10.2.2.2.2.2.2.1, (r10.2.2.2.2.2.2.2.1, (r10.2.2.2.2.2.2.2.2.1, (r10.2.2.2.2.2.2.2.2.2.1, (r10.2.2.2.2.2.2.2.2.2.2.1, (r10.2.2.2.2.2.2.2.2.2.2.2.1, (r10.2.2.2.2.2.2.2.2.2.2.2.2.1, (r10.2.2.2.2.2.2.2.2.2.2.2.2.2.1, (r10.2.2.2.2.2.2.2.2.2.2.2.2.2.2.1, ()))))))))))))))) h11) ∧
    ((decide (got2 = 1)) = false →
    c_deque_Op_over (o1.1, (o1.2.1, ((o1.2.2.1.1, (o1.2.2.1.2.1, ())), (o1.2.2.2.1, (o1.2.2.2.2.1, (o1.2.2.2.2.2.1, (o1.2.2.2.2.2.2.1, (o1.2.2.2.2.2.2.2.1, (o1.2.2.2.2.2.2.2.2.1, (o1.2.2.2.2.2.2.2.2.2.1, (o1.2.2.2.2.2.2.2.2.2.2.1, (o1.2.2.2.2.2.2.2.2.2.2.2.1, (o1.2.2.2.2.2.2.2.2.2.2.2.2.1, (o1.2.2.2.2.2.2.2.2.2.2.2.2.2.1, (o1.2.2.2.2.2.2.2.2.2.2.2.2.2.2.1, ()))))))))))))))) 6 0 h3 fun r12 h13 =>
    Q (r12.1, (r12.2.1, ((r12.2.2.1.1, (r12.2.2.1.2.1, ())), (r12.2.2.2.1, (r12.2.2.2.2.1, (r12.2.2.2.2.2.1, (r12.2.2.2.2.2.2.1, (r12.2.2.2.2.2.2.2.1, (r12.2.2.2.2.2.2.2.2.1, (r12.2.2.2.2.2.2.2.2.2.1, (r12.2.2.2.2.2.2.2.2.2.2.1, (r12.2.2.2.2.2.2.2.2.2.2.2.1, (r12.2.2.2.2.2.2.2.2.2.2.2.2.1, (r12.2.2.2.2.2.2.2.2.2.2.2.2.2.1, (r12.2.2.2.2.2.2.2.2.2.2.2.2.2.2.1, ()))))))))))))))) h13))) ∧
    ((decide (o1.2.1 = 13)) = false →
    deque_Op_stolen.j1 Q ((o1.1, (o1.2.1, (o1.2.2.1.1, (o1.2.2.1.2.1, (o1.2.2.2.1, (o1.2.2.2.2.1, (o1.2.2.2.2.2.1, (o1.2.2.2.2.2.2.1, (o1.2.2.2.2.2.2.2.1, (o1.2.2.2.2.2.2.2.2.1, (o1.2.2.2.2.2.2.2.2.2.1, (o1.2.2.2.2.2.2.2.2.2.2.1, (o1.2.2.2.2.2.2.2.2.2.2.2.1, (o1.2.2.2.2.2.2.2.2.2.2.2.2.1, (o1.2.2.2.2.2.2.2.2.2.2.2.2.2.1, (o1.2.2.2.2.2.2.2.2.2.2.2.2.2.2.1, ())))))))))))))))), (0, (0, (0, (0, (0, (0, (0, (0, (0, (0, (0, (0, (0, (false, (0, (0, ())))))))))))))))), ()) h3))))))))))))
def deque_Op_stolen.mk : Mk := (.s (.r [0, 1]) (.j [.box 2 (.pair (.int .i64) (.pair (.int .i64) (.pair (.int .i64) (.pair (.int .i64) (.pair (.int .i64) (.pair (.int .i64) (.pair (.int .i64) (.pair (.int .i64) (.pair (.int .i64) (.pair (.int .i64) (.pair (.int .i64) (.pair (.int .i64) (.pair (.int .i64) (.pair .bool kparkLot)))))))))))))), .box 4 (.pair (.int .i64) (.pair (.int .i64) (.pair (.int .i64) (.pair (.int .i64) (.pair (.int .i64) (.pair (.int .i64) (.pair (.int .i64) (.pair (.int .i64) (.pair (.int .i64) (.pair (.int .i64) (.pair (.int .i64) (.pair (.int .i64) (.pair (.int .i64) (.pair .bool kparkLot))))))))))))))] (.s .d (.b (.s .d (.c .d (.s .d (.c (.s .d (.s .d (.c (.s .d .d) .d))) (.s .d (.c .d (.s .d (.c (.s .d (.s .d (.c (.s .d .d) .d))) (.s .d (.c .d (.s .d (.c (.s (.s .d (.c (.s .d .d) .d)) (.s .d .d)) .d)))))))))))))) (.s .d .d)))

def deque_Op_looked.M (c_deque_Op_over : Den kdequeOp → Int → Int → Heap → (Den kdequeOp → Heap → Prop) → Prop) (o1 : Den kdequeOp) (got2 : Int) (h3 : Heap) (Q : Den kdequeOp → Heap → Prop) : Prop :=
    (((decide (o1.2.1 = 2)) = true →
    Q (o1.1, (1, ((o1.2.2.1.1, (o1.2.2.1.2.1, ())), (o1.2.2.2.1, (got2, (o1.2.2.2.2.2.1, (o1.2.2.2.2.2.2.1, (o1.2.2.2.2.2.2.2.1, (o1.2.2.2.2.2.2.2.2.1, (o1.2.2.2.2.2.2.2.2.2.1, (o1.2.2.2.2.2.2.2.2.2.2.1, (o1.2.2.2.2.2.2.2.2.2.2.2.1, (o1.2.2.2.2.2.2.2.2.2.2.2.2.1, (o1.2.2.2.2.2.2.2.2.2.2.2.2.2.1, (o1.2.2.2.2.2.2.2.2.2.2.2.2.2.2.1, ()))))))))))))))) h3) ∧
    ((decide (o1.2.1 = 2)) = false →
    (((decide (o1.2.2.2.2.1 < got2)) = true →
    c_deque_Op_over (o1.1, (o1.2.1, ((o1.2.2.1.1, (o1.2.2.1.2.1, ())), (o1.2.2.2.1, (o1.2.2.2.2.1, (o1.2.2.2.2.2.1, (o1.2.2.2.2.2.2.1, (o1.2.2.2.2.2.2.2.1, (o1.2.2.2.2.2.2.2.2.1, (o1.2.2.2.2.2.2.2.2.2.1, (o1.2.2.2.2.2.2.2.2.2.2.1, (o1.2.2.2.2.2.2.2.2.2.2.2.1, (o1.2.2.2.2.2.2.2.2.2.2.2.2.1, (o1.2.2.2.2.2.2.2.2.2.2.2.2.2.1, (o1.2.2.2.2.2.2.2.2.2.2.2.2.2.2.1, ()))))))))))))))) 7 0 h3 fun r4 h5 =>
    Q (r4.1, (r4.2.1, ((r4.2.2.1.1, (r4.2.2.1.2.1, ())), (r4.2.2.2.1, (r4.2.2.2.2.1, (r4.2.2.2.2.2.1, (r4.2.2.2.2.2.2.1, (r4.2.2.2.2.2.2.2.1, (r4.2.2.2.2.2.2.2.2.1, (r4.2.2.2.2.2.2.2.2.2.1, (r4.2.2.2.2.2.2.2.2.2.2.1, (r4.2.2.2.2.2.2.2.2.2.2.2.1, (r4.2.2.2.2.2.2.2.2.2.2.2.2.1, (r4.2.2.2.2.2.2.2.2.2.2.2.2.2.1, (r4.2.2.2.2.2.2.2.2.2.2.2.2.2.2.1, ()))))))))))))))) h5) ∧
    ((decide (o1.2.2.2.2.1 < got2)) = false →
    c_deque_Op_over (o1.1, (o1.2.1, ((o1.2.2.1.1, (o1.2.2.1.2.1, ())), (o1.2.2.2.1, (o1.2.2.2.2.1, (o1.2.2.2.2.2.1, (o1.2.2.2.2.2.2.1, (o1.2.2.2.2.2.2.2.1, (o1.2.2.2.2.2.2.2.2.1, (o1.2.2.2.2.2.2.2.2.2.1, (o1.2.2.2.2.2.2.2.2.2.2.1, (o1.2.2.2.2.2.2.2.2.2.2.2.1, (o1.2.2.2.2.2.2.2.2.2.2.2.2.1, (o1.2.2.2.2.2.2.2.2.2.2.2.2.2.1, (o1.2.2.2.2.2.2.2.2.2.2.2.2.2.2.1, ()))))))))))))))) 8 0 h3 fun r6 h7 =>
    Q (r6.1, (r6.2.1, ((r6.2.2.1.1, (r6.2.2.1.2.1, ())), (r6.2.2.2.1, (r6.2.2.2.2.1, (r6.2.2.2.2.2.1, (r6.2.2.2.2.2.2.1, (r6.2.2.2.2.2.2.2.1, (r6.2.2.2.2.2.2.2.2.1, (r6.2.2.2.2.2.2.2.2.2.1, (r6.2.2.2.2.2.2.2.2.2.2.1, (r6.2.2.2.2.2.2.2.2.2.2.2.1, (r6.2.2.2.2.2.2.2.2.2.2.2.2.1, (r6.2.2.2.2.2.2.2.2.2.2.2.2.2.1, (r6.2.2.2.2.2.2.2.2.2.2.2.2.2.2.1, ()))))))))))))))) h7))))
def deque_Op_looked.mk : Mk := (.s (.r [0, 1]) (.s (.s .d (.c (.s .d (.s .d .d)) .d)) (.s (.s .d (.c (.s .d .d) .d)) (.s .d .d))))

def ref3_end.M  (code1 : Int) (v2 : Int) (h3 : Heap) (Q : Den kref3Want → Heap → Prop) : Prop :=
    Q ((-1), (0, (0, (0, (code1, (v2, ())))))) h3
def ref3_end.mk : Mk := (.s (.r [0]) (.s .d .d))

def ref3_push.M (c_ref3_load : Int → Heap → (Den kref3Want → Heap → Prop) → Prop) (c_ref3_end : Int → Int → Heap → (Den kref3Want → Heap → Prop) → Prop) (c_ref3_last : Den kparkLot → Int → Int → Int → Int → Int → Heap → (Den kref3Want → Heap → Prop) → Prop) (c_ref3_store : Int → Int → Heap → (Den kref3Want → Heap → Prop) → Prop) (c_ref3_at : Int → Int → Int → Heap → (Int → Heap → Prop) → Prop) (d1 : Den kparkLot) (v2 : Int) (h3 : Sl) (h4 : Heap) (Q : Den kref3Want → Heap → Prop) : Prop :=
    (((decide ((h3.len : Int) = 0)) = true →
    c_ref3_load (w64 (d1.1 + 1)) h4 fun r5 h6 =>
    Q (r5.1, (r5.2.1, (r5.2.2.1, (r5.2.2.2.1, (r5.2.2.2.2.1, (r5.2.2.2.2.2.1, ())))))) h6) ∧
    ((decide ((h3.len : Int) = 0)) = false →
    (((decide ((h3.len : Int) = 1)) = true →
    c_ref3_load d1.1 h4 fun r7 h8 =>
    Q (r7.1, (r7.2.1, (r7.2.2.1, (r7.2.2.2.1, (r7.2.2.2.2.1, (r7.2.2.2.2.2.1, ())))))) h8) ∧
    ((decide ((h3.len : Int) = 1)) = false →
    (((decide ((h3.len : Int) = 2)) = true →
    c_ref3_load (w64 (d1.1 + 2)) h4 fun r9 h10 =>
    Q (r9.1, (r9.2.1, (r9.2.2.1, (r9.2.2.2.1, (r9.2.2.2.2.1, (r9.2.2.2.2.2.1, ())))))) h10) ∧
    ((decide ((h3.len : Int) = 2)) = false →
    (((decide ((h3.len : Int) = 3)) = true →
    (0 ≤ (2 : Int) ∧ (2 : Int) < (h3.len : Int)) ∧
    deref h3.a fun a11 =>
    ld ((.int .i64) : Kd) h4 (a11.add (((2 : Int) : Int).toNat * 1)) fun t12 =>
    c_ref3_load t12 h4 fun r13 h14 =>
    Q (r13.1, (r13.2.1, (r13.2.2.1, (r13.2.2.2.1, (r13.2.2.2.2.1, (r13.2.2.2.2.2.1, ())))))) h14) ∧
    ((decide ((h3.len : Int) = 3)) = false →
    (0 ≤ (0 : Int) ∧ (0 : Int) < (h3.len : Int)) ∧
    deref h3.a fun a15 =>
    (0 ≤ (1 : Int) ∧ (1 : Int) < (h3.len : Int)) ∧
    deref h3.a fun a16 =>
    (0 ≤ (2 : Int) ∧ (2 : Int) < (h3.len : Int)) ∧
    deref h3.a fun a17 =>
    (0 ≤ (3 : Int) ∧ (3 : Int) < (h3.len : Int)) ∧
    deref h3.a fun a18 =>
    ld ((.int .i64) : Kd) h4 (a15.add (((0 : Int) : Int).toNat * 1)) fun t19 =>
    ld ((.int .i64) : Kd) h4 (a16.add (((1 : Int) : Int).toNat * 1)) fun t20 =>
    ld ((.int .i64) : Kd) h4 (a17.add (((2 : Int) : Int).toNat * 1)) fun t21 =>
    ld ((.int .i64) : Kd) h4 (a18.add (((3 : Int) : Int).toNat * 1)) fun t22 =>
    (((decide (t22 < 1)) = true →
    c_ref3_end 1 0 h4 fun r23 h24 =>
    Q (r23.1, (r23.2.1, (r23.2.2.1, (r23.2.2.2.1, (r23.2.2.2.2.1, (r23.2.2.2.2.2.1, ())))))) h24) ∧
    ((decide (t22 < 1)) = false →
    (((decide ((w64 (t19 - t20)) < t22)) = true →
    c_ref3_last (d1.1, (d1.2.1, ())) v2 t21 t22 t19 (w64 ((h3.len : Int) - 4)) h4 fun r25 h26 =>
    Q (r25.1, (r25.2.1, (r25.2.2.1, (r25.2.2.2.1, (r25.2.2.2.2.1, (r25.2.2.2.2.2.1, ())))))) h26) ∧
    ((decide ((w64 (t19 - t20)) < t22)) = false →
    (((decide (d1.2.1 ≤ t22)) = true →
    c_ref3_end 3 0 h4 fun r27 h28 =>
    Q (r27.1, (r27.2.1, (r27.2.2.1, (r27.2.2.2.1, (r27.2.2.2.2.1, (r27.2.2.2.2.2.1, ())))))) h28) ∧
    ((decide (d1.2.1 ≤ t22)) = false →
    (((decide ((h3.len : Int) = 4)) = true →
    Q (4, (0, ((w64 (1 + (if d1.2.1 < (w64 (2 * t22)) then d1.2.1 else (w64 (2 * t22))))), (0, (0, (0, ())))))) h4) ∧
    ((decide ((h3.len : Int) = 4)) = false →
    (0 ≤ (4 : Int) ∧ (4 : Int) < (h3.len : Int)) ∧
    deref h3.a fun a29 =>
    ld ((.int .i64) : Kd) h4 (a29.add (((4 : Int) : Int).toNat * 1)) fun t30 =>
    (((decide ((h3.len : Int) = 5)) = true →
    c_ref3_store t30 (if d1.2.1 < (w64 (2 * t22)) then d1.2.1 else (w64 (2 * t22))) h4 fun r31 h32 =>
    Q (r31.1, (r31.2.1, (r31.2.2.1, (r31.2.2.2.1, (r31.2.2.2.2.1, (r31.2.2.2.2.2.1, ())))))) h32) ∧
    ((decide ((h3.len : Int) = 5)) = false →
    (2 : Int) ≠ 0 ∧
    (((decide ((w64 (Int.tdiv (w64 ((h3.len : Int) - 6)) 2)) < (w64 (t19 - t20)))) = true →
    (2 : Int) ≠ 0 ∧
    (2 : Int) ≠ 0 ∧
    (((decide ((Int.tmod (w64 ((h3.len : Int) - 6)) 2) = 0)) = true →
    c_ref3_at t21 t22 (w64 (t20 + (w64 (Int.tdiv (w64 ((h3.len : Int) - 6)) 2)))) h4 fun r33 h34 =>
    c_ref3_load r33 h34 fun r35 h36 =>
    Q (r35.1, (r35.2.1, (r35.2.2.1, (r35.2.2.2.1, (r35.2.2.2.2.1, (r35.2.2.2.2.2.1, ())))))) h36) ∧
    ((decide ((Int.tmod (w64 ((h3.len : Int) - 6)) 2) = 0)) = false →
    (0 ≤ (w64 ((h3.len : Int) - 1)) ∧ (w64 ((h3.len : Int) - 1)) < (h3.len : Int)) ∧
    deref h3.a fun a37 =>
    ld ((.int .i64) : Kd) h4 (a37.add (((w64 ((h3.len : Int) - 1)) : Int).toNat * 1)) fun t38 =>
    c_ref3_at t30 (if d1.2.1 < (w64 (2 * t22)) then d1.2.1 else (w64 (2 * t22))) (w64 (t20 + (w64 (Int.tdiv (w64 ((h3.len : Int) - 6)) 2)))) h4 fun r39 h40 =>
    sees h40 (some (a37.add (((w64 ((h3.len : Int) - 1)) : Int).toNat * 1))) ((.int .i64) : Kd) t38 ∧
    c_ref3_store r39 t38 h40 fun r41 h42 =>
    Q (r41.1, (r41.2.1, (r41.2.2.1, (r41.2.2.2.1, (r41.2.2.2.2.1, (r41.2.2.2.2.2.1, ())))))) h42))) ∧
    ((decide ((w64 (Int.tdiv (w64 ((h3.len : Int) - 6)) 2)) < (w64 (t19 - t20)))) = false →
    (((decide ((w64 ((h3.len : Int) - 6)) = (w64 (2 * (w64 (t19 - t20)))))) = true →
    c_ref3_store (w64 (d1.1 + 2)) t30 h4 fun r43 h44 =>
    Q (r43.1, (r43.2.1, (r43.2.2.1, (r43.2.2.2.1, (r43.2.2.2.2.1, (r43.2.2.2.2.2.1, ())))))) h44) ∧
    ((decide ((w64 ((h3.len : Int) - 6)) = (w64 (2 * (w64 (t19 - t20)))))) = false →
    c_ref3_last (d1.1, (d1.2.1, ())) v2 t30 (if d1.2.1 < (w64 (2 * t22)) then d1.2.1 else (w64 (2 * t22))) t19 (w64 ((w64 ((w64 ((h3.len : Int) - 6)) - (w64 (2 * (w64 (t19 - t20)))))) - 1)) h4 fun r45 h46 =>
    Q (r45.1, (r45.2.1, (r45.2.2.1, (r45.2.2.2.1, (r45.2.2.2.2.1, (r45.2.2.2.2.2.1, ())))))) h46))))))))))))))))))))))
def ref3_push.mk : Mk := (.s (.r [0, 1]) (.s (.s .d (.b (.s .d (.c (.s .d .d) (.s .d (.c (.s .d .d) (.s .d (.c (.s .d .d) (.s .d (.c (.s .d .d) .d)))))))))) (.s (.q [] [] [.p 0, .p 1, .p 3, .p 4, .p 6, .p 7, .p 9, .p 10, .w 2 [2, 12, 13, 14, 15], .p 12, .w 5 [5, 13, 14, 15], .p 13, .w 8 [8, 14, 15], .p 14, .w 11 [11, 15], .p 15]) (.s (.s .d (.c (.s .d .d) .d)) (.s (.s .d (.c (.s .d .d) .d)) (.s (.s .d (.c (.s .d .d) .d)) (.s .d (.s (.s .d (.c (.s .d .d) .d)) (.s .d (.s (.s .d (.c (.s .d .d) .d)) (.s .d (.s (.s .d (.c (.s .d (.s (.s .d (.c (.s .d .d) .d)) (.s (.q [] [6] [.p 0, .p 1, .p 2, .p 4, .p 5, .p 6, .p 7, .p 8, .w 9 [9, 10, 11], .o 3, .o 10, .o 11]) .d))) .d)) (.s (.s .d (.c (.s .d .d) .d)) (.s .d .d))))))))))))))

def ref3_pop.M (c_ref3_load : Int → Heap → (Den kref3Want → Heap → Prop) → Prop) (c_ref3_store : Int → Int → Heap → (Den kref3Want → Heap → Prop) → Prop) (c_ref3_end : Int → Int → Heap → (Den kref3Want → Heap → Prop) → Prop) (c_ref3_at : Int → Int → Int → Heap → (Int → Heap → Prop) → Prop) (d1 : Den kparkLot) (h2 : Sl) (h3 : Heap) (Q : Den kref3Want → Heap → Prop) : Prop :=
    (((decide ((h2.len : Int) = 0)) = true →
    c_ref3_load (w64 (d1.1 + 1)) h3 fun r4 h5 =>
    Q (r4.1, (r4.2.1, (r4.2.2.1, (r4.2.2.2.1, (r4.2.2.2.2.1, (r4.2.2.2.2.2.1, ())))))) h5) ∧
    ((decide ((h2.len : Int) = 0)) = false →
    (0 ≤ (0 : Int) ∧ (0 : Int) < (h2.len : Int)) ∧
    deref h2.a fun a6 =>
    ld ((.int .i64) : Kd) h3 (a6.add (((0 : Int) : Int).toNat * 1)) fun t7 =>
    (((decide ((h2.len : Int) = 1)) = true →
    c_ref3_load (w64 (d1.1 + 2)) h3 fun r8 h9 =>
    Q (r8.1, (r8.2.1, (r8.2.2.1, (r8.2.2.2.1, (r8.2.2.2.2.1, (r8.2.2.2.2.2.1, ())))))) h9) ∧
    ((decide ((h2.len : Int) = 1)) = false →
    (((decide ((h2.len : Int) = 2)) = true →
    c_ref3_store (w64 (d1.1 + 1)) (w64 (t7 - 1)) h3 fun r10 h11 =>
    Q (r10.1, (r10.2.1, (r10.2.2.1, (r10.2.2.2.1, (r10.2.2.2.2.1, (r10.2.2.2.2.2.1, ())))))) h11) ∧
    ((decide ((h2.len : Int) = 2)) = false →
    (((decide ((h2.len : Int) = 3)) = true →
    c_ref3_load d1.1 h3 fun r12 h13 =>
    Q (r12.1, (r12.2.1, (r12.2.2.1, (r12.2.2.2.1, (r12.2.2.2.2.1, (r12.2.2.2.2.2.1, ())))))) h13) ∧
    ((decide ((h2.len : Int) = 3)) = false →
    (0 ≤ (1 : Int) ∧ (1 : Int) < (h2.len : Int)) ∧
    deref h2.a fun a14 =>
    (0 ≤ (3 : Int) ∧ (3 : Int) < (h2.len : Int)) ∧
    deref h2.a fun a15 =>
    ld ((.int .i64) : Kd) h3 (a14.add (((1 : Int) : Int).toNat * 1)) fun t16 =>
    ld ((.int .i64) : Kd) h3 (a15.add (((3 : Int) : Int).toNat * 1)) fun t17 =>
    (((decide ((w64 (t7 - 1)) < t17)) = true →
    (((decide ((h2.len : Int) = 4)) = true →
    c_ref3_store (w64 (d1.1 + 1)) t17 h3 fun r18 h19 =>
    Q (r18.1, (r18.2.1, (r18.2.2.1, (r18.2.2.2.1, (r18.2.2.2.2.1, (r18.2.2.2.2.2.1, ())))))) h19) ∧
    ((decide ((h2.len : Int) = 4)) = false →
    c_ref3_end 5 0 h3 fun r20 h21 =>
    Q (r20.1, (r20.2.1, (r20.2.2.1, (r20.2.2.2.1, (r20.2.2.2.2.1, (r20.2.2.2.2.2.1, ())))))) h21))) ∧
    ((decide ((w64 (t7 - 1)) < t17)) = false →
    (((decide ((h2.len : Int) = 4)) = true →
    c_ref3_load t16 h3 fun r22 h23 =>
    Q (r22.1, (r22.2.1, (r22.2.2.1, (r22.2.2.2.1, (r22.2.2.2.2.1, (r22.2.2.2.2.2.1, ())))))) h23) ∧
    ((decide ((h2.len : Int) = 4)) = false →
    (0 ≤ (4 : Int) ∧ (4 : Int) < (h2.len : Int)) ∧
    deref h2.a fun a24 =>
    ld ((.int .i64) : Kd) h3 (a24.add (((4 : Int) : Int).toNat * 1)) fun t25 =>
    (((decide (t25 < 1)) = true →
    c_ref3_end 1 0 h3 fun r26 h27 =>
    Q (r26.1, (r26.2.1, (r26.2.2.1, (r26.2.2.2.1, (r26.2.2.2.2.1, (r26.2.2.2.2.2.1, ())))))) h27) ∧
    ((decide (t25 < 1)) = false →
    (((decide ((h2.len : Int) = 5)) = true →
    c_ref3_at t16 t25 (w64 (t7 - 1)) h3 fun r28 h29 =>
    c_ref3_load r28 h29 fun r30 h31 =>
    Q (r30.1, (r30.2.1, (r30.2.2.1, (r30.2.2.2.1, (r30.2.2.2.2.1, (r30.2.2.2.2.2.1, ())))))) h31) ∧
    ((decide ((h2.len : Int) = 5)) = false →
    (((decide (t17 < (w64 (t7 - 1)))) = true →
    (0 ≤ (5 : Int) ∧ (5 : Int) < (h2.len : Int)) ∧
    deref h2.a fun a32 =>
    ld ((.int .i64) : Kd) h3 (a32.add (((5 : Int) : Int).toNat * 1)) fun t33 =>
    c_ref3_end 4 t33 h3 fun r34 h35 =>
    Q (r34.1, (r34.2.1, (r34.2.2.1, (r34.2.2.2.1, (r34.2.2.2.2.1, (r34.2.2.2.2.2.1, ())))))) h35) ∧
    ((decide (t17 < (w64 (t7 - 1)))) = false →
    (((decide ((h2.len : Int) = 6)) = true →
    Q (2, (d1.1, (t17, ((w64 (t17 + 1)), (0, (0, ())))))) h3) ∧
    ((decide ((h2.len : Int) = 6)) = false →
    (((decide ((h2.len : Int) = 7)) = true →
    c_ref3_store (w64 (d1.1 + 1)) (w64 (t17 + 1)) h3 fun r36 h37 =>
    Q (r36.1, (r36.2.1, (r36.2.2.1, (r36.2.2.2.1, (r36.2.2.2.2.1, (r36.2.2.2.2.2.1, ())))))) h37) ∧
    ((decide ((h2.len : Int) = 7)) = false →
    (0 ≤ (6 : Int) ∧ (6 : Int) < (h2.len : Int)) ∧
    deref h2.a fun a38 =>
    ld ((.int .i64) : Kd) h3 (a38.add (((6 : Int) : Int).toNat * 1)) fun t39 =>
    (((decide (t39 = 1)) = true →
    (0 ≤ (5 : Int) ∧ (5 : Int) < (h2.len : Int)) ∧
    deref h2.a fun a40 =>
    ld ((.int .i64) : Kd) h3 (a40.add (((5 : Int) : Int).toNat * 1)) fun t41 =>
    c_ref3_end 4 t41 h3 fun r42 h43 =>
    Q (r42.1, (r42.2.1, (r42.2.2.1, (r42.2.2.2.1, (r42.2.2.2.2.1, (r42.2.2.2.2.2.1, ())))))) h43) ∧
    ((decide (t39 = 1)) = false →
    c_ref3_end 5 0 h3 fun r44 h45 =>
    Q (r44.1, (r44.2.1, (r44.2.2.1, (r44.2.2.2.1, (r44.2.2.2.2.1, (r44.2.2.2.2.2.1, ())))))) h45))))))))))))))))))))))))
def ref3_pop.mk : Mk := (.s (.r [0, 1]) (.s (.s .d (.c (.s .d .d) .d)) (.s .d (.s (.s .d (.b (.s .d (.c (.s .d .d) (.s .d (.c (.s .d .d) (.s .d (.c (.s .d .d) .d)))))))) (.s (.q [] [] [.p 0, .p 1, .p 3, .p 4, .w 2 [2, 6, 7], .p 6, .w 5 [5, 7], .p 7]) (.s (.s .d (.c (.s (.s .d (.c (.s .d .d) .d)) (.s .d .d)) .d)) (.s (.s .d (.c (.s .d .d) .d)) (.s .d (.s (.s .d (.c (.s .d .d) .d)) (.s (.s .d (.c (.s .d .d) .d)) (.s (.b (.s .d (.c (.s .d .d) (.s .d (.c (.s .d .d) (.s .d (.c (.s .d .d) (.s .d (.c (.s .d .d) .d))))))))) (.s .d .d))))))))))))

def ref3_steal.M (c_ref3_load : Int → Heap → (Den kref3Want → Heap → Prop) → Prop) (c_ref3_end : Int → Int → Heap → (Den kref3Want → Heap → Prop) → Prop) (c_ref3_at : Int → Int → Int → Heap → (Int → Heap → Prop) → Prop) (d1 : Den kparkLot) (h2 : Sl) (h3 : Heap) (Q : Den kref3Want → Heap → Prop) : Prop :=
    (((decide ((h2.len : Int) = 0)) = true →
    c_ref3_load d1.1 h3 fun r4 h5 =>
    Q (r4.1, (r4.2.1, (r4.2.2.1, (r4.2.2.2.1, (r4.2.2.2.2.1, (r4.2.2.2.2.2.1, ())))))) h5) ∧
    ((decide ((h2.len : Int) = 0)) = false →
    (((decide ((h2.len : Int) = 1)) = true →
    c_ref3_load (w64 (d1.1 + 1)) h3 fun r6 h7 =>
    Q (r6.1, (r6.2.1, (r6.2.2.1, (r6.2.2.2.1, (r6.2.2.2.2.1, (r6.2.2.2.2.2.1, ())))))) h7) ∧
    ((decide ((h2.len : Int) = 1)) = false →
    (0 ≤ (0 : Int) ∧ (0 : Int) < (h2.len : Int)) ∧
    deref h2.a fun a8 =>
    (0 ≤ (1 : Int) ∧ (1 : Int) < (h2.len : Int)) ∧
    deref h2.a fun a9 =>
    ld ((.int .i64) : Kd) h3 (a8.add (((0 : Int) : Int).toNat * 1)) fun t10 =>
    ld ((.int .i64) : Kd) h3 (a9.add (((1 : Int) : Int).toNat * 1)) fun t11 =>
    (((decide (t11 ≤ t10)) = true →
    c_ref3_end 5 0 h3 fun r12 h13 =>
    Q (r12.1, (r12.2.1, (r12.2.2.1, (r12.2.2.2.1, (r12.2.2.2.2.1, (r12.2.2.2.2.2.1, ())))))) h13) ∧
    ((decide (t11 ≤ t10)) = false →
    (((decide ((h2.len : Int) = 2)) = true →
    c_ref3_load (w64 (d1.1 + 2)) h3 fun r14 h15 =>
    Q (r14.1, (r14.2.1, (r14.2.2.1, (r14.2.2.2.1, (r14.2.2.2.2.1, (r14.2.2.2.2.2.1, ())))))) h15) ∧
    ((decide ((h2.len : Int) = 2)) = false →
    (((decide ((h2.len : Int) = 3)) = true →
    (0 ≤ (2 : Int) ∧ (2 : Int) < (h2.len : Int)) ∧
    deref h2.a fun a16 =>
    ld ((.int .i64) : Kd) h3 (a16.add (((2 : Int) : Int).toNat * 1)) fun t17 =>
    c_ref3_load t17 h3 fun r18 h19 =>
    Q (r18.1, (r18.2.1, (r18.2.2.1, (r18.2.2.2.1, (r18.2.2.2.2.1, (r18.2.2.2.2.2.1, ())))))) h19) ∧
    ((decide ((h2.len : Int) = 3)) = false →
    (0 ≤ (3 : Int) ∧ (3 : Int) < (h2.len : Int)) ∧
    deref h2.a fun a20 =>
    ld ((.int .i64) : Kd) h3 (a20.add (((3 : Int) : Int).toNat * 1)) fun t21 =>
    (((decide (t21 < 1)) = true →
    c_ref3_end 1 0 h3 fun r22 h23 =>
    Q (r22.1, (r22.2.1, (r22.2.2.1, (r22.2.2.2.1, (r22.2.2.2.2.1, (r22.2.2.2.2.2.1, ())))))) h23) ∧
    ((decide (t21 < 1)) = false →
    (((decide ((h2.len : Int) = 4)) = true →
    (0 ≤ (2 : Int) ∧ (2 : Int) < (h2.len : Int)) ∧
    deref h2.a fun a24 =>
    (0 ≤ (3 : Int) ∧ (3 : Int) < (h2.len : Int)) ∧
    deref h2.a fun a25 =>
    (0 ≤ (0 : Int) ∧ (0 : Int) < (h2.len : Int)) ∧
    deref h2.a fun a26 =>
    ld ((.int .i64) : Kd) h3 (a24.add (((2 : Int) : Int).toNat * 1)) fun t27 =>
    ld ((.int .i64) : Kd) h3 (a25.add (((3 : Int) : Int).toNat * 1)) fun t28 =>
    ld ((.int .i64) : Kd) h3 (a26.add (((0 : Int) : Int).toNat * 1)) fun t29 =>
    c_ref3_at t27 t28 t29 h3 fun r30 h31 =>
    c_ref3_load r30 h31 fun r32 h33 =>
    Q (r32.1, (r32.2.1, (r32.2.2.1, (r32.2.2.2.1, (r32.2.2.2.2.1, (r32.2.2.2.2.2.1, ())))))) h33) ∧
    ((decide ((h2.len : Int) = 4)) = false →
    (((decide ((h2.len : Int) = 5)) = true →
    (0 ≤ (0 : Int) ∧ (0 : Int) < (h2.len : Int)) ∧
    deref h2.a fun a34 =>
    (0 ≤ (0 : Int) ∧ (0 : Int) < (h2.len : Int)) ∧
    deref h2.a fun a35 =>
    ld ((.int .i64) : Kd) h3 (a34.add (((0 : Int) : Int).toNat * 1)) fun t36 =>
    ld ((.int .i64) : Kd) h3 (a35.add (((0 : Int) : Int).toNat * 1)) fun t37 =>
    Q (2, (d1.1, (t36, ((w64 (t37 + 1)), (0, (0, ())))))) h3) ∧
    ((decide ((h2.len : Int) = 5)) = false →
    (0 ≤ (5 : Int) ∧ (5 : Int) < (h2.len : Int)) ∧
    deref h2.a fun a38 =>
    ld ((.int .i64) : Kd) h3 (a38.add (((5 : Int) : Int).toNat * 1)) fun t39 =>
    (((decide (t39 = 1)) = true →
    (0 ≤ (4 : Int) ∧ (4 : Int) < (h2.len : Int)) ∧
    deref h2.a fun a40 =>
    ld ((.int .i64) : Kd) h3 (a40.add (((4 : Int) : Int).toNat * 1)) fun t41 =>
    c_ref3_end 4 t41 h3 fun r42 h43 =>
    Q (r42.1, (r42.2.1, (r42.2.2.1, (r42.2.2.2.1, (r42.2.2.2.2.1, (r42.2.2.2.2.2.1, ())))))) h43) ∧
    ((decide (t39 = 1)) = false →
    c_ref3_end 6 0 h3 fun r44 h45 =>
    Q (r44.1, (r44.2.1, (r44.2.2.1, (r44.2.2.2.1, (r44.2.2.2.2.1, (r44.2.2.2.2.2.1, ())))))) h45))))))))))))))))))
def ref3_steal.mk : Mk := (.s (.r [0, 1]) (.s (.s .d (.b (.s .d (.c (.s .d .d) (.s .d (.c (.s .d .d) .d)))))) (.s (.s (.q [] [] [.p 0, .p 1, .p 3, .p 4, .w 2 [2, 6], .w 5 [5, 6], .p 6]) (.c (.s .d .d) .d)) (.s (.s .d (.b (.s .d (.c (.s .d .d) (.s .d (.c (.s .d .d) .d)))))) (.s (.s .d (.c (.s .d .d) .d)) (.s (.s .d (.b (.s .d (.c (.s (.q [] [4] [.p 0, .p 1, .p 3, .p 4, .p 6, .p 7, .w 2 [2, 9, 10, 11], .w 5 [5, 9, 10, 11], .w 8 [8, 9, 10, 11], .o 9, .o 10, .o 11]) .d) (.s .d (.c (.s (.q [] [4] [.p 0, .p 2, .p 3, .p 5, .p 6, .w 1 [1, 9, 10], .w 4 [4, 9, 10], .w 7 [7, 8, 9, 10], .p 8, .p 9, .o 10]) .d) .d)))))) (.s (.s .d (.c (.s .d .d) .d)) (.s .d .d))))))))

def ref3_look.M (c_ref3_load : Int → Heap → (Den kref3Want → Heap → Prop) → Prop) (c_ref3_end : Int → Int → Heap → (Den kref3Want → Heap → Prop) → Prop) (d1 : Den kparkLot) (h2 : Sl) (h3 : Heap) (Q : Den kref3Want → Heap → Prop) : Prop :=
    (((decide ((h2.len : Int) = 0)) = true →
    c_ref3_load d1.1 h3 fun r4 h5 =>
    Q (r4.1, (r4.2.1, (r4.2.2.1, (r4.2.2.2.1, (r4.2.2.2.2.1, (r4.2.2.2.2.2.1, ())))))) h5) ∧
    ((decide ((h2.len : Int) = 0)) = false →
    (((decide ((h2.len : Int) = 1)) = true →
    c_ref3_load (w64 (d1.1 + 1)) h3 fun r6 h7 =>
    Q (r6.1, (r6.2.1, (r6.2.2.1, (r6.2.2.2.1, (r6.2.2.2.2.1, (r6.2.2.2.2.2.1, ())))))) h7) ∧
    ((decide ((h2.len : Int) = 1)) = false →
    (0 ≤ (0 : Int) ∧ (0 : Int) < (h2.len : Int)) ∧
    deref h2.a fun a8 =>
    (0 ≤ (1 : Int) ∧ (1 : Int) < (h2.len : Int)) ∧
    deref h2.a fun a9 =>
    ld ((.int .i64) : Kd) h3 (a8.add (((0 : Int) : Int).toNat * 1)) fun t10 =>
    ld ((.int .i64) : Kd) h3 (a9.add (((1 : Int) : Int).toNat * 1)) fun t11 =>
    (((decide (t10 < t11)) = true →
    c_ref3_end 7 0 h3 fun r12 h13 =>
    Q (r12.1, (r12.2.1, (r12.2.2.1, (r12.2.2.2.1, (r12.2.2.2.2.1, (r12.2.2.2.2.2.1, ())))))) h13) ∧
    ((decide (t10 < t11)) = false →
    c_ref3_end 8 0 h3 fun r14 h15 =>
    Q (r14.1, (r14.2.1, (r14.2.2.1, (r14.2.2.2.1, (r14.2.2.2.2.1, (r14.2.2.2.2.2.1, ())))))) h15))))))
def ref3_look.mk : Mk := (.s (.r [0, 1]) (.s (.s .d (.b (.s .d (.c (.s .d .d) (.s .d (.c (.s .d .d) .d)))))) (.s (.s (.q [] [] [.p 0, .p 1, .p 3, .p 4, .w 2 [2, 6], .w 5 [5, 6], .p 6]) (.c (.s .d .d) .d)) (.s .d .d))))

def cells_good.M  (size1 : Int) (h2 : Heap) (Q : Bool → Heap → Prop) : Prop :=
    (((decide ((0 : Int) ≤ size1)) = true →
    Q (decide (size1 ≤ 1048576)) h2) ∧
    ((decide ((0 : Int) ≤ size1)) = false →
    Q false h2))
def cells_good.mk : Mk := (.s .d (.s .d .d))

def deque_begin.j1 (kind1 : Int) (at_2 : Int) (d3 : Den kparkLot) (v4 : Int) (Q : Den kdequeOp → Heap → Prop) (s6 : ((Int × (Int × (Int × (Int × (Int × (Int × (Int × (Int × (Int × (Int × (Int × (Int × (Int × (Bool × Den kparkLot)))))))))))))) × Unit)) (h7 : Heap) : Prop :=
    Q (kind1, (at_2, ((d3.1, (d3.2.1, ())), (v4, (0, (0, (0, (0, (0, (0, (0, (0, (false, (0, (0, ()))))))))))))))) h7
def deque_begin.j2 (kind1 : Int) (at_2 : Int) (d3 : Den kparkLot) (v4 : Int) (Q : Den kdequeOp → Heap → Prop) (s8 : (Bool × Unit)) (h9 : Heap) : Prop :=
    ((s8.1 = true →
    Q (0, (0, ((0, (0, ())), (0, (0, (0, (0, (0, (0, (0, (0, (0, (false, (0, (0, ()))))))))))))))) h9) ∧
    (s8.1 = false →
    deque_begin.j1 kind1 at_2 d3 v4 Q ((0, (0, (0, (0, (0, (0, (0, (0, (0, (0, (0, (0, (0, (false, (0, (0, ())))))))))))))))), ()) h9))
def deque_begin.M  (kind1 : Int) (at_2 : Int) (d3 : Den kparkLot) (v4 : Int) (h5 : Heap) (Q : Den kdequeOp → Heap → Prop) : Prop :=
    (((decide (d3.2.1 < 1)) = true →
    deque_begin.j2 kind1 at_2 d3 v4 Q (true, ()) h5) ∧
    ((decide (d3.2.1 < 1)) = false →
    deque_begin.j2 kind1 at_2 d3 v4 Q ((decide ((4096 : Int) < d3.2.1)), ()) h5))
def deque_begin.mk : Mk := (.s (.r [0, 1]) (.j [.box 8 (.pair (.int .i64) (.pair (.int .i64) (.pair (.int .i64) (.pair (.int .i64) (.pair (.int .i64) (.pair (.int .i64) (.pair (.int .i64) (.pair (.int .i64) (.pair (.int .i64) (.pair (.int .i64) (.pair (.int .i64) (.pair (.int .i64) (.pair (.int .i64) (.pair .bool kparkLot))))))))))))))] (.j [.slot 16 .bool] .d (.c (.s .d .d) .d)) (.s .d .d)))

def cells_ledger_refuse.j1 (Q : Int → Heap → Prop) (s4 : Unit) (h5 : Heap) : Prop :=
    Q 0 h5
def cells_ledger_refuse.j2 (Q : Int → Heap → Prop) (s6 : (Bool × Unit)) (h7 : Heap) : Prop :=
    ((s6.1 = true →
    Q 22 h7) ∧
    (s6.1 = false →
    cells_ledger_refuse.j1 Q () h7))
def cells_ledger_refuse.M  (l1 : Option Addr) (n2 : Int) (h3 : Heap) (Q : Int → Heap → Prop) : Prop :=
    (((decide (n2 < 1)) = true →
    Q 21 h3) ∧
    ((decide (n2 < 1)) = false →
    (((Option.isNone l1) = true →
    cells_ledger_refuse.j2 Q (true, ()) h3) ∧
    ((Option.isNone l1) = false →
    deref l1 fun a8 =>
    deref l1 fun a9 =>
    ld ((.int .i64) : Kd) h3 (a8.add 0) fun t10 =>
    ld ((.int .i64) : Kd) h3 (a9.add 1) fun t11 =>
    cells_ledger_refuse.j2 Q ((decide ((w64 (t10 - t11)) < n2)), ()) h3))))
def cells_ledger_refuse.mk : Mk := (.s .d (.s (.s .d (.c (.s .d .d) .d)) (.j [] (.j [.slot 21 .bool] (.q [] [] [.p 0, .p 1, .p 2, .p 3, .p 4, .p 5, .p 6, .p 8, .p 9, .p 10, .w 7 [7, 12, 13, 14], .w 11 [11, 12, 13, 14], .p 12, .p 13, .p 14]) (.c (.s .d .d) .d)) (.s .d .d))))

def cells_ledger_take.M  (l1 : Option Addr) (n2 : Int) (h3 : Heap) (Q : Int → Heap → Prop) : Prop :=
    deref l1 fun a4 =>
    ld ((.int .i64) : Kd) h3 (a4.add 1) fun t5 =>
    deref l1 fun a6 =>
    ld ((.int .i64) : Kd) h3 (a6.add 1) fun t7 =>
    deref l1 fun a8 =>
    st ((.int .i64) : Kd) h3 (a8.add 1) (w64 (t7 + n2)) fun h9 =>
    Q t5 h9
def cells_ledger_take.mk : Mk := (.s .d (.s .d (.s .d (.s .d .d))))

def cells_Arena_note.M  (a1 : Option Addr) (kind2 : Int) (addr3 : Int) (x4 : Int) (y5 : Int) (ok6 : Bool) (h7 : Heap) (Q : Unit → Heap → Prop) : Prop :=
    deref a1 fun a8 =>
    ld (.bool : Kd) h7 (a8.add 5) fun t9 =>
    ((t9 = true →
    deref a1 fun a10 =>
    deref a1 fun a11 =>
    ld (.sl : Kd) h7 (a10.add 3) fun t12 =>
    ld ((.int .i64) : Kd) h7 (a11.add 4) fun t13 =>
    new h7 (([(t13, (kind2, (addr3, (x4, (y5, (ok6, ()))))))] : List (Den kapiAccess)).flatMap (Kd.cells kapiAccess)) fun p14 h15 =>
    appendM 6 48 h15 t12 ⟨some p14, 1, 1⟩ fun t16 h17 =>
    deref a1 fun a18 =>
    st (.sl : Kd) h17 (a18.add 3) t16 fun h19 =>
    Q () h19) ∧
    (t9 = false →
    Q () h7))
def cells_Arena_note.mk : Mk := (.s .d (.c (.q [] [] [.p 0, .p 1, .p 2, .p 3, .p 5, .p 6, .p 7, .p 9, .p 10, .p 11, .p 12, .p 13, .w 4 [4, 16, 17, 18, 19], .w 8 [8, 14, 15, 16, 17, 18, 19], .p 14, .o 15, .o 16, .p 17, .p 18, .o 19]) .d))

def cells_Arena_outside.M (c_cells_ledger_has : Option Addr → Int → Heap → (Bool → Heap → Prop) → Prop) (a1 : Option Addr) (addr2 : Int) (h3 : Heap) (Q : Bool → Heap → Prop) : Prop :=
    (((Option.isNone a1) = true →
    Q true h3) ∧
    ((Option.isNone a1) = false →
    deref a1 fun a4 =>
    c_cells_ledger_has (some (a4.add 0)) addr2 h3 fun r5 h6 =>
    Q (!r5) h6))
def cells_Arena_outside.mk : Mk := (.s .d (.s .d .d))

def deque_place.j1 (a1 : Int) (Q : Int → Heap → Prop) (s5 : (Int × Unit)) (h6 : Heap) : Prop :=
    Q (w64 ((w64 (a1 + 1)) + s5.1)) h6
def deque_place.M  (a1 : Int) (c2 : Int) (i3 : Int) (h4 : Heap) (Q : Int → Heap → Prop) : Prop :=
    c2 ≠ 0 ∧
    (((decide ((Int.tmod i3 c2) < 0)) = true →
    deque_place.j1 a1 Q ((w64 ((Int.tmod i3 c2) + c2)), ()) h4) ∧
    ((decide ((Int.tmod i3 c2) < 0)) = false →
    deque_place.j1 a1 Q ((Int.tmod i3 c2), ()) h4))
def deque_place.mk : Mk := (.s .d (.s .d (.j [.slot 7 (.int .i64)] (.s .d (.c .d .d)) (.s .d .d))))

def deque_Op_next.M  (o1 : Den kdequeOp) (h2 : Heap) (Q : Int → Heap → Prop) : Prop :=
    (((decide (o1.1 = 1)) = true →
    Q (w64 (o1.2.2.2.2.2.1 + 1)) h2) ∧
    ((decide (o1.1 = 1)) = false →
    (((decide (o1.2.2.2.2.2.2.2.2.2.2.1 = 0)) = true →
    Q o1.2.2.2.2.2.1 h2) ∧
    ((decide (o1.2.2.2.2.2.2.2.2.2.2.1 = 0)) = false →
    (((decide (o1.2.2.2.2.2.1 < o1.2.2.2.2.1)) = true →
    Q o1.2.2.2.2.1 h2) ∧
    ((decide (o1.2.2.2.2.2.1 < o1.2.2.2.2.1)) = false →
    Q (w64 (o1.2.2.2.2.1 + 1)) h2))))))
def deque_Op_next.mk : Mk := (.s (.r [0]) (.s (.b (.s .d (.c (.s .d .d) (.s .d (.c (.s .d .d) (.s .d (.c (.s .d .d) .d))))))) (.s .d .d)))

def ref3_load.M  (addr1 : Int) (h2 : Heap) (Q : Den kref3Want → Heap → Prop) : Prop :=
    Q (0, (addr1, (0, (0, (0, (0, ())))))) h2
def ref3_load.mk : Mk := (.s (.r [0]) (.s .d .d))

def ref3_last.M (c_ref3_at : Int → Int → Int → Heap → (Int → Heap → Prop) → Prop) (c_ref3_store : Int → Int → Heap → (Den kref3Want → Heap → Prop) → Prop) (c_ref3_end : Int → Int → Heap → (Den kref3Want → Heap → Prop) → Prop) (d1 : Den kparkLot) (v2 : Int) (a3 : Int) (c4 : Int) (b5 : Int) (n6 : Int) (h7 : Heap) (Q : Den kref3Want → Heap → Prop) : Prop :=
    (((decide (n6 = 0)) = true →
    c_ref3_at a3 c4 b5 h7 fun r8 h9 =>
    c_ref3_store r8 v2 h9 fun r10 h11 =>
    Q (r10.1, (r10.2.1, (r10.2.2.1, (r10.2.2.2.1, (r10.2.2.2.2.1, (r10.2.2.2.2.2.1, ())))))) h11) ∧
    ((decide (n6 = 0)) = false →
    (((decide (n6 = 1)) = true →
    c_ref3_store (w64 (d1.1 + 1)) (w64 (b5 + 1)) h7 fun r12 h13 =>
    Q (r12.1, (r12.2.1, (r12.2.2.1, (r12.2.2.2.1, (r12.2.2.2.2.1, (r12.2.2.2.2.2.1, ())))))) h13) ∧
    ((decide (n6 = 1)) = false →
    c_ref3_end 2 0 h7 fun r14 h15 =>
    Q (r14.1, (r14.2.1, (r14.2.2.1, (r14.2.2.2.1, (r14.2.2.2.2.1, (r14.2.2.2.2.2.1, ())))))) h15))))
def ref3_last.mk : Mk := (.s (.r [0, 1]) (.s (.s .d (.b (.s .d (.c (.s .d .d) (.s .d (.c (.s .d .d) .d)))))) (.s .d .d)))

def ref3_at.M (c_ref3_Mod : Int → Int → Heap → (Int → Heap → Prop) → Prop) (a1 : Int) (c2 : Int) (i3 : Int) (h4 : Heap) (Q : Int → Heap → Prop) : Prop :=
    c_ref3_Mod i3 c2 h4 fun r5 h6 =>
    Q (w64 ((w64 (a1 + 1)) + r5)) h6
def ref3_at.mk : Mk := (.s .d (.s .d .d))

def cells_ledger_has.M  (l1 : Option Addr) (addr2 : Int) (h3 : Heap) (Q : Bool → Heap → Prop) : Prop :=
    (((decide ((0 : Int) ≤ addr2)) = true →
    deref l1 fun a4 =>
    ld ((.int .i64) : Kd) h3 (a4.add 1) fun t5 =>
    Q (decide (addr2 < t5)) h3) ∧
    ((decide ((0 : Int) ≤ addr2)) = false →
    Q false h3))
def cells_ledger_has.mk : Mk := (.s .d (.s .d .d))

def ref3_Mod.j1 (Q : Int → Heap → Prop) (s4 : (Int × Unit)) (h5 : Heap) : Prop :=
    Q s4.1 h5
def ref3_Mod.M  (x1 : Int) (n2 : Int) (h3 : Heap) (Q : Int → Heap → Prop) : Prop :=
    n2 ≠ 0 ∧
    (((decide ((Int.tmod x1 n2) < 0)) = true →
    ref3_Mod.j1 Q ((w64 ((Int.tmod x1 n2) + n2)), ()) h3) ∧
    ((decide ((Int.tmod x1 n2) < 0)) = false →
    ref3_Mod.j1 Q ((Int.tmod x1 n2), ()) h3))
def ref3_Mod.mk : Mk := (.s .d (.s .d (.j [.slot 5 (.int .i64)] (.s .d (.c .d .d)) (.s .d .d))))

def cells_Arena_Add.M (c_cells_Arena_outside : Option Addr → Int → Heap → (Bool → Heap → Prop) → Prop) (c_cells_Arena_note : Option Addr → Int → Int → Int → Int → Bool → Heap → (Unit → Heap → Prop) → Prop) (a1 : Option Addr) (addr2 : Int) (d3 : Int) (h4 : Heap) (Q : Den kparkLot → Heap → Prop) : Prop :=
    c_cells_Arena_outside a1 addr2 h4 fun r5 h6 =>
    ((r5 = true →
    Q (0, 20, ()) h6) ∧
    (r5 = false →
    deref a1 fun a7 =>
    ld (.sl : Kd) h6 (a7.add 2) fun t8 =>
    (0 ≤ addr2 ∧ addr2 < (t8.len : Int)) ∧
    deref t8.a fun a9 =>
    ld ((.int .i64) : Kd) h6 (a9.add ((addr2 : Int).toNat * 1)) fun t10 =>
    (0 ≤ addr2 ∧ addr2 < (t8.len : Int)) ∧
    deref t8.a fun a11 =>
    st ((.int .i64) : Kd) h6 (a11.add ((addr2 : Int).toNat * 1)) (w64 (t10 + d3)) fun h12 =>
    deref a1 fun a13 =>
    ld (.sl : Kd) h12 (a13.add 2) fun t14 =>
    (0 ≤ addr2 ∧ addr2 < (t14.len : Int)) ∧
    deref t14.a fun a15 =>
    ld ((.int .i64) : Kd) h12 (a15.add ((addr2 : Int).toNat * 1)) fun t16 =>
    c_cells_Arena_note a1 3 addr2 d3 t16 true h12 fun r17 h18 =>
    deref a1 fun a19 =>
    ld (.sl : Kd) h18 (a19.add 2) fun t20 =>
    (0 ≤ addr2 ∧ addr2 < (t20.len : Int)) ∧
    deref t20.a fun a21 =>
    ld ((.int .i64) : Kd) h18 (a21.add ((addr2 : Int).toNat * 1)) fun t22 =>
    Q (t22, 0, ()) h18))
def cells_Arena_Add.mk : Mk := (.s .d (.s (.s .d (.c (.s .d .d) .d)) (.s .d (.s .d (.s .d .d)))))

def cells_Arena_CAS.j1 (c_cells_Arena_note : Option Addr → Int → Int → Int → Int → Bool → Heap → (Unit → Heap → Prop) → Prop) (a1 : Option Addr) (addr2 : Int) (old3 : Int) (next4 : Int) (Q : (Bool × (Int × Unit)) → Heap → Prop) (t11 : Int) (s12 : Unit) (h13 : Heap) : Prop :=
    c_cells_Arena_note a1 2 addr2 old3 next4 (decide (t11 = old3)) h13 fun r14 h15 =>
    Q ((decide (t11 = old3)), 0, ()) h15
def cells_Arena_CAS.M (c_cells_Arena_outside : Option Addr → Int → Heap → (Bool → Heap → Prop) → Prop) (c_cells_Arena_note : Option Addr → Int → Int → Int → Int → Bool → Heap → (Unit → Heap → Prop) → Prop) (a1 : Option Addr) (addr2 : Int) (old3 : Int) (next4 : Int) (h5 : Heap) (Q : (Bool × (Int × Unit)) → Heap → Prop) : Prop :=
    c_cells_Arena_outside a1 addr2 h5 fun r6 h7 =>
    ((r6 = true →
    Q (false, 20, ()) h7) ∧
    (r6 = false →
    deref a1 fun a8 =>
    ld (.sl : Kd) h7 (a8.add 2) fun t9 =>
    (0 ≤ addr2 ∧ addr2 < (t9.len : Int)) ∧
    deref t9.a fun a10 =>
    ld ((.int .i64) : Kd) h7 (a10.add ((addr2 : Int).toNat * 1)) fun t11 =>
    (((decide (t11 = old3)) = true →
    deref a1 fun a16 =>
    ld (.sl : Kd) h7 (a16.add 2) fun t17 =>
    (0 ≤ addr2 ∧ addr2 < (t17.len : Int)) ∧
    deref t17.a fun a18 =>
    st ((.int .i64) : Kd) h7 (a18.add ((addr2 : Int).toNat * 1)) next4 fun h19 =>
    cells_Arena_CAS.j1 c_cells_Arena_note a1 addr2 old3 next4 Q t11 () h19) ∧
    ((decide (t11 = old3)) = false →
    cells_Arena_CAS.j1 c_cells_Arena_note a1 addr2 old3 next4 Q t11 () h7))))
def cells_Arena_CAS.mk : Mk := (.s .d (.s (.s .d (.c (.s .d .d) .d)) (.s .d (.j [] (.s .d (.c .d .d)) (.s .d (.s .d .d))))))

def cells_Arena_Load.M (c_cells_Arena_outside : Option Addr → Int → Heap → (Bool → Heap → Prop) → Prop) (c_cells_Arena_note : Option Addr → Int → Int → Int → Int → Bool → Heap → (Unit → Heap → Prop) → Prop) (a1 : Option Addr) (addr2 : Int) (h3 : Heap) (Q : Den kparkLot → Heap → Prop) : Prop :=
    c_cells_Arena_outside a1 addr2 h3 fun r4 h5 =>
    ((r4 = true →
    Q (0, 20, ()) h5) ∧
    (r4 = false →
    deref a1 fun a6 =>
    ld (.sl : Kd) h5 (a6.add 2) fun t7 =>
    (0 ≤ addr2 ∧ addr2 < (t7.len : Int)) ∧
    deref t7.a fun a8 =>
    ld ((.int .i64) : Kd) h5 (a8.add ((addr2 : Int).toNat * 1)) fun t9 =>
    c_cells_Arena_note a1 0 addr2 t9 0 true h5 fun r10 h11 =>
    Q (t9, 0, ()) h11))
def cells_Arena_Load.mk : Mk := (.s .d (.s (.s .d (.c (.s .d .d) .d)) (.s .d (.s .d (.s .d .d)))))

def law3_Deny_CAS.M (c_law3_Deny_refuses : Option Addr → Heap → (Bool → Heap → Prop) → Prop) (c_cells_Arena_CAS : Option Addr → Int → Int → Int → Heap → ((Bool × (Int × Unit)) → Heap → Prop) → Prop) (m1 : Option Addr) (addr2 : Int) (from_3 : Int) (to4 : Int) (h5 : Heap) (Q : (Bool × (Int × Unit)) → Heap → Prop) : Prop :=
    c_law3_Deny_refuses m1 h5 fun r6 h7 =>
    ((r6 = true →
    Q (false, 77, ()) h7) ∧
    (r6 = false →
    deref m1 fun a8 =>
    ld (.ptr : Kd) h7 (a8.add 0) fun t9 =>
    c_cells_Arena_CAS t9 addr2 from_3 to4 h7 fun r10 h11 =>
    Q (r10.1, r10.2.1, ()) h11))
def law3_Deny_CAS.mk : Mk := (.s .d (.s (.s .d (.c (.s .d .d) .d)) (.s .d .d)))

def law3_Deny_Load.M (c_law3_Deny_refuses : Option Addr → Heap → (Bool → Heap → Prop) → Prop) (c_cells_Arena_Load : Option Addr → Int → Heap → (Den kparkLot → Heap → Prop) → Prop) (m1 : Option Addr) (addr2 : Int) (h3 : Heap) (Q : Den kparkLot → Heap → Prop) : Prop :=
    c_law3_Deny_refuses m1 h3 fun r4 h5 =>
    ((r4 = true →
    Q (0, 77, ()) h5) ∧
    (r4 = false →
    deref m1 fun a6 =>
    ld (.ptr : Kd) h5 (a6.add 0) fun t7 =>
    c_cells_Arena_Load t7 addr2 h5 fun r8 h9 =>
    Q (r8.1, r8.2.1, ()) h9))
def law3_Deny_Load.mk : Mk := (.s .d (.s (.s .d (.c (.s .d .d) .d)) (.s .d .d)))

def law3_Deny_Reserve.M (c_law3_Deny_refuses : Option Addr → Heap → (Bool → Heap → Prop) → Prop) (c_cells_Arena_Reserve : Option Addr → Int → Heap → (Den kparkLot → Heap → Prop) → Prop) (m1 : Option Addr) (n2 : Int) (h3 : Heap) (Q : Den kparkLot → Heap → Prop) : Prop :=
    c_law3_Deny_refuses m1 h3 fun r4 h5 =>
    ((r4 = true →
    Q (0, 77, ()) h5) ∧
    (r4 = false →
    deref m1 fun a6 =>
    ld (.ptr : Kd) h5 (a6.add 0) fun t7 =>
    c_cells_Arena_Reserve t7 n2 h5 fun r8 h9 =>
    Q (r8.1, r8.2.1, ()) h9))
def law3_Deny_Reserve.mk : Mk := (.s .d (.s (.s .d (.c (.s .d .d) .d)) (.s .d .d)))

def law3_Deny_Store.M (c_law3_Deny_refuses : Option Addr → Heap → (Bool → Heap → Prop) → Prop) (c_cells_Arena_Store : Option Addr → Int → Int → Heap → (Int → Heap → Prop) → Prop) (m1 : Option Addr) (addr2 : Int) (v3 : Int) (h4 : Heap) (Q : Int → Heap → Prop) : Prop :=
    c_law3_Deny_refuses m1 h4 fun r5 h6 =>
    ((r5 = true →
    Q 77 h6) ∧
    (r5 = false →
    deref m1 fun a7 =>
    ld (.ptr : Kd) h6 (a7.add 0) fun t8 =>
    c_cells_Arena_Store t8 addr2 v3 h6 fun r9 h10 =>
    Q r9 h10))
def law3_Deny_Store.mk : Mk := (.s .d (.s (.s .d (.c (.s .d .d) .d)) (.s .d .d)))

def law3_Deny_refuses.M  (m1 : Option Addr) (h2 : Heap) (Q : Bool → Heap → Prop) : Prop :=
    deref m1 fun a3 =>
    ld ((.int .i64) : Kd) h2 (a3.add 2) fun t4 =>
    deref m1 fun a5 =>
    st ((.int .i64) : Kd) h2 (a5.add 2) (w64 (t4 + 1)) fun h6 =>
    deref m1 fun a7 =>
    deref m1 fun a8 =>
    ld ((.int .i64) : Kd) h6 (a7.add 2) fun t9 =>
    ld ((.int .i64) : Kd) h6 (a8.add 1) fun t10 =>
    Q (decide (t10 < t9)) h6
def law3_Deny_refuses.mk : Mk := (.s .d (.s .d (.s (.q [] [] [.p 0, .p 1, .p 2, .p 4, .p 5, .p 6, .w 3 [3, 8, 9], .w 7 [7, 8, 9], .p 8, .p 9]) .d)))

end Go.Mx
