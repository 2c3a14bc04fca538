/-
  What the functions of this seat come to over abstract heaps: printed by a program of this workplace.
-/
import Derived.Test.YtndhbkhhehleaaaMxN
set_option linter.unusedVariables false
namespace Go.Mx
abbrev kI : Kd := .int .i64
abbrev kparkLot : Kd := (.pair kI (.pair kI .nil))
abbrev kparkstate : Kd := (.pair kparkLot (.pair kI (.pair kI (.pair kI (.pair kI (.pair kI kparkLot))))))
abbrev kdequeOp : Kd := (.pair kI (.pair kI (.pair kparkLot (.pair kI (.pair kI (.pair kI (.pair kI (.pair kI (.pair kI (.pair kI (.pair kI (.pair kI (.pair .bool kparkLot)))))))))))))
abbrev kparkOp : Kd := (.pair kparkstate (.pair (.arr 64 kparkLot) (.pair kdequeOp .nil)))
abbrev kref9Op : Kd := (.pair kI (.pair kI (.pair kI (.pair kI (.pair kparkLot (.pair .sl (.pair kI kparkLot)))))))
abbrev klaw9Move : Kd := (.pair kI kparkLot)
abbrev kapiParkRun : Kd := (.pair .sl (.pair .sl (.pair .sl (.pair .sl (.pair kI (.pair kI (.pair kI (.pair .bool (.pair .sl .nil)))))))))
abbrev klaw9Book : Kd := (.pair (.arr 8 kI) (.pair (.arr 8 .bool) klaw9Move))
abbrev kapiAccess : Kd := (.pair kI (.pair kI (.pair kI (.pair kI (.pair kI (.pair .bool .nil))))))
abbrev kcellsArena : Kd := (.pair kparkLot (.pair .sl (.pair .sl (.pair kI (.pair .bool .nil)))))
abbrev kparkgame : Kd := (.pair .ptr (.pair kparkLot (.pair .sl (.pair .sl (.pair .sl (.pair kapiParkRun .nil))))))
abbrev kparkactor : Kd := (.pair kI (.pair kparkOp (.pair kdequeOp (.pair .bool (.pair .bool (.pair .bool .nil))))))
-- @T p_cells_Arena 25
abbrev Tq0 : Type := (Int × (Int × (Int × (Int × (Int × (Int × (Int × (Int × (Int × ((Fin 64 → Den kparkLot) × (Int × (Int × (Int × (Int × (Int × (Int × (Int × (Int × (Int × (Int × (Int × (Int × (Int × (Bool × Den kparkLot))))))))))))))))))))))))
abbrev Tq1 : Type := (Int × (Int × (Int × (Int × (Int × (Int × (Int × (Int × (Int × (Int × (Int × (Int × (Int × (Bool × Den kparkLot))))))))))))))
abbrev Cq0 : Type := Den kdequeOp → Int → Heap → (Den kdequeOp → Heap → Prop) → Prop
abbrev Cq1 : Type := Option Addr → Int → Int → Heap → (Unit → Heap → Prop) → Prop
abbrev Cq2 : Type := Option Addr → Int → Heap → (Unit → Heap → Prop) → Prop
abbrev Cq3 : Type := Option Addr → Int → Int → Int → Int → Bool → Heap → (Unit → Heap → Prop) → Prop
abbrev Cq4 : Type := Int → Int → Heap → (Int → Heap → Prop) → Prop
abbrev Cq5 : Type := Den kdequeOp → Int → Int → Heap → (Den kdequeOp → Heap → Prop) → Prop
abbrev Cq6 : Type := Value → Int → Heap → (Den kparkLot → Heap → Prop) → Prop
abbrev Cq7 : Type := Value → Den kdequeOp → Heap → (Den kdequeOp → Heap → Prop) → Prop
abbrev Cq8 : Type := Den kapiParkRun → Heap → (Int → Heap → Prop) → Prop
abbrev Cq9 : Type := Den kdequeOp → Heap → (Den kparkLot → Heap → Prop) → Prop
abbrev Cq10 : Type := Option Addr → Int → Int → Int → Heap → (Unit → Heap → Prop) → Prop
abbrev Cq11 : Type := Option Addr → Int → Heap → (Int → Heap → Prop) → Prop
abbrev Cq12 : Type := Value → Den kparkOp → Heap → (Den kparkOp → Heap → Prop) → Prop
abbrev Cq13 : Type := Int → Int → Den kparkLot → Int → Heap → (Den kdequeOp → Heap → Prop) → Prop
abbrev Cq14 : Type := Den kparkOp → Heap → (Den kparkLot → Heap → Prop) → Prop
abbrev Cq15 : Type := Option Addr → Heap → (Sl → Heap → Prop) → Prop
abbrev Cq16 : Type := Sl → Int → Int → Int → Heap → (Sl → Heap → Prop) → Prop
abbrev Cq17 : Type := Option Addr → Int → Heap → (Bool → Heap → Prop) → Prop
abbrev Cq18 : Type := Sl → Sl → Heap → (Bool → Heap → Prop) → Prop
abbrev Cq19 : Type := Option Addr → Option Addr → Int → Heap → (Unit → Heap → Prop) → Prop
abbrev Cq20 : Type := Den kdequeOp → Value → Heap → (Den kparkLot → Heap → Prop) → Prop
abbrev Cq21 : Type := Option Addr → Value → Heap → (Den kparkLot → Heap → Prop) → Prop
abbrev Cq22 : Type := Den kparkOp → Value → Heap → (Den kparkOp → Heap → Prop) → Prop
abbrev Cq23 : Type := Option Addr → Option Addr → Heap → (Unit → Heap → Prop) → Prop
abbrev Cq24 : Type := Den kparkOp → Int → Heap → (Den kparkOp → Heap → Prop) → Prop
abbrev Cq25 : Type := Den kapiParkRun → Sl → Heap → (Bool → Heap → Prop) → Prop
abbrev Cq26 : Type := Den kparkLot → Heap → (Den kdequeOp → Heap → Prop) → Prop
abbrev Cq27 : Type := Den kparkLot → Int → Heap → (Bool → Heap → Prop) → Prop
abbrev Cq28 : Type := Value → Int → Int → Heap → (Int → Heap → Prop) → Prop

def law9_ParkDrains.j1 (c_law9_awake : Cq8) (sleepers3 : Int) (Q : Bool → Heap → Prop) (r19 : (Den kapiParkRun × (Int × Unit))) (s21 : Unit) (h22 : Heap) : Prop :=
 c_law9_awake (r19.1.1, (r19.1.2.1, (r19.1.2.2.1, (r19.1.2.2.2.1, (r19.1.2.2.2.2.1, (r19.1.2.2.2.2.2.1, (r19.1.2.2.2.2.2.2.1, (r19.1.2.2.2.2.2.2.2.1, (r19.1.2.2.2.2.2.2.2.2.1, ()))))))))) h22 fun r23 h24 =>
 (((decide (r23 = 0)) = true →
 Q (decide (r19.1.2.2.2.2.1 = sleepers3)) h24) ∧
 ((decide (r23 = 0)) = false →
 Q false h24))
def law9_ParkDrains.j2 (c_law9_awake : Cq8) (sleepers3 : Int) (Q : Bool → Heap → Prop) (r19 : (Den kapiParkRun × (Int × Unit))) (s25 : (Bool × Unit)) (h26 : Heap) : Prop :=
 ((s25.1 = true →
 Q false h26) ∧
 (s25.1 = false →
 law9_ParkDrains.j1 c_law9_awake sleepers3 Q r19 () h26))
def law9_ParkDrains.j3 (c_law9_rounds : Cq16) (c_park_Play : Int → Int → Int → Sl → Sl → Heap → ((Den kapiParkRun × (Int × Unit)) → Heap → Prop) → Prop) (c_law9_sameTakes : Cq18) (c_law9_awake : Cq8) (first1 : Int) (most2 : Int) (sleepers3 : Int) (picks5 : Sl) (Q : Bool → Heap → Prop) (r9 : (Sl × (Int × Unit))) (r13 : (Den kapiParkRun × (Int × Unit))) (s15 : Unit) (h16 : Heap) : Prop :=
 c_law9_rounds picks5 (w64 ((w64 (16 + (w64 (1 + sleepers3)))) * (w64 ((r9.1.len : Int) + 1)))) sleepers3 (w64 ((w64 ((w64 ((w64 (r9.2.1 + 2)) * (w64 ((w64 (2 * (w64 (1 + sleepers3)))) + 12)))) + (w64 (2 * (w64 (1 + sleepers3)))))) + 12)) h16 fun r17 h18 =>
 c_park_Play first1 most2 sleepers3 r9.1 r17 h18 fun r19 h20 =>
 (((decide (r19.2.1 ≠ 0)) = true →
 law9_ParkDrains.j2 c_law9_awake sleepers3 Q r19 (true, ()) h20) ∧
 ((decide (r19.2.1 ≠ 0)) = false →
 (((decide ((r19.1.2.1.len : Int) ≠ 0)) = true →
 law9_ParkDrains.j2 c_law9_awake sleepers3 Q r19 (true, ()) h20) ∧
 ((decide ((r19.1.2.1.len : Int) ≠ 0)) = false →
 c_law9_sameTakes r19.1.1 r13.1.1 h20 fun r27 h28 =>
 (((!r27) = true →
 law9_ParkDrains.j2 c_law9_awake sleepers3 Q r19 (true, ()) h28) ∧
 ((!r27) = false →
 (((decide ((r19.1.2.2.1.len : Int) ≠ sleepers3)) = true →
 law9_ParkDrains.j2 c_law9_awake sleepers3 Q r19 (true, ()) h28) ∧
 ((decide ((r19.1.2.2.1.len : Int) ≠ sleepers3)) = false →
 law9_ParkDrains.j2 c_law9_awake sleepers3 Q r19 ((decide ((r19.1.2.2.2.1.len : Int) ≠ (w64 (1 + sleepers3)))), ()) h28))))))))
def law9_ParkDrains.j4 (c_law9_rounds : Cq16) (c_park_Play : Int → Int → Int → Sl → Sl → Heap → ((Den kapiParkRun × (Int × Unit)) → Heap → Prop) → Prop) (c_law9_sameTakes : Cq18) (c_law9_awake : Cq8) (first1 : Int) (most2 : Int) (sleepers3 : Int) (picks5 : Sl) (Q : Bool → Heap → Prop) (r9 : (Sl × (Int × Unit))) (r13 : (Den kapiParkRun × (Int × Unit))) (s29 : (Bool × Unit)) (h30 : Heap) : Prop :=
 ((s29.1 = true →
 Q false h30) ∧
 (s29.1 = false →
 law9_ParkDrains.j3 c_law9_rounds c_park_Play c_law9_sameTakes c_law9_awake first1 most2 sleepers3 picks5 Q r9 r13 () h30))
def law9_ParkDrains.j5 (c_law9_numbered : Sl → Heap → ((Sl × (Int × Unit)) → Heap → Prop) → Prop) (c_law9_rounds : Cq16) (c_park_Play : Int → Int → Int → Sl → Sl → Heap → ((Den kapiParkRun × (Int × Unit)) → Heap → Prop) → Prop) (c_law9_once : Cq25) (c_law9_sameTakes : Cq18) (c_law9_awake : Cq8) (first1 : Int) (most2 : Int) (sleepers3 : Int) (todos4 : Sl) (picks5 : Sl) (Q : Bool → Heap → Prop) (s7 : Unit) (h8 : Heap) : Prop :=
 c_law9_numbered todos4 h8 fun r9 h10 =>
 (((decide ((1048576 : Int) < (w64 ((w64 ((picks5.len : Int) + (w64 ((w64 (16 + (w64 (1 + sleepers3)))) * (w64 ((r9.1.len : Int) + 1)))))) + (w64 ((w64 ((w64 ((w64 ((w64 (r9.2.1 + 2)) * (w64 ((w64 (2 * (w64 (1 + sleepers3)))) + 12)))) + (w64 (2 * (w64 (1 + sleepers3)))))) + 12)) * sleepers3)))))) = true →
 Q true h10) ∧
 ((decide ((1048576 : Int) < (w64 ((w64 ((picks5.len : Int) + (w64 ((w64 (16 + (w64 (1 + sleepers3)))) * (w64 ((r9.1.len : Int) + 1)))))) + (w64 ((w64 ((w64 ((w64 ((w64 (r9.2.1 + 2)) * (w64 ((w64 (2 * (w64 (1 + sleepers3)))) + 12)))) + (w64 (2 * (w64 (1 + sleepers3)))))) + 12)) * sleepers3)))))) = false →
 c_law9_rounds picks5 (w64 ((w64 (16 + (w64 (1 + sleepers3)))) * (w64 ((r9.1.len : Int) + 1)))) sleepers3 (w64 ((w64 (r9.2.1 + 2)) * (w64 ((w64 (2 * (w64 (1 + sleepers3)))) + 12)))) h10 fun r11 h12 =>
 c_park_Play first1 most2 sleepers3 r9.1 r11 h12 fun r13 h14 =>
 (((decide (r13.2.1 ≠ 0)) = true →
 law9_ParkDrains.j4 c_law9_rounds c_park_Play c_law9_sameTakes c_law9_awake first1 most2 sleepers3 picks5 Q r9 r13 (true, ()) h14) ∧
 ((decide (r13.2.1 ≠ 0)) = false →
 (((!r13.1.2.2.2.2.2.2.2.1) = true →
 law9_ParkDrains.j4 c_law9_rounds c_park_Play c_law9_sameTakes c_law9_awake first1 most2 sleepers3 picks5 Q r9 r13 (true, ()) h14) ∧
 ((!r13.1.2.2.2.2.2.2.2.1) = false →
 (((decide (r13.1.2.2.2.2.2.1 ≠ 0)) = true →
 law9_ParkDrains.j4 c_law9_rounds c_park_Play c_law9_sameTakes c_law9_awake first1 most2 sleepers3 picks5 Q r9 r13 (true, ()) h14) ∧
 ((decide (r13.1.2.2.2.2.2.1 ≠ 0)) = false →
 (((decide ((r13.1.2.1.len : Int) ≠ 0)) = true →
 law9_ParkDrains.j4 c_law9_rounds c_park_Play c_law9_sameTakes c_law9_awake first1 most2 sleepers3 picks5 Q r9 r13 (true, ()) h14) ∧
 ((decide ((r13.1.2.1.len : Int) ≠ 0)) = false →
 c_law9_once (r13.1.1, (r13.1.2.1, (r13.1.2.2.1, (r13.1.2.2.2.1, (r13.1.2.2.2.2.1, (r13.1.2.2.2.2.2.1, (r13.1.2.2.2.2.2.2.1, (r13.1.2.2.2.2.2.2.2.1, (r13.1.2.2.2.2.2.2.2.2.1, ()))))))))) r9.1 h14 fun r31 h32 =>
 (((!r31) = true →
 law9_ParkDrains.j4 c_law9_rounds c_park_Play c_law9_sameTakes c_law9_awake first1 most2 sleepers3 picks5 Q r9 r13 (true, ()) h32) ∧
 ((!r31) = false →
 (((decide (r9.2.1 ≤ most2)) = true →
 law9_ParkDrains.j4 c_law9_rounds c_park_Play c_law9_sameTakes c_law9_awake first1 most2 sleepers3 picks5 Q r9 r13 ((decide ((r13.1.1.len : Int) ≠ r9.2.1)), ()) h32) ∧
 ((decide (r9.2.1 ≤ most2)) = false →
 law9_ParkDrains.j4 c_law9_rounds c_park_Play c_law9_sameTakes c_law9_awake first1 most2 sleepers3 picks5 Q r9 r13 (false, ()) h32))))))))))))))
def law9_ParkDrains.j6 (c_law9_numbered : Sl → Heap → ((Sl × (Int × Unit)) → Heap → Prop) → Prop) (c_law9_rounds : Cq16) (c_park_Play : Int → Int → Int → Sl → Sl → Heap → ((Den kapiParkRun × (Int × Unit)) → Heap → Prop) → Prop) (c_law9_once : Cq25) (c_law9_sameTakes : Cq18) (c_law9_awake : Cq8) (first1 : Int) (most2 : Int) (sleepers3 : Int) (todos4 : Sl) (picks5 : Sl) (Q : Bool → Heap → Prop) (s33 : (Bool × Unit)) (h34 : Heap) : Prop :=
 ((s33.1 = true →
 Q true h34) ∧
 (s33.1 = false →
 law9_ParkDrains.j5 c_law9_numbered c_law9_rounds c_park_Play c_law9_once c_law9_sameTakes c_law9_awake first1 most2 sleepers3 todos4 picks5 Q () h34))
def law9_ParkDrains.M (c_law9_fair : Int → Int → Int → Sl → Sl → Heap → (Bool → Heap → Prop) → Prop) (c_law9_numbered : Sl → Heap → ((Sl × (Int × Unit)) → Heap → Prop) → Prop) (c_law9_rounds : Cq16) (c_park_Play : Int → Int → Int → Sl → Sl → Heap → ((Den kapiParkRun × (Int × Unit)) → Heap → Prop) → Prop) (c_law9_once : Cq25) (c_law9_sameTakes : Cq18) (c_law9_awake : Cq8) (first1 : Int) (most2 : Int) (sleepers3 : Int) (todos4 : Sl) (picks5 : Sl) (h6 : Heap) (Q : Bool → Heap → Prop) : Prop :=
 c_law9_fair first1 most2 sleepers3 todos4 picks5 h6 fun r35 h36 =>
 (((!r35) = true →
 law9_ParkDrains.j6 c_law9_numbered c_law9_rounds c_park_Play c_law9_once c_law9_sameTakes c_law9_awake first1 most2 sleepers3 todos4 picks5 Q (true, ()) h36) ∧
 ((!r35) = false →
 law9_ParkDrains.j6 c_law9_numbered c_law9_rounds c_park_Play c_law9_once c_law9_sameTakes c_law9_awake first1 most2 sleepers3 todos4 picks5 Q ((decide (sleepers3 = 0)), ()) h36))
def law9_ParkDrains.mk : Mk := (.s .d (.j [] (.j [.slot 30 .bool] .d (.c (.s .d .d) .d)) (.s .d (.s .d (.s .d (.s .d (.s (.s .d (.c (.s .d .d) .d)) (.s (.r [13]) (.j [] (.j [.slot 111 .bool] .d (.c (.s .d .d) .d)) (.s (.r [17]) (.j [] (.j [.slot 158 .bool] .d (.c (.s .d .d) .d)) (.s .d .d))))))))))))

def cells_Arena_Log.M  (a1 : Option Addr) (h2 : Heap) (Q : Sl → Heap → Prop) : Prop :=
 (((Option.isNone a1) = true →
 Q ⟨none, 0, 0⟩ h2) ∧
 ((Option.isNone a1) = false →
 deref a1 fun a3 =>
 ld (.sl : Kd) h2 (a3.add 3) fun t4 =>
 makeM kapiAccess 48 h2 (t4.len : Int) (t4.len : Int) fun s5 h6 =>
 deref a1 fun a7 =>
 ld (.sl : Kd) h6 (a7.add 3) fun t8 =>
 copyM 6 h6 s5 t8 fun n9 h10 =>
 Q s5 h10))
def cells_Arena_Log.mk : Mk := (.s .d (.s (.s .d (.c (.s .d .d) .d)) (.s .d (.s .d (.s .d .d)))))

def park_Answer.M  (o1 : Den kparkOp) (h2 : Heap) (Q : Den kparkLot → Heap → Prop) : Prop :=
 (((decide (o1.1.2.2.1 = 0)) = true →
 Q (1, 0, ()) h2) ∧
 ((decide (o1.1.2.2.1 = 0)) = false →
 (((decide (o1.1.2.2.2.1 ≠ 0)) = true →
 Q (0, 0, ()) h2) ∧
 ((decide (o1.1.2.2.2.1 ≠ 0)) = false →
 Q (o1.1.2.2.2.2.2.2.1, o1.1.2.2.2.2.2.2.2.1, ()) h2))))
def park_Answer.mk : Mk := (.s (.r [0]) (.s (.b (.s .d (.c (.s .d .d) (.s .d (.c (.s .d .d) .d))))) (.s (.q [] [] [.p 0, .p 1, .p 3, .p 4, .w 2 [2, 6, 7], .p 6, .w 5 [5, 7], .p 7]) .d)))

def park_Step.k1 (Q : Den kparkOp → Heap → Prop) (s27 : (Option Addr × (Tq0 × Unit))) (h28 : Heap) : Prop :=
 deref s27.1 fun a29 =>
 ld kparkOp h28 a29 fun t30 =>
 Q (((t30.1.1.1, (t30.1.1.2.1, ())), (t30.1.2.1, (t30.1.2.2.1, (t30.1.2.2.2.1, (t30.1.2.2.2.2.1, (t30.1.2.2.2.2.2.1, (t30.1.2.2.2.2.2.2.1, (t30.1.2.2.2.2.2.2.2.1, ())))))))), (t30.2.1, ((t30.2.2.1.1, (t30.2.2.1.2.1, ((t30.2.2.1.2.2.1.1, (t30.2.2.1.2.2.1.2.1, ())), (t30.2.2.1.2.2.2.1, (t30.2.2.1.2.2.2.2.1, (t30.2.2.1.2.2.2.2.2.1, (t30.2.2.1.2.2.2.2.2.2.1, (t30.2.2.1.2.2.2.2.2.2.2.1, (t30.2.2.1.2.2.2.2.2.2.2.2.1, (t30.2.2.1.2.2.2.2.2.2.2.2.2.1, (t30.2.2.1.2.2.2.2.2.2.2.2.2.2.1, (t30.2.2.1.2.2.2.2.2.2.2.2.2.2.2.1, (t30.2.2.1.2.2.2.2.2.2.2.2.2.2.2.2.1, (t30.2.2.1.2.2.2.2.2.2.2.2.2.2.2.2.2.1, (t30.2.2.1.2.2.2.2.2.2.2.2.2.2.2.2.2.2.1, ()))))))))))))))), ()))) h28
def park_Step.k2 (c_park_state_over : Cq1) (c_park_Op_looked : Cq22) (c_park_state_access : Cq21) (c_park_Op_rested : Cq24) (c_park_state_woken : Cq2) (c_park_state_finished : Cq2) (Q : Den kparkOp → Heap → Prop) (s6 : (Value × (Option Addr × (Tq0 × Unit)))) (h7 : Heap) : Prop :=
 isI s6.1 ∧
 (((isNilI s6.1) = true →
 deref s6.2.1 fun a8 =>
 c_park_state_over (some (a8.add 0)) 1 0 h7 fun r9 h10 =>
 deref s6.2.1 fun a11 =>
 ld kparkOp h10 a11 fun t12 =>
 Q (((t12.1.1.1, (t12.1.1.2.1, ())), (t12.1.2.1, (t12.1.2.2.1, (t12.1.2.2.2.1, (t12.1.2.2.2.2.1, (t12.1.2.2.2.2.2.1, (t12.1.2.2.2.2.2.2.1, (t12.1.2.2.2.2.2.2.2.1, ())))))))), (t12.2.1, ((t12.2.2.1.1, (t12.2.2.1.2.1, ((t12.2.2.1.2.2.1.1, (t12.2.2.1.2.2.1.2.1, ())), (t12.2.2.1.2.2.2.1, (t12.2.2.1.2.2.2.2.1, (t12.2.2.1.2.2.2.2.2.1, (t12.2.2.1.2.2.2.2.2.2.1, (t12.2.2.1.2.2.2.2.2.2.2.1, (t12.2.2.1.2.2.2.2.2.2.2.2.1, (t12.2.2.1.2.2.2.2.2.2.2.2.2.1, (t12.2.2.1.2.2.2.2.2.2.2.2.2.2.1, (t12.2.2.1.2.2.2.2.2.2.2.2.2.2.2.1, (t12.2.2.1.2.2.2.2.2.2.2.2.2.2.2.2.1, (t12.2.2.1.2.2.2.2.2.2.2.2.2.2.2.2.2.1, (t12.2.2.1.2.2.2.2.2.2.2.2.2.2.2.2.2.2.1, ()))))))))))))))), ()))) h10) ∧
 ((isNilI s6.1) = false →
 deref s6.2.1 fun a13 =>
 ld kI h7 ((a13.add 0).add 4) fun t14 =>
 (((decide (t14 = 4)) = true →
 deref s6.2.1 fun a15 =>
 ld kparkOp h7 a15 fun t16 =>
 c_park_Op_looked t16 s6.1 h7 fun r17 h18 =>
 Q (((r17.1.1.1, (r17.1.1.2.1, ())), (r17.1.2.1, (r17.1.2.2.1, (r17.1.2.2.2.1, (r17.1.2.2.2.2.1, (r17.1.2.2.2.2.2.1, (r17.1.2.2.2.2.2.2.1, (r17.1.2.2.2.2.2.2.2.1, ())))))))), (r17.2.1, ((r17.2.2.1.1, (r17.2.2.1.2.1, ((r17.2.2.1.2.2.1.1, (r17.2.2.1.2.2.1.2.1, ())), (r17.2.2.1.2.2.2.1, (r17.2.2.1.2.2.2.2.1, (r17.2.2.1.2.2.2.2.2.1, (r17.2.2.1.2.2.2.2.2.2.1, (r17.2.2.1.2.2.2.2.2.2.2.1, (r17.2.2.1.2.2.2.2.2.2.2.2.1, (r17.2.2.1.2.2.2.2.2.2.2.2.2.1, (r17.2.2.1.2.2.2.2.2.2.2.2.2.2.1, (r17.2.2.1.2.2.2.2.2.2.2.2.2.2.2.1, (r17.2.2.1.2.2.2.2.2.2.2.2.2.2.2.2.1, (r17.2.2.1.2.2.2.2.2.2.2.2.2.2.2.2.2.1, (r17.2.2.1.2.2.2.2.2.2.2.2.2.2.2.2.2.2.1, ()))))))))))))))), ()))) h18) ∧
 ((decide (t14 = 4)) = false →
 deref s6.2.1 fun a19 =>
 c_park_state_access (some (a19.add 0)) s6.1 h7 fun r20 h21 =>
 (((decide (r20.2.1 ≠ 0)) = true →
 deref s6.2.1 fun a22 =>
 c_park_state_over (some (a22.add 0)) 1 0 h21 fun r23 h24 =>
 deref s6.2.1 fun a25 =>
 ld kparkOp h24 a25 fun t26 =>
 Q (((t26.1.1.1, (t26.1.1.2.1, ())), (t26.1.2.1, (t26.1.2.2.1, (t26.1.2.2.2.1, (t26.1.2.2.2.2.1, (t26.1.2.2.2.2.2.1, (t26.1.2.2.2.2.2.2.1, (t26.1.2.2.2.2.2.2.2.1, ())))))))), (t26.2.1, ((t26.2.2.1.1, (t26.2.2.1.2.1, ((t26.2.2.1.2.2.1.1, (t26.2.2.1.2.2.1.2.1, ())), (t26.2.2.1.2.2.2.1, (t26.2.2.1.2.2.2.2.1, (t26.2.2.1.2.2.2.2.2.1, (t26.2.2.1.2.2.2.2.2.2.1, (t26.2.2.1.2.2.2.2.2.2.2.1, (t26.2.2.1.2.2.2.2.2.2.2.2.1, (t26.2.2.1.2.2.2.2.2.2.2.2.2.1, (t26.2.2.1.2.2.2.2.2.2.2.2.2.2.1, (t26.2.2.1.2.2.2.2.2.2.2.2.2.2.2.1, (t26.2.2.1.2.2.2.2.2.2.2.2.2.2.2.2.1, (t26.2.2.1.2.2.2.2.2.2.2.2.2.2.2.2.2.1, (t26.2.2.1.2.2.2.2.2.2.2.2.2.2.2.2.2.2.1, ()))))))))))))))), ()))) h24) ∧
 ((decide (r20.2.1 ≠ 0)) = false →
 deref s6.2.1 fun a31 =>
 ld kI h21 ((a31.add 0).add 3) fun t32 =>
 (((decide (t32 = 1)) = true →
 deref s6.2.1 fun a33 =>
 ld kparkOp h21 a33 fun t34 =>
 c_park_Op_rested t34 r20.1 h21 fun r35 h36 =>
 Q (((r35.1.1.1, (r35.1.1.2.1, ())), (r35.1.2.1, (r35.1.2.2.1, (r35.1.2.2.2.1, (r35.1.2.2.2.2.1, (r35.1.2.2.2.2.2.1, (r35.1.2.2.2.2.2.2.1, (r35.1.2.2.2.2.2.2.2.1, ())))))))), (r35.2.1, ((r35.2.2.1.1, (r35.2.2.1.2.1, ((r35.2.2.1.2.2.1.1, (r35.2.2.1.2.2.1.2.1, ())), (r35.2.2.1.2.2.2.1, (r35.2.2.1.2.2.2.2.1, (r35.2.2.1.2.2.2.2.2.1, (r35.2.2.1.2.2.2.2.2.2.1, (r35.2.2.1.2.2.2.2.2.2.2.1, (r35.2.2.1.2.2.2.2.2.2.2.2.1, (r35.2.2.1.2.2.2.2.2.2.2.2.2.1, (r35.2.2.1.2.2.2.2.2.2.2.2.2.2.1, (r35.2.2.1.2.2.2.2.2.2.2.2.2.2.2.1, (r35.2.2.1.2.2.2.2.2.2.2.2.2.2.2.2.1, (r35.2.2.1.2.2.2.2.2.2.2.2.2.2.2.2.2.1, (r35.2.2.1.2.2.2.2.2.2.2.2.2.2.2.2.2.2.1, ()))))))))))))))), ()))) h36) ∧
 ((decide (t32 = 1)) = false →
 (((decide (t32 = 2)) = true →
 deref s6.2.1 fun a37 =>
 c_park_state_woken (some (a37.add 0)) r20.1 h21 fun r38 h39 =>
 park_Step.k1 Q (s6.2.1, (s6.2.2.1.1, (s6.2.2.1.2.1, (s6.2.2.1.2.2.1, (s6.2.2.1.2.2.2.1, (s6.2.2.1.2.2.2.2.1, (s6.2.2.1.2.2.2.2.2.1, (s6.2.2.1.2.2.2.2.2.2.1, (s6.2.2.1.2.2.2.2.2.2.2.1, (s6.2.2.1.2.2.2.2.2.2.2.2.1, (s6.2.2.1.2.2.2.2.2.2.2.2.2.1, (s6.2.2.1.2.2.2.2.2.2.2.2.2.2.1, (s6.2.2.1.2.2.2.2.2.2.2.2.2.2.2.1, (s6.2.2.1.2.2.2.2.2.2.2.2.2.2.2.2.1, (s6.2.2.1.2.2.2.2.2.2.2.2.2.2.2.2.2.1, (s6.2.2.1.2.2.2.2.2.2.2.2.2.2.2.2.2.2.1, (s6.2.2.1.2.2.2.2.2.2.2.2.2.2.2.2.2.2.2.1, (s6.2.2.1.2.2.2.2.2.2.2.2.2.2.2.2.2.2.2.2.1, (s6.2.2.1.2.2.2.2.2.2.2.2.2.2.2.2.2.2.2.2.2.1, (s6.2.2.1.2.2.2.2.2.2.2.2.2.2.2.2.2.2.2.2.2.2.1, (s6.2.2.1.2.2.2.2.2.2.2.2.2.2.2.2.2.2.2.2.2.2.2.1, (s6.2.2.1.2.2.2.2.2.2.2.2.2.2.2.2.2.2.2.2.2.2.2.2.1, (s6.2.2.1.2.2.2.2.2.2.2.2.2.2.2.2.2.2.2.2.2.2.2.2.2.1, (s6.2.2.1.2.2.2.2.2.2.2.2.2.2.2.2.2.2.2.2.2.2.2.2.2.2.1, (s6.2.2.1.2.2.2.2.2.2.2.2.2.2.2.2.2.2.2.2.2.2.2.2.2.2.2.1, (s6.2.2.1.2.2.2.2.2.2.2.2.2.2.2.2.2.2.2.2.2.2.2.2.2.2.2.2.1, (s6.2.2.1.2.2.2.2.2.2.2.2.2.2.2.2.2.2.2.2.2.2.2.2.2.2.2.2.2.1, ())))))))))))))))))))))))))), ()) h39) ∧
 ((decide (t32 = 2)) = false →
 (((decide (t32 = 3)) = true →
 deref s6.2.1 fun a40 =>
 c_park_state_over (some (a40.add 0)) 16 0 h21 fun r41 h42 =>
 (((decide (r20.1 = 1)) = true →
 deref s6.2.1 fun a43 =>
 st kI h42 ((a43.add 0).add 7) 17 fun h44 =>
 park_Step.k1 Q (s6.2.1, (s6.2.2.1.1, (s6.2.2.1.2.1, (s6.2.2.1.2.2.1, (s6.2.2.1.2.2.2.1, (s6.2.2.1.2.2.2.2.1, (s6.2.2.1.2.2.2.2.2.1, (s6.2.2.1.2.2.2.2.2.2.1, (s6.2.2.1.2.2.2.2.2.2.2.1, (s6.2.2.1.2.2.2.2.2.2.2.2.1, (s6.2.2.1.2.2.2.2.2.2.2.2.2.1, (s6.2.2.1.2.2.2.2.2.2.2.2.2.2.1, (s6.2.2.1.2.2.2.2.2.2.2.2.2.2.2.1, (s6.2.2.1.2.2.2.2.2.2.2.2.2.2.2.2.1, (s6.2.2.1.2.2.2.2.2.2.2.2.2.2.2.2.2.1, (s6.2.2.1.2.2.2.2.2.2.2.2.2.2.2.2.2.2.1, (s6.2.2.1.2.2.2.2.2.2.2.2.2.2.2.2.2.2.2.1, (s6.2.2.1.2.2.2.2.2.2.2.2.2.2.2.2.2.2.2.2.1, (s6.2.2.1.2.2.2.2.2.2.2.2.2.2.2.2.2.2.2.2.2.1, (s6.2.2.1.2.2.2.2.2.2.2.2.2.2.2.2.2.2.2.2.2.2.1, (s6.2.2.1.2.2.2.2.2.2.2.2.2.2.2.2.2.2.2.2.2.2.2.1, (s6.2.2.1.2.2.2.2.2.2.2.2.2.2.2.2.2.2.2.2.2.2.2.2.1, (s6.2.2.1.2.2.2.2.2.2.2.2.2.2.2.2.2.2.2.2.2.2.2.2.2.1, (s6.2.2.1.2.2.2.2.2.2.2.2.2.2.2.2.2.2.2.2.2.2.2.2.2.2.1, (s6.2.2.1.2.2.2.2.2.2.2.2.2.2.2.2.2.2.2.2.2.2.2.2.2.2.2.1, (s6.2.2.1.2.2.2.2.2.2.2.2.2.2.2.2.2.2.2.2.2.2.2.2.2.2.2.2.1, (s6.2.2.1.2.2.2.2.2.2.2.2.2.2.2.2.2.2.2.2.2.2.2.2.2.2.2.2.2.1, ())))))))))))))))))))))))))), ()) h44) ∧
 ((decide (r20.1 = 1)) = false →
 park_Step.k1 Q (s6.2.1, (s6.2.2.1.1, (s6.2.2.1.2.1, (s6.2.2.1.2.2.1, (s6.2.2.1.2.2.2.1, (s6.2.2.1.2.2.2.2.1, (s6.2.2.1.2.2.2.2.2.1, (s6.2.2.1.2.2.2.2.2.2.1, (s6.2.2.1.2.2.2.2.2.2.2.1, (s6.2.2.1.2.2.2.2.2.2.2.2.1, (s6.2.2.1.2.2.2.2.2.2.2.2.2.1, (s6.2.2.1.2.2.2.2.2.2.2.2.2.2.1, (s6.2.2.1.2.2.2.2.2.2.2.2.2.2.2.1, (s6.2.2.1.2.2.2.2.2.2.2.2.2.2.2.2.1, (s6.2.2.1.2.2.2.2.2.2.2.2.2.2.2.2.2.1, (s6.2.2.1.2.2.2.2.2.2.2.2.2.2.2.2.2.2.1, (s6.2.2.1.2.2.2.2.2.2.2.2.2.2.2.2.2.2.2.1, (s6.2.2.1.2.2.2.2.2.2.2.2.2.2.2.2.2.2.2.2.1, (s6.2.2.1.2.2.2.2.2.2.2.2.2.2.2.2.2.2.2.2.2.1, (s6.2.2.1.2.2.2.2.2.2.2.2.2.2.2.2.2.2.2.2.2.2.1, (s6.2.2.1.2.2.2.2.2.2.2.2.2.2.2.2.2.2.2.2.2.2.2.1, (s6.2.2.1.2.2.2.2.2.2.2.2.2.2.2.2.2.2.2.2.2.2.2.2.1, (s6.2.2.1.2.2.2.2.2.2.2.2.2.2.2.2.2.2.2.2.2.2.2.2.2.1, (s6.2.2.1.2.2.2.2.2.2.2.2.2.2.2.2.2.2.2.2.2.2.2.2.2.2.1, (s6.2.2.1.2.2.2.2.2.2.2.2.2.2.2.2.2.2.2.2.2.2.2.2.2.2.2.1, (s6.2.2.1.2.2.2.2.2.2.2.2.2.2.2.2.2.2.2.2.2.2.2.2.2.2.2.2.1, (s6.2.2.1.2.2.2.2.2.2.2.2.2.2.2.2.2.2.2.2.2.2.2.2.2.2.2.2.2.1, ())))))))))))))))))))))))))), ()) h42))) ∧
 ((decide (t32 = 3)) = false →
 deref s6.2.1 fun a45 =>
 c_park_state_finished (some (a45.add 0)) r20.1 h21 fun r46 h47 =>
 park_Step.k1 Q (s6.2.1, (s6.2.2.1.1, (s6.2.2.1.2.1, (s6.2.2.1.2.2.1, (s6.2.2.1.2.2.2.1, (s6.2.2.1.2.2.2.2.1, (s6.2.2.1.2.2.2.2.2.1, (s6.2.2.1.2.2.2.2.2.2.1, (s6.2.2.1.2.2.2.2.2.2.2.1, (s6.2.2.1.2.2.2.2.2.2.2.2.1, (s6.2.2.1.2.2.2.2.2.2.2.2.2.1, (s6.2.2.1.2.2.2.2.2.2.2.2.2.2.1, (s6.2.2.1.2.2.2.2.2.2.2.2.2.2.2.1, (s6.2.2.1.2.2.2.2.2.2.2.2.2.2.2.2.1, (s6.2.2.1.2.2.2.2.2.2.2.2.2.2.2.2.2.1, (s6.2.2.1.2.2.2.2.2.2.2.2.2.2.2.2.2.2.1, (s6.2.2.1.2.2.2.2.2.2.2.2.2.2.2.2.2.2.2.1, (s6.2.2.1.2.2.2.2.2.2.2.2.2.2.2.2.2.2.2.2.1, (s6.2.2.1.2.2.2.2.2.2.2.2.2.2.2.2.2.2.2.2.2.1, (s6.2.2.1.2.2.2.2.2.2.2.2.2.2.2.2.2.2.2.2.2.2.1, (s6.2.2.1.2.2.2.2.2.2.2.2.2.2.2.2.2.2.2.2.2.2.2.1, (s6.2.2.1.2.2.2.2.2.2.2.2.2.2.2.2.2.2.2.2.2.2.2.2.1, (s6.2.2.1.2.2.2.2.2.2.2.2.2.2.2.2.2.2.2.2.2.2.2.2.2.1, (s6.2.2.1.2.2.2.2.2.2.2.2.2.2.2.2.2.2.2.2.2.2.2.2.2.2.1, (s6.2.2.1.2.2.2.2.2.2.2.2.2.2.2.2.2.2.2.2.2.2.2.2.2.2.2.1, (s6.2.2.1.2.2.2.2.2.2.2.2.2.2.2.2.2.2.2.2.2.2.2.2.2.2.2.2.1, (s6.2.2.1.2.2.2.2.2.2.2.2.2.2.2.2.2.2.2.2.2.2.2.2.2.2.2.2.2.1, ())))))))))))))))))))))))))), ()) h47))))))))))))
def park_Step.j3 (c_park_state_over : Cq1) (c_park_Op_looked : Cq22) (c_park_state_access : Cq21) (c_park_Op_rested : Cq24) (c_park_state_woken : Cq2) (c_park_state_finished : Cq2) (m1 : Value) (Q : Den kparkOp → Heap → Prop) (p4 : Addr) (s48 : (Bool × Unit)) (h49 : Heap) : Prop :=
 ((s48.1 = true →
 ld kparkOp h49 p4 fun t50 =>
 Q (((t50.1.1.1, (t50.1.1.2.1, ())), (t50.1.2.1, (t50.1.2.2.1, (t50.1.2.2.2.1, (t50.1.2.2.2.2.1, (t50.1.2.2.2.2.2.1, (t50.1.2.2.2.2.2.2.1, (t50.1.2.2.2.2.2.2.2.1, ())))))))), (t50.2.1, ((t50.2.2.1.1, (t50.2.2.1.2.1, ((t50.2.2.1.2.2.1.1, (t50.2.2.1.2.2.1.2.1, ())), (t50.2.2.1.2.2.2.1, (t50.2.2.1.2.2.2.2.1, (t50.2.2.1.2.2.2.2.2.1, (t50.2.2.1.2.2.2.2.2.2.1, (t50.2.2.1.2.2.2.2.2.2.2.1, (t50.2.2.1.2.2.2.2.2.2.2.2.1, (t50.2.2.1.2.2.2.2.2.2.2.2.2.1, (t50.2.2.1.2.2.2.2.2.2.2.2.2.2.1, (t50.2.2.1.2.2.2.2.2.2.2.2.2.2.2.1, (t50.2.2.1.2.2.2.2.2.2.2.2.2.2.2.2.1, (t50.2.2.1.2.2.2.2.2.2.2.2.2.2.2.2.2.1, (t50.2.2.1.2.2.2.2.2.2.2.2.2.2.2.2.2.2.1, ()))))))))))))))), ()))) h49) ∧
 (s48.1 = false →
 park_Step.k2 c_park_state_over c_park_Op_looked c_park_state_access c_park_Op_rested c_park_state_woken c_park_state_finished Q (m1, (some p4), (0, (0, (0, (0, (0, (0, (0, (0, (0, ((fun _ => (0, (0, ()))), (0, (0, (0, (0, (0, (0, (0, (0, (0, (0, (0, (0, (0, (false, (0, (0, ())))))))))))))))))))))))))), ()) h49))
def park_Step.M (c_park_state_over : Cq1) (c_park_Op_looked : Cq22) (c_park_state_access : Cq21) (c_park_Op_rested : Cq24) (c_park_state_woken : Cq2) (c_park_state_finished : Cq2) (m1 : Value) (o2 : Den kparkOp) (h3 : Heap) (Q : Den kparkOp → Heap → Prop) : Prop :=
 new h3 (kparkOp.cells o2) fun p4 h5 =>
 ld kI h5 ((p4.add 0).add 3) fun t51 =>
 (((decide (t51 = 0)) = true →
 park_Step.j3 c_park_state_over c_park_Op_looked c_park_state_access c_park_Op_rested c_park_state_woken c_park_state_finished m1 Q p4 (true, ()) h5) ∧
 ((decide (t51 = 0)) = false →
 ld kI h5 ((p4.add 0).add 4) fun t52 =>
 park_Step.j3 c_park_state_over c_park_Op_looked c_park_state_access c_park_Op_rested c_park_state_woken c_park_state_finished m1 Q p4 ((decide (t52 = 0)), ()) h5))
def park_Step.mk : Mk := (.s (.r [1]) (.k [.slot 0 .iface, .slot 3 .ptr, .box 4 (.pair kI (.pair kI (.pair kI (.pair kI (.pair kI (.pair kI (.pair kI (.pair kI (.pair kI (.pair (.arr 64 kparkLot) (.pair kI (.pair kI (.pair kI (.pair kI (.pair kI (.pair kI (.pair kI (.pair kI (.pair kI (.pair kI (.pair kI (.pair kI (.pair kI (.pair .bool kparkLot))))))))))))))))))))))))] [(4, 4, 0)] (.j [.slot 16 .bool] .d (.c (.s .d .d) .d)) (.s (.s .d (.c (.s .d (.s .d .d)) .d)) (.s (.s .d (.c (.s .d .d) .d)) (.s .d (.s (.s .d (.c (.s .d (.s .d .d)) .d)) (.k [.slot 3 .ptr, .box 4 (.pair kI (.pair kI (.pair kI (.pair kI (.pair kI (.pair kI (.pair kI (.pair kI (.pair kI (.pair (.arr 64 kparkLot) (.pair kI (.pair kI (.pair kI (.pair kI (.pair kI (.pair kI (.pair kI (.pair kI (.pair kI (.pair kI (.pair kI (.pair kI (.pair kI (.pair .bool kparkLot))))))))))))))))))))))))] [(4, 4, 0)] (.s .d (.b (.s .d (.c (.s .d .d) (.s .d (.c .d (.s .d (.c (.s .d (.s .d (.c .d .d))) .d)))))))) (.s .d .d))))))))

def cells_Arena_Watch.M  (a1 : Option Addr) (on2 : Bool) (h3 : Heap) (Q : Unit → Heap → Prop) : Prop :=
 (((Option.isSome a1) = true →
 deref a1 fun a4 =>
 st (.bool : Kd) h3 (a4.add 5) on2 fun h5 =>
 Q () h5) ∧
 ((Option.isSome a1) = false →
 Q () h3))
def cells_Arena_Watch.mk : Mk := (.s .d (.c .d .d))

def cells_Arena_Store.M (c_cells_Arena_outside : Cq17) (c_cells_Arena_note : Cq3) (a1 : Option Addr) (addr2 : Int) (v3 : Int) (h4 : Heap) (Q : Int → Heap → Prop) : Prop :=
 c_cells_Arena_outside a1 addr2 h4 fun r5 h6 =>
 ((r5 = true →
 Q 20 h6) ∧
 (r5 = false →
 deref a1 fun a7 =>
 ld (.sl : Kd) h6 (a7.add 2) fun t8 =>
 (0 ≤ addr2 ∧ addr2 < (t8.len : Int)) ∧
 deref t8.a fun a9 =>
 st kI h6 (a9.add ((addr2 : Int).toNat * 1)) v3 fun h10 =>
 c_cells_Arena_note a1 1 addr2 v3 0 true h10 fun r11 h12 =>
 Q 0 h12))
def cells_Arena_Store.mk : Mk := (.s .d (.s (.s .d (.c (.s .d .d) .d)) (.s .d (.s .d (.s .d .d)))))

def park_Parked.M  (o1 : Den kparkOp) (h2 : Heap) (Q : Bool → Heap → Prop) : Prop :=
 (((decide (o1.1.2.2.1 = 1)) = true →
 Q (decide (o1.1.2.2.2.1 = 5)) h2) ∧
 ((decide (o1.1.2.2.1 = 1)) = false →
 Q false h2))
def park_Parked.mk : Mk := (.s (.r [0]) (.s .d .d))

def law9_fair.j1 (go11 : (Int × Unit) → Heap → Prop) (s9 : (Int × Unit)) (s12 : Unit) (h13 : Heap) : Prop :=
 go11 ((w64 (s9.1 + 1)), ()) h13
def law9_fair.j2 (Q : Bool → Heap → Prop) (go11 : (Int × Unit) → Heap → Prop) (s9 : (Int × Unit)) (s16 : (Bool × Unit)) (h17 : Heap) : Prop :=
 ((s16.1 = true →
 Q false h17) ∧
 (s16.1 = false →
 law9_fair.j1 go11 s9 () h17))
def law9_fair.l3 (todos4 : Sl) (Q : Bool → Heap → Prop) (go11 : (Int × Unit) → Heap → Prop) (s9 : (Int × Unit)) (h10 : Heap) : Prop :=
 (((decide (s9.1 < (todos4.len : Int))) = true →
 (0 ≤ s9.1 ∧ s9.1 < (todos4.len : Int)) ∧
 deref todos4.a fun a14 =>
 ld kI h10 ((a14.add ((s9.1 : Int).toNat * 2)).add 0) fun t15 =>
 (((decide (t15 ≠ 0)) = true →
 (((decide (t15 ≠ 1)) = true →
 law9_fair.j2 Q go11 s9 ((decide (t15 ≠ 3)), ()) h10) ∧
 ((decide (t15 ≠ 1)) = false →
 law9_fair.j2 Q go11 s9 (false, ()) h10))) ∧
 ((decide (t15 ≠ 0)) = false →
 law9_fair.j2 Q go11 s9 (false, ()) h10))) ∧
 ((decide (s9.1 < (todos4.len : Int))) = false →
 Q true h10))
def law9_fair.j4 (todos4 : Sl) (Q : Bool → Heap → Prop) (s7 : Unit) (h8 : Heap) : Prop :=
 Loop (law9_fair.l3 todos4 Q) (0, ()) h8
def law9_fair.j5 (todos4 : Sl) (Q : Bool → Heap → Prop) (s18 : (Bool × Unit)) (h19 : Heap) : Prop :=
 ((s18.1 = true →
 Q false h19) ∧
 (s18.1 = false →
 law9_fair.j4 todos4 Q () h19))
def law9_fair.M  (first1 : Int) (most2 : Int) (sleepers3 : Int) (todos4 : Sl) (picks5 : Sl) (h6 : Heap) (Q : Bool → Heap → Prop) : Prop :=
 (((decide (first1 < 1)) = true →
 law9_fair.j5 todos4 Q (true, ()) h6) ∧
 ((decide (first1 < 1)) = false →
 (((decide (most2 < first1)) = true →
 law9_fair.j5 todos4 Q (true, ()) h6) ∧
 ((decide (most2 < first1)) = false →
 (((decide ((4096 : Int) < most2)) = true →
 law9_fair.j5 todos4 Q (true, ()) h6) ∧
 ((decide ((4096 : Int) < most2)) = false →
 (((decide (sleepers3 < 0)) = true →
 law9_fair.j5 todos4 Q (true, ()) h6) ∧
 ((decide (sleepers3 < 0)) = false →
 (((decide ((7 : Int) < sleepers3)) = true →
 law9_fair.j5 todos4 Q (true, ()) h6) ∧
 ((decide ((7 : Int) < sleepers3)) = false →
 (((decide ((4096 : Int) < (todos4.len : Int))) = true →
 law9_fair.j5 todos4 Q (true, ()) h6) ∧
 ((decide ((4096 : Int) < (todos4.len : Int))) = false →
 law9_fair.j5 todos4 Q ((decide ((1048576 : Int) < (picks5.len : Int))), ()) h6))))))))))))
def law9_fair.mk : Mk := (.s .d (.j [] (.j [.slot 41 .bool] .d (.c (.s .d .d) .d)) (.s (.s .d (.b (.l [.slot 11 kI] (.s (.s .d (.c .d .d)) (.j [] (.b (.s .d (.j [.slot 62 .bool] .d (.c (.s .d .d) .d)))) .d))))) (.s .d .d))))

def park_Play.j1 (go26 : (Int × (Int × (Int × (Den kapiParkRun × Unit)))) → Heap → Prop) (s24 : (Int × (Int × (Int × (Den kapiParkRun × Unit))))) (s27 : (Int × (Int × (Den kapiParkRun × Unit)))) (h28 : Heap) : Prop :=
 go26 (s27.1, s27.2.1, (w64 (s24.2.2.1 + 1)), (s27.2.2.1.1, (s27.2.2.1.2.1, (s27.2.2.1.2.2.1, (s27.2.2.1.2.2.2.1, (s27.2.2.1.2.2.2.2.1, (s27.2.2.1.2.2.2.2.2.1, (s27.2.2.1.2.2.2.2.2.2.1, (s27.2.2.1.2.2.2.2.2.2.2.1, (s27.2.2.1.2.2.2.2.2.2.2.2.1, ()))))))))), ()) h28
def park_Play.j2 (c_deque_New : Value → Int → Int → Heap → ((Den kparkLot × (Int × Unit)) → Heap → Prop) → Prop) (Q : (Den kapiParkRun × (Int × Unit)) → Heap → Prop) (r15 : (Option Addr × (Int × Unit))) (p19 : Addr) (go26 : (Int × (Int × (Int × (Den kapiParkRun × Unit)))) → Heap → Prop) (s24 : (Int × (Int × (Int × (Den kapiParkRun × Unit))))) (s29 : Den kparkLot) (h30 : Heap) : Prop :=
 c_deque_New (Value.iface 25 (Kd.val (.ptr : Kd) r15.1)) s29.1 s29.2.1 h30 fun r31 h32 =>
 (((decide (r31.2.1 ≠ 0)) = true →
 Q ((Sl.none, (Sl.none, (Sl.none, (Sl.none, (0, (0, (0, (false, (Sl.none, ()))))))))), r31.2.1, ()) h32) ∧
 ((decide (r31.2.1 ≠ 0)) = false →
 ld (.sl : Kd) h32 (p19.add 3) fun t33 =>
 new h32 (([(r31.1.1, (r31.1.2.1, ()))] : List (Den kparkLot)).flatMap (Kd.cells kparkLot)) fun p34 h35 =>
 appendM 2 16 h35 t33 ⟨some p34, 1, 1⟩ fun t36 h37 =>
 st (.sl : Kd) h37 (p19.add 3) t36 fun h38 =>
 park_Play.j1 go26 s24 (s29.1, s29.2.1, (s24.2.2.2.1.1, (s24.2.2.2.1.2.1, (s24.2.2.2.1.2.2.1, (s24.2.2.2.1.2.2.2.1, (s24.2.2.2.1.2.2.2.2.1, (s24.2.2.2.1.2.2.2.2.2.1, (s24.2.2.2.1.2.2.2.2.2.2.1, (s24.2.2.2.1.2.2.2.2.2.2.2.1, (s24.2.2.2.1.2.2.2.2.2.2.2.2.1, ()))))))))), ()) h38))
def park_Play.j3 (go43 : (Int × Unit) → Heap → Prop) (s41 : (Int × Unit)) (s44 : Unit) (h45 : Heap) : Prop :=
 go43 ((w64 (s41.1 + 1)), ()) h45
def park_Play.l4 (c_ops_Mod : Cq4) (c_cells_Arena_Who : Cq2) (c_park_game_worker : Cq23) (c_park_game_sleeper : Cq19) (c_park_game_told : Option Addr → Heap → (Unit → Heap → Prop) → Prop) (sleepers3 : Int) (picks5 : Sl) (Q : (Den kapiParkRun × (Int × Unit)) → Heap → Prop) (r15 : (Option Addr × (Int × Unit))) (p19 : Addr) (go43 : (Int × Unit) → Heap → Prop) (s41 : (Int × Unit)) (h42 : Heap) : Prop :=
 (((decide (s41.1 < (picks5.len : Int))) = true →
 (0 ≤ s41.1 ∧ s41.1 < (picks5.len : Int)) ∧
 deref picks5.a fun a46 =>
 ld kI h42 (a46.add ((s41.1 : Int).toNat * 1)) fun t47 =>
 c_ops_Mod t47 (w64 (1 + sleepers3)) h42 fun r48 h49 =>
 c_cells_Arena_Who r15.1 r48 h49 fun r50 h51 =>
 (((decide (r48 = 0)) = true →
 ld (.sl : Kd) h51 (p19.add 5) fun t52 =>
 (0 ≤ (0 : Int) ∧ (0 : Int) < (t52.len : Int)) ∧
 deref t52.a fun a53 =>
 c_park_game_worker (some p19) (some (a53.add (((0 : Int) : Int).toNat * 173))) h51 fun r54 h55 =>
 park_Play.j3 go43 s41 () h55) ∧
 ((decide (r48 = 0)) = false →
 ld (.sl : Kd) h51 (p19.add 5) fun t56 =>
 (0 ≤ r48 ∧ r48 < (t56.len : Int)) ∧
 deref t56.a fun a57 =>
 c_park_game_sleeper (some p19) (some (a57.add ((r48 : Int).toNat * 173))) r48 h51 fun r58 h59 =>
 park_Play.j3 go43 s41 () h59))) ∧
 ((decide (s41.1 < (picks5.len : Int))) = false →
 c_park_game_told (some p19) h42 fun r60 h61 =>
 ld kapiParkRun h61 (p19.add 6) fun t62 =>
 Q ((t62.1, (t62.2.1, (t62.2.2.1, (t62.2.2.2.1, (t62.2.2.2.2.1, (t62.2.2.2.2.2.1, (t62.2.2.2.2.2.2.1, (t62.2.2.2.2.2.2.2.1, (t62.2.2.2.2.2.2.2.2.1, ()))))))))), 0, ()) h61))
def park_Play.l5 (c_deque_New : Value → Int → Int → Heap → ((Den kparkLot × (Int × Unit)) → Heap → Prop) → Prop) (c_cells_Arena_Watch : Option Addr → Bool → Heap → (Unit → Heap → Prop) → Prop) (c_ops_Mod : Cq4) (c_cells_Arena_Who : Cq2) (c_park_game_worker : Cq23) (c_park_game_sleeper : Cq19) (c_park_game_told : Option Addr → Heap → (Unit → Heap → Prop) → Prop) (sleepers3 : Int) (picks5 : Sl) (Q : (Den kapiParkRun × (Int × Unit)) → Heap → Prop) (r15 : (Option Addr × (Int × Unit))) (p19 : Addr) (go26 : (Int × (Int × (Int × (Den kapiParkRun × Unit)))) → Heap → Prop) (s24 : (Int × (Int × (Int × (Den kapiParkRun × Unit))))) (h25 : Heap) : Prop :=
 (((decide (s24.2.2.1 < (w64 (1 + sleepers3)))) = true →
 (((decide ((0 : Int) < s24.2.2.1)) = true →
 park_Play.j2 c_deque_New Q r15 p19 go26 s24 (1, 1, ()) h25) ∧
 ((decide ((0 : Int) < s24.2.2.1)) = false →
 park_Play.j2 c_deque_New Q r15 p19 go26 s24 (s24.1, s24.2.1, ()) h25))) ∧
 ((decide (s24.2.2.1 < (w64 (1 + sleepers3)))) = false →
 c_cells_Arena_Watch r15.1 true h25 fun r39 h40 =>
 Loop (park_Play.l4 c_ops_Mod c_cells_Arena_Who c_park_game_worker c_park_game_sleeper c_park_game_told sleepers3 picks5 Q r15 p19) (0, ()) h40))
def park_Play.M (c_park_judged : Int → Int → Int → Sl → Sl → Heap → (Int → Heap → Prop) → Prop) (c_park_Cells : Int → Heap → (Int → Heap → Prop) → Prop) (c_deque_Cells : Cq4) (c_cells_New : Int → Heap → ((Option Addr × (Int × Unit)) → Heap → Prop) → Prop) (c_park_New : Value → Int → Heap → ((Den kparkLot × (Int × Unit)) → Heap → Prop) → Prop) (c_deque_New : Value → Int → Int → Heap → ((Den kparkLot × (Int × Unit)) → Heap → Prop) → Prop) (c_cells_Arena_Watch : Option Addr → Bool → Heap → (Unit → Heap → Prop) → Prop) (c_ops_Mod : Cq4) (c_cells_Arena_Who : Cq2) (c_park_game_worker : Cq23) (c_park_game_sleeper : Cq19) (c_park_game_told : Option Addr → Heap → (Unit → Heap → Prop) → Prop) (first1 : Int) (most2 : Int) (sleepers3 : Int) (todos4 : Sl) (picks5 : Sl) (h6 : Heap) (Q : (Den kapiParkRun × (Int × Unit)) → Heap → Prop) : Prop :=
 c_park_judged first1 most2 sleepers3 todos4 picks5 h6 fun r7 h8 =>
 (((decide (r7 ≠ 0)) = true →
 Q ((Sl.none, (Sl.none, (Sl.none, (Sl.none, (0, (0, (0, (false, (Sl.none, ()))))))))), r7, ()) h8) ∧
 ((decide (r7 ≠ 0)) = false →
 c_park_Cells (w64 (1 + sleepers3)) h8 fun r9 h10 =>
 c_deque_Cells first1 most2 h10 fun r11 h12 =>
 c_deque_Cells 1 1 h12 fun r13 h14 =>
 c_cells_New (w64 ((w64 (r9 + r11)) + (w64 (sleepers3 * r13)))) h14 fun r15 h16 =>
 (((decide (r15.2.1 ≠ 0)) = true →
 Q ((Sl.none, (Sl.none, (Sl.none, (Sl.none, (0, (0, (0, (false, (Sl.none, ()))))))))), r15.2.1, ()) h16) ∧
 ((decide (r15.2.1 ≠ 0)) = false →
 makeM kparkactor 1368 h16 (w64 (1 + sleepers3)) (w64 (1 + sleepers3)) fun s17 h18 =>
 new h18 (kparkgame.cells (r15.1, ((0, (0, ())), (Sl.none, (todos4, (s17, ((Sl.none, (Sl.none, (Sl.none, (Sl.none, (0, (0, (0, (false, (Sl.none, ()))))))))), ()))))))) fun p19 h20 =>
 c_park_New (Value.iface 25 (Kd.val (.ptr : Kd) r15.1)) (w64 (1 + sleepers3)) h20 fun r21 h22 =>
 st kparkLot h22 (p19.add 1) r21.1 fun h23 =>
 (((decide (r21.2.1 ≠ 0)) = true →
 Q ((Sl.none, (Sl.none, (Sl.none, (Sl.none, (0, (0, (0, (false, (Sl.none, ()))))))))), r21.2.1, ()) h23) ∧
 ((decide (r21.2.1 ≠ 0)) = false →
 Loop (park_Play.l5 c_deque_New c_cells_Arena_Watch c_ops_Mod c_cells_Arena_Who c_park_game_worker c_park_game_sleeper c_park_game_told sleepers3 picks5 Q r15 p19) (first1, most2, 0, (Sl.none, (Sl.none, (Sl.none, (Sl.none, (0, (0, (0, (false, (Sl.none, ()))))))))), ()) h23))))))
def park_Play.mk : Mk := (.s (.r [0]) (.s (.s .d (.s .d (.c (.s .d .d) .d))) (.s .d (.s .d (.s (.s .d (.c (.s .d .d) .d)) (.s .d (.s (.s .d (.s .d (.c (.s .d .d) .d))) (.s (.s .d (.b (.l [.slot 0 kI, .slot 1 kI, .slot 74 kI, .box 10 kapiParkRun] (.s .d (.s (.c .d .d) (.j [.slot 0 kI, .slot 1 kI, .box 10 kapiParkRun] (.b (.s .d (.j [.slot 0 kI, .slot 1 kI] (.s .d (.c .d .d)) (.s (.r [8]) (.s (.s .d (.c (.s .d .d) .d)) (.q [] [] [.p 0, .p 1, .p 2, .p 3, .w 4 [4, 7, 8, 9, 10], .w 5 [5, 6, 7, 8, 9, 10], .o 6, .o 7, .p 8, .p 9, .o 10])))))) .d)))))) (.s .d (.s (.s .d (.b (.l [.slot 106 kI] (.s .d (.s (.c .d .d) (.j [] (.b (.s .d (.s .d (.s .d (.s .d (.c .d .d)))))) .d)))))) (.s .d (.s .d .d))))))))))))

def law9_awake.j1 (go5 : Den kparkLot → Heap → Prop) (s3 : Den kparkLot) (s6 : (Int × Unit)) (h7 : Heap) : Prop :=
 go5 (s6.1, (w64 (s3.2.1 + 1)), ()) h7
def law9_awake.j2 (go5 : Den kparkLot → Heap → Prop) (s3 : Den kparkLot) (s8 : (Bool × Unit)) (h9 : Heap) : Prop :=
 ((s8.1 = true →
 law9_awake.j1 go5 s3 ((w64 (s3.1 + 1)), ()) h9) ∧
 (s8.1 = false →
 law9_awake.j1 go5 s3 (s3.1, ()) h9))
def law9_awake.l3 (r1 : Den kapiParkRun) (Q : Int → Heap → Prop) (go5 : Den kparkLot → Heap → Prop) (s3 : Den kparkLot) (h4 : Heap) : Prop :=
 (((decide (s3.2.1 < (r1.2.2.1.len : Int))) = true →
 (0 ≤ s3.2.1 ∧ s3.2.1 < (r1.2.2.1.len : Int)) ∧
 deref r1.2.2.1.a fun a10 =>
 ld kI h4 (a10.add ((s3.2.1 : Int).toNat * 1)) fun t11 =>
 (((decide (t11 ≠ 1)) = true →
 law9_awake.j2 go5 s3 (true, ()) h4) ∧
 ((decide (t11 ≠ 1)) = false →
 (0 ≤ (w64 (s3.2.1 + 1)) ∧ (w64 (s3.2.1 + 1)) < (r1.2.2.2.1.len : Int)) ∧
 deref r1.2.2.2.1.a fun a12 =>
 ld kI h4 (a12.add (((w64 (s3.2.1 + 1)) : Int).toNat * 1)) fun t13 =>
 law9_awake.j2 go5 s3 ((decide (t13 ≠ 1)), ()) h4))) ∧
 ((decide (s3.2.1 < (r1.2.2.1.len : Int))) = false →
 Q s3.1 h4))
def law9_awake.M  (r1 : Den kapiParkRun) (h2 : Heap) (Q : Int → Heap → Prop) : Prop :=
 Loop (law9_awake.l3 r1 Q) (0, 0, ()) h2
def law9_awake.mk : Mk := (.s (.r [0]) (.s .d (.s (.s .d (.b (.l [.slot 3 kI, .slot 4 kI] (.s (.s .d (.c .d .d)) (.j [.slot 3 kI] (.b (.j [.slot 26 .bool] .d (.c .d .d))) .d))))) (.s .d .d))))

def law9_numbered.j1 (go5 : (Sl × Den kparkLot) → Heap → Prop) (s3 : (Sl × Den kparkLot)) (s6 : (Sl × (Int × Unit))) (h7 : Heap) : Prop :=
 go5 (s6.1, s6.2.1, (w64 (s3.2.2.1 + 1)), ()) h7
def law9_numbered.j2 (go5 : (Sl × Den kparkLot) → Heap → Prop) (s3 : (Sl × Den kparkLot)) (s10 : (Den kparkLot × Unit)) (s12 : (Int × Unit)) (h13 : Heap) : Prop :=
 new h13 (([(s10.1.1, (s10.1.2.1, ()))] : List (Den kparkLot)).flatMap (Kd.cells kparkLot)) fun p14 h15 =>
 appendM 2 16 h15 s3.1 ⟨some p14, 1, 1⟩ fun t16 h17 =>
 law9_numbered.j1 go5 s3 (t16, s12.1, ()) h17
def law9_numbered.j3 (go5 : (Sl × Den kparkLot) → Heap → Prop) (s3 : (Sl × Den kparkLot)) (s10 : (Den kparkLot × Unit)) (h11 : Heap) : Prop :=
 (((decide (s10.1.1 = 0)) = true →
 law9_numbered.j2 go5 s3 s10 ((w64 (s3.2.1 + 1)), ()) h11) ∧
 ((decide (s10.1.1 = 0)) = false →
 law9_numbered.j2 go5 s3 s10 (s3.2.1, ()) h11))
def law9_numbered.l4 (todos1 : Sl) (Q : (Sl × (Int × Unit)) → Heap → Prop) (go5 : (Sl × Den kparkLot) → Heap → Prop) (s3 : (Sl × Den kparkLot)) (h4 : Heap) : Prop :=
 (((decide (s3.2.2.1 < (todos1.len : Int))) = true →
 (0 ≤ s3.2.2.1 ∧ s3.2.2.1 < (todos1.len : Int)) ∧
 deref todos1.a fun a8 =>
 ld kI h4 ((a8.add ((s3.2.2.1 : Int).toNat * 2)).add 0) fun t9 =>
 (((decide (t9 = 3)) = true →
 law9_numbered.j3 go5 s3 ((1, (s3.2.2.1, ())), ()) h4) ∧
 ((decide (t9 = 3)) = false →
 law9_numbered.j3 go5 s3 ((t9, (s3.2.2.1, ())), ()) h4))) ∧
 ((decide (s3.2.2.1 < (todos1.len : Int))) = false →
 Q (s3.1, s3.2.1, ()) h4))
def law9_numbered.M  (todos1 : Sl) (h2 : Heap) (Q : (Sl × (Int × Unit)) → Heap → Prop) : Prop :=
 Loop (law9_numbered.l4 todos1 Q) (⟨none, 0, 0⟩, 0, 0, ()) h2
def law9_numbered.mk : Mk := (.s .d (.s .d (.s .d (.s (.s .d (.b (.l [.slot 4 .sl, .slot 5 kI, .slot 6 kI] (.s (.s .d (.c .d .d)) (.j [.slot 4 .sl, .slot 5 kI] (.b (.s (.r [7]) (.j [.box 7 kparkLot] (.s .d (.c .d .d)) (.j [.slot 5 kI] (.s .d (.c .d .d)) .d)))) .d))))) (.s .d .d)))))

def law9_rounds.l1 (sleepers3 : Int) (go19 : (Sl × (Int × Unit)) → Heap → Prop) (s17 : (Sl × (Int × Unit))) (go22 : (Sl × (Int × Unit)) → Heap → Prop) (s20 : (Sl × (Int × Unit))) (h21 : Heap) : Prop :=
 (((decide (s20.2.1 ≤ sleepers3)) = true →
 new h21 (([s20.2.1] : List (Den kI)).flatMap (Kd.cells kI)) fun p23 h24 =>
 appendM 1 8 h24 s20.1 ⟨some p23, 1, 1⟩ fun t25 h26 =>
 go22 (t25, (w64 (s20.2.1 + 1)), ()) h26) ∧
 ((decide (s20.2.1 ≤ sleepers3)) = false →
 go19 (s20.1, (w64 (s17.2.1 + 1)), ()) h21))
def law9_rounds.l2 (sleepers3 : Int) (turns4 : Int) (Q : Sl → Heap → Prop) (go19 : (Sl × (Int × Unit)) → Heap → Prop) (s17 : (Sl × (Int × Unit))) (h18 : Heap) : Prop :=
 (((decide (s17.2.1 < turns4)) = true →
 Loop (law9_rounds.l1 sleepers3 go19 s17) (s17.1, 1, ()) h18) ∧
 ((decide (s17.2.1 < turns4)) = false →
 Q s17.1 h18))
def law9_rounds.l3 (owner2 : Int) (sleepers3 : Int) (turns4 : Int) (Q : Sl → Heap → Prop) (go12 : (Sl × (Int × Unit)) → Heap → Prop) (s10 : (Sl × (Int × Unit))) (h11 : Heap) : Prop :=
 (((decide (s10.2.1 < owner2)) = true →
 new h11 (([0] : List (Den kI)).flatMap (Kd.cells kI)) fun p13 h14 =>
 appendM 1 8 h14 s10.1 ⟨some p13, 1, 1⟩ fun t15 h16 =>
 go12 (t15, (w64 (s10.2.1 + 1)), ()) h16) ∧
 ((decide (s10.2.1 < owner2)) = false →
 Loop (law9_rounds.l2 sleepers3 turns4 Q) (s10.1, 0, ()) h11))
def law9_rounds.M  (picks1 : Sl) (owner2 : Int) (sleepers3 : Int) (turns4 : Int) (h5 : Heap) (Q : Sl → Heap → Prop) : Prop :=
 new h5 (([] : List (Den kI)).flatMap (Kd.cells kI)) fun p6 h7 =>
 appendM 1 8 h7 ⟨some p6, 0, 0⟩ picks1 fun t8 h9 =>
 Loop (law9_rounds.l3 owner2 sleepers3 turns4 Q) (t8, 0, ()) h9
def law9_rounds.mk : Mk := (.s .d (.s .d (.s (.s .d (.b (.l [.slot 9 .sl, .slot 10 kI] (.s (.s .d (.c .d .d)) (.s (.b .d) .d))))) (.s (.s .d (.b (.l [.slot 9 .sl, .slot 11 kI] (.s (.s .d (.c .d .d)) (.s (.b (.s .d (.b (.l [.slot 9 .sl, .slot 12 kI] (.s (.s .d (.c .d .d)) (.s (.b .d) .d)))))) .d))))) (.s .d .d)))))

def law9_once.j1 (go19 : (Int × Unit) → Heap → Prop) (s17 : (Int × Unit)) (s20 : Unit) (h21 : Heap) : Prop :=
 go19 ((w64 (s17.1 + 1)), ()) h21
def law9_once.j2 (Q : Bool → Heap → Prop) (s4 : Sl) (go19 : (Int × Unit) → Heap → Prop) (s17 : (Int × Unit)) (t23 : Int) (s24 : Unit) (h25 : Heap) : Prop :=
 (0 ≤ t23 ∧ t23 < (s4.len : Int)) ∧
 deref s4.a fun a26 =>
 ld kI h25 (a26.add ((t23 : Int).toNat * 1)) fun t27 =>
 (0 ≤ t23 ∧ t23 < (s4.len : Int)) ∧
 deref s4.a fun a28 =>
 st kI h25 (a28.add ((t23 : Int).toNat * 1)) (w64 (t27 + 1)) fun h29 =>
 (0 ≤ t23 ∧ t23 < (s4.len : Int)) ∧
 deref s4.a fun a30 =>
 ld kI h29 (a30.add ((t23 : Int).toNat * 1)) fun t31 =>
 (((decide ((1 : Int) < t31)) = true →
 Q false h29) ∧
 ((decide ((1 : Int) < t31)) = false →
 law9_once.j1 go19 s17 () h29))
def law9_once.j3 (Q : Bool → Heap → Prop) (s4 : Sl) (go19 : (Int × Unit) → Heap → Prop) (s17 : (Int × Unit)) (t23 : Int) (s32 : (Bool × Unit)) (h33 : Heap) : Prop :=
 ((s32.1 = true →
 Q false h33) ∧
 (s32.1 = false →
 law9_once.j2 Q s4 go19 s17 t23 () h33))
def law9_once.l4 (todos2 : Sl) (Q : Bool → Heap → Prop) (s4 : Sl) (t15 : Sl) (go19 : (Int × Unit) → Heap → Prop) (s17 : (Int × Unit)) (h18 : Heap) : Prop :=
 (((decide (s17.1 < (t15.len : Int))) = true →
 (0 ≤ s17.1 ∧ s17.1 < (t15.len : Int)) ∧
 deref t15.a fun a22 =>
 ld kI h18 (a22.add ((s17.1 : Int).toNat * 1)) fun t23 =>
 (((decide (t23 < 0)) = true →
 law9_once.j3 Q s4 go19 s17 t23 (true, ()) h18) ∧
 ((decide (t23 < 0)) = false →
 (((decide ((todos2.len : Int) ≤ t23)) = true →
 law9_once.j3 Q s4 go19 s17 t23 (true, ()) h18) ∧
 ((decide ((todos2.len : Int) ≤ t23)) = false →
 (0 ≤ t23 ∧ t23 < (todos2.len : Int)) ∧
 deref todos2.a fun a34 =>
 ld kI h18 ((a34.add ((t23 : Int).toNat * 2)).add 0) fun t35 =>
 law9_once.j3 Q s4 go19 s17 t23 ((decide (t35 ≠ 0)), ()) h18))))) ∧
 ((decide (s17.1 < (t15.len : Int))) = false →
 Q true h18))
def law9_once.l5 (r1 : Den kapiParkRun) (todos2 : Sl) (Q : Bool → Heap → Prop) (s4 : Sl) (go8 : (Sl × (Int × Unit)) → Heap → Prop) (s6 : (Sl × (Int × Unit))) (h7 : Heap) : Prop :=
 (((decide (s6.2.1 < (r1.1.len : Int))) = true →
 (0 ≤ s6.2.1 ∧ s6.2.1 < (r1.1.len : Int)) ∧
 deref r1.1.a fun a9 =>
 ld kI h7 ((a9.add ((s6.2.1 : Int).toNat * 2)).add 1) fun t10 =>
 new h7 (([t10] : List (Den kI)).flatMap (Kd.cells kI)) fun p11 h12 =>
 appendM 1 8 h12 s6.1 ⟨some p11, 1, 1⟩ fun t13 h14 =>
 go8 (t13, (w64 (s6.2.1 + 1)), ()) h14) ∧
 ((decide (s6.2.1 < (r1.1.len : Int))) = false →
 appendM 1 8 h7 s6.1 r1.2.1 fun t15 h16 =>
 Loop (law9_once.l4 todos2 Q s4 t15) (0, ()) h16))
def law9_once.M  (r1 : Den kapiParkRun) (todos2 : Sl) (h3 : Heap) (Q : Bool → Heap → Prop) : Prop :=
 makeM kI 8 h3 (todos2.len : Int) (todos2.len : Int) fun s4 h5 =>
 Loop (law9_once.l5 r1 todos2 Q s4) (⟨none, 0, 0⟩, 0, ()) h5
def law9_once.mk : Mk := (.s (.r [0]) (.s .d (.s .d (.s (.s .d (.b (.l [.slot 6 .sl, .slot 7 kI] (.s (.s .d (.c .d .d)) (.s (.b .d) .d))))) (.s .d (.s (.s .d (.b (.l [.slot 8 kI] (.s (.s .d (.c .d .d)) (.j [] (.b (.s .d (.j [] (.j [.slot 58 .bool] .d (.c (.s .d .d) .d)) (.s .d (.s .d (.c (.s .d .d) .d)))))) .d))))) (.s .d .d)))))))

def law9_sameTakes.l1 (a1 : Sl) (b2 : Sl) (Q : Bool → Heap → Prop) (go6 : (Int × Unit) → Heap → Prop) (s4 : (Int × Unit)) (h5 : Heap) : Prop :=
 (((decide (s4.1 < (a1.len : Int))) = true →
 (0 ≤ s4.1 ∧ s4.1 < (a1.len : Int)) ∧
 deref a1.a fun a7 =>
 (0 ≤ s4.1 ∧ s4.1 < (b2.len : Int)) ∧
 deref b2.a fun a8 =>
 ld kparkLot h5 (a7.add ((s4.1 : Int).toNat * 2)) fun t9 =>
 ld kparkLot h5 (a8.add ((s4.1 : Int).toNat * 2)) fun t10 =>
 (((!(eqK kparkLot t9 t10)) = true →
 Q false h5) ∧
 ((!(eqK kparkLot t9 t10)) = false →
 go6 ((w64 (s4.1 + 1)), ()) h5))) ∧
 ((decide (s4.1 < (a1.len : Int))) = false →
 Q true h5))
def law9_sameTakes.M  (a1 : Sl) (b2 : Sl) (h3 : Heap) (Q : Bool → Heap → Prop) : Prop :=
 (((decide ((a1.len : Int) ≠ (b2.len : Int))) = true →
 Q false h3) ∧
 ((decide ((a1.len : Int) ≠ (b2.len : Int))) = false →
 Loop (law9_sameTakes.l1 a1 b2 Q) (0, ()) h3))
def law9_sameTakes.mk : Mk := (.s .d (.s (.s .d (.c (.s .d .d) .d)) (.s (.s .d (.b (.l [.slot 5 kI] (.s (.s .d (.c .d .d)) (.s (.b (.s (.q [] [] [.p 0, .p 1, .p 2, .p 4, .p 5, .p 6, .w 3 [3, 8], .w 7 [7, 8], .p 8]) (.c (.s .d .d) .d))) .d))))) (.s .d .d))))

def cells_New.M (c_cells_good : Int → Heap → (Bool → Heap → Prop) → Prop) (size1 : Int) (h2 : Heap) (Q : (Option Addr × (Int × Unit)) → Heap → Prop) : Prop :=
 c_cells_good size1 h2 fun r3 h4 =>
 (((!r3) = true →
 Q (none, 3, ()) h4) ∧
 ((!r3) = false →
 new h4 (kcellsArena.cells ((size1, (0, ())), (Sl.none, (Sl.none, (0, (false, ())))))) fun p5 h6 =>
 Q ((some p5), 0, ()) h6))
def cells_New.mk : Mk := (.s .d (.s (.s .d (.c (.s .d .d) .d)) (.s .d .d)))

def cells_Arena_Reserve.j1 (c_cells_ledger_refuse : Cq11) (c_cells_ledger_take : Cq11) (c_cells_Arena_note : Cq3) (a1 : Option Addr) (n2 : Int) (Q : Den kparkLot → Heap → Prop) (s4 : (Option Addr × Unit)) (h5 : Heap) : Prop :=
 c_cells_ledger_refuse s4.1 n2 h5 fun r6 h7 =>
 (((decide (r6 ≠ 0)) = true →
 Q (0, r6, ()) h7) ∧
 ((decide (r6 ≠ 0)) = false →
 c_cells_ledger_take s4.1 n2 h7 fun r8 h9 =>
 deref a1 fun a10 =>
 ld (.sl : Kd) h9 (a10.add 2) fun t11 =>
 appendZM kI 8 h9 t11 n2 fun t12 h13 =>
 deref a1 fun a14 =>
 st (.sl : Kd) h13 (a14.add 2) t12 fun h15 =>
 c_cells_Arena_note a1 4 r8 n2 0 true h15 fun r16 h17 =>
 Q (r8, 0, ()) h17))
def cells_Arena_Reserve.M (c_cells_ledger_refuse : Cq11) (c_cells_ledger_take : Cq11) (c_cells_Arena_note : Cq3) (a1 : Option Addr) (n2 : Int) (h3 : Heap) (Q : Den kparkLot → Heap → Prop) : Prop :=
 (((Option.isSome a1) = true →
 deref a1 fun a18 =>
 cells_Arena_Reserve.j1 c_cells_ledger_refuse c_cells_ledger_take c_cells_Arena_note a1 n2 Q ((some (a18.add 0)), ()) h3) ∧
 ((Option.isSome a1) = false →
 cells_Arena_Reserve.j1 c_cells_ledger_refuse c_cells_ledger_take c_cells_Arena_note a1 n2 Q (none, ()) h3))
def cells_Arena_Reserve.mk : Mk := (.s .d (.s .d (.j [.slot 6 .ptr] (.s .d (.c .d .d)) (.s (.s .d (.s .d (.c (.s .d .d) .d))) (.s .d (.s .d (.s .d (.s .d .d))))))))

def park_Cells.j1 (workers1 : Int) (Q : Int → Heap → Prop) (s3 : Unit) (h4 : Heap) : Prop :=
 Q (w64 (2 + workers1)) h4
def park_Cells.j2 (workers1 : Int) (Q : Int → Heap → Prop) (s5 : (Bool × Unit)) (h6 : Heap) : Prop :=
 ((s5.1 = true →
 Q 0 h6) ∧
 (s5.1 = false →
 park_Cells.j1 workers1 Q () h6))
def park_Cells.M  (workers1 : Int) (h2 : Heap) (Q : Int → Heap → Prop) : Prop :=
 (((decide (workers1 < 1)) = true →
 park_Cells.j2 workers1 Q (true, ()) h2) ∧
 ((decide (workers1 < 1)) = false →
 park_Cells.j2 workers1 Q ((decide ((64 : Int) < workers1)), ()) h2))
def park_Cells.mk : Mk := (.s .d (.j [] (.j [.slot 8 .bool] .d (.c (.s .d .d) .d)) (.s .d .d)))

def deque_Cells.l1 (most2 : Int) (Q : Int → Heap → Prop) (go8 : Den kparkLot → Heap → Prop) (s6 : Den kparkLot) (h7 : Heap) : Prop :=
 (((decide (s6.2.1 < most2)) = true →
 go8 ((w64 (s6.1 + (w64 (1 + (if most2 < (w64 (2 * s6.2.1)) then most2 else (w64 (2 * s6.2.1))))))), (if most2 < (w64 (2 * s6.2.1)) then most2 else (w64 (2 * s6.2.1))), ()) h7) ∧
 ((decide (s6.2.1 < most2)) = false →
 Q s6.1 h7))
def deque_Cells.M (c_deque_capsOK : Int → Int → Heap → (Bool → Heap → Prop) → Prop) (low1 : Int) (most2 : Int) (h3 : Heap) (Q : Int → Heap → Prop) : Prop :=
 c_deque_capsOK low1 most2 h3 fun r4 h5 =>
 (((!r4) = true →
 Q 0 h5) ∧
 ((!r4) = false →
 Loop (deque_Cells.l1 most2 Q) ((w64 (4 + low1)), low1, ()) h5))
def deque_Cells.mk : Mk := (.s .d (.s (.s .d (.c (.s .d .d) .d)) (.s .d (.s (.s .d (.b (.l [.slot 5 kI, .slot 6 kI] (.s (.s .d (.c .d .d)) (.b (.s .d .d)))))) (.s .d .d)))))

def park_New.M (c_park_Cells : Int → Heap → (Int → Heap → Prop) → Prop) (c_inv_Reserve : Cq6) (c_nil : Value → Prop) (m1 : Value) (workers2 : Int) (h3 : Heap) (Q : (Den kparkLot × (Int × Unit)) → Heap → Prop) : Prop :=
 isI m1 ∧
 (((isNilI m1) = true →
 Q ((0, (0, ())), 1, ()) h3) ∧
 ((isNilI m1) = false →
 c_park_Cells workers2 h3 fun r4 h5 =>
 (((decide (r4 = 0)) = true →
 Q ((0, (0, ())), 3, ()) h5) ∧
 ((decide (r4 = 0)) = false →
 c_nil (Value.func (.method "Reserve") (List.toArray [Kd.val (.iface : Kd) m1]) (List.toArray [])) ∧
 c_park_Cells workers2 h5 fun r6 h7 =>
 c_inv_Reserve m1 r6 h7 fun r8 h9 =>
 (((decide (r8.2.1 ≠ 0)) = true →
 Q ((0, (0, ())), r8.2.1, ()) h9) ∧
 ((decide (r8.2.1 ≠ 0)) = false →
 Q ((r8.1, (workers2, ())), 0, ()) h9))))))
def park_New.mk : Mk := (.s (.r [0]) (.s (.s .d (.c (.s .d .d) .d)) (.s (.s .d (.c (.s .d .d) .d)) (.s (.q [] [] [.p 0, .p 1, .p 3, .p 4, .p 5, .o 2, .o 6, .p 7, .p 8, .p 9, .p 10, .p 11]) (.s (.s .d (.c (.s .d .d) .d)) (.s .d .d))))))

def deque_New.M (c_deque_capsOK : Int → Int → Heap → (Bool → Heap → Prop) → Prop) (c_inv_Reserve : Cq6) (c_inv_Store : Cq28) (m1 : Value) (low2 : Int) (most3 : Int) (h4 : Heap) (Q : (Den kparkLot × (Int × Unit)) → Heap → Prop) : Prop :=
 isI m1 ∧
 (((isNilI m1) = true →
 Q ((0, (0, ())), 1, ()) h4) ∧
 ((isNilI m1) = false →
 c_deque_capsOK low2 most3 h4 fun r5 h6 =>
 (((!r5) = true →
 Q ((0, (0, ())), 30, ()) h6) ∧
 ((!r5) = false →
 c_inv_Reserve m1 (w64 (4 + low2)) h6 fun r7 h8 =>
 (((decide (r7.2.1 ≠ 0)) = true →
 Q ((0, (0, ())), r7.2.1, ()) h8) ∧
 ((decide (r7.2.1 ≠ 0)) = false →
 c_inv_Store m1 (w64 (r7.1 + 2)) (w64 (r7.1 + 3)) h8 fun r9 h10 =>
 (((decide (r9 ≠ 0)) = true →
 Q ((0, (0, ())), r9, ()) h10) ∧
 ((decide (r9 ≠ 0)) = false →
 c_inv_Store m1 (w64 (r7.1 + 3)) low2 h10 fun r11 h12 =>
 (((decide (r11 ≠ 0)) = true →
 Q ((0, (0, ())), r11, ()) h12) ∧
 ((decide (r11 ≠ 0)) = false →
 Q ((r7.1, (most3, ())), 0, ()) h12))))))))))
def deque_New.mk : Mk := (.s (.r [0]) (.s (.s .d (.c (.s .d .d) .d)) (.s (.s .d (.c (.s .d .d) .d)) (.s .d (.s (.s .d (.c (.s .d .d) .d)) (.s (.s .d (.s .d (.c (.s .d .d) .d))) (.s (.s .d (.s .d (.c (.s .d .d) .d))) (.s .d .d))))))))

def park_Rest.j1 (go9 : (Int × (Tq0 × (Tq0 × Unit))) → Heap → Prop) (s7 : (Int × (Tq0 × (Tq0 × Unit)))) (s10 : (Tq0 × (Tq0 × Unit))) (h11 : Heap) : Prop :=
 go9 ((w64 (s7.1 + 1)), (s10.1.1, (s10.1.2.1, (s10.1.2.2.1, (s10.1.2.2.2.1, (s10.1.2.2.2.2.1, (s10.1.2.2.2.2.2.1, (s10.1.2.2.2.2.2.2.1, (s10.1.2.2.2.2.2.2.2.1, (s10.1.2.2.2.2.2.2.2.2.1, (s10.1.2.2.2.2.2.2.2.2.2.1, (s10.1.2.2.2.2.2.2.2.2.2.2.1, (s10.1.2.2.2.2.2.2.2.2.2.2.2.1, (s10.1.2.2.2.2.2.2.2.2.2.2.2.2.1, (s10.1.2.2.2.2.2.2.2.2.2.2.2.2.2.1, (s10.1.2.2.2.2.2.2.2.2.2.2.2.2.2.2.1, (s10.1.2.2.2.2.2.2.2.2.2.2.2.2.2.2.2.1, (s10.1.2.2.2.2.2.2.2.2.2.2.2.2.2.2.2.2.1, (s10.1.2.2.2.2.2.2.2.2.2.2.2.2.2.2.2.2.2.1, (s10.1.2.2.2.2.2.2.2.2.2.2.2.2.2.2.2.2.2.2.1, (s10.1.2.2.2.2.2.2.2.2.2.2.2.2.2.2.2.2.2.2.2.1, (s10.1.2.2.2.2.2.2.2.2.2.2.2.2.2.2.2.2.2.2.2.2.1, (s10.1.2.2.2.2.2.2.2.2.2.2.2.2.2.2.2.2.2.2.2.2.2.1, (s10.1.2.2.2.2.2.2.2.2.2.2.2.2.2.2.2.2.2.2.2.2.2.2.1, (s10.1.2.2.2.2.2.2.2.2.2.2.2.2.2.2.2.2.2.2.2.2.2.2.2.1, (s10.1.2.2.2.2.2.2.2.2.2.2.2.2.2.2.2.2.2.2.2.2.2.2.2.2.1, (s10.1.2.2.2.2.2.2.2.2.2.2.2.2.2.2.2.2.2.2.2.2.2.2.2.2.2.1, ())))))))))))))))))))))))))), (s10.2.1.1, (s10.2.1.2.1, (s10.2.1.2.2.1, (s10.2.1.2.2.2.1, (s10.2.1.2.2.2.2.1, (s10.2.1.2.2.2.2.2.1, (s10.2.1.2.2.2.2.2.2.1, (s10.2.1.2.2.2.2.2.2.2.1, (s10.2.1.2.2.2.2.2.2.2.2.1, (s10.2.1.2.2.2.2.2.2.2.2.2.1, (s10.2.1.2.2.2.2.2.2.2.2.2.2.1, (s10.2.1.2.2.2.2.2.2.2.2.2.2.2.1, (s10.2.1.2.2.2.2.2.2.2.2.2.2.2.2.1, (s10.2.1.2.2.2.2.2.2.2.2.2.2.2.2.2.1, (s10.2.1.2.2.2.2.2.2.2.2.2.2.2.2.2.2.1, (s10.2.1.2.2.2.2.2.2.2.2.2.2.2.2.2.2.2.1, (s10.2.1.2.2.2.2.2.2.2.2.2.2.2.2.2.2.2.2.1, (s10.2.1.2.2.2.2.2.2.2.2.2.2.2.2.2.2.2.2.2.1, (s10.2.1.2.2.2.2.2.2.2.2.2.2.2.2.2.2.2.2.2.2.1, (s10.2.1.2.2.2.2.2.2.2.2.2.2.2.2.2.2.2.2.2.2.2.1, (s10.2.1.2.2.2.2.2.2.2.2.2.2.2.2.2.2.2.2.2.2.2.2.1, (s10.2.1.2.2.2.2.2.2.2.2.2.2.2.2.2.2.2.2.2.2.2.2.2.1, (s10.2.1.2.2.2.2.2.2.2.2.2.2.2.2.2.2.2.2.2.2.2.2.2.2.1, (s10.2.1.2.2.2.2.2.2.2.2.2.2.2.2.2.2.2.2.2.2.2.2.2.2.2.1, (s10.2.1.2.2.2.2.2.2.2.2.2.2.2.2.2.2.2.2.2.2.2.2.2.2.2.2.1, (s10.2.1.2.2.2.2.2.2.2.2.2.2.2.2.2.2.2.2.2.2.2.2.2.2.2.2.2.1, ())))))))))))))))))))))))))), ()) h11
def park_Rest.j2 (go9 : (Int × (Tq0 × (Tq0 × Unit))) → Heap → Prop) (s7 : (Int × (Tq0 × (Tq0 × Unit)))) (t13 : Den kparkLot) (s14 : (Tq0 × Unit)) (h15 : Heap) : Prop :=
 (0 ≤ s7.1 ∧ s7.1 < (64 : Int)) ∧
 park_Rest.j1 go9 s7 ((s14.1.1, (s14.1.2.1, (s14.1.2.2.1, (s14.1.2.2.2.1, (s14.1.2.2.2.2.1, (s14.1.2.2.2.2.2.1, (s14.1.2.2.2.2.2.2.1, (s14.1.2.2.2.2.2.2.2.1, (s14.1.2.2.2.2.2.2.2.2.1, (s14.1.2.2.2.2.2.2.2.2.2.1, (s14.1.2.2.2.2.2.2.2.2.2.2.1, (s14.1.2.2.2.2.2.2.2.2.2.2.2.1, (s14.1.2.2.2.2.2.2.2.2.2.2.2.2.1, (s14.1.2.2.2.2.2.2.2.2.2.2.2.2.2.1, (s14.1.2.2.2.2.2.2.2.2.2.2.2.2.2.2.1, (s14.1.2.2.2.2.2.2.2.2.2.2.2.2.2.2.2.1, (s14.1.2.2.2.2.2.2.2.2.2.2.2.2.2.2.2.2.1, (s14.1.2.2.2.2.2.2.2.2.2.2.2.2.2.2.2.2.2.1, (s14.1.2.2.2.2.2.2.2.2.2.2.2.2.2.2.2.2.2.2.1, (s14.1.2.2.2.2.2.2.2.2.2.2.2.2.2.2.2.2.2.2.2.1, (s14.1.2.2.2.2.2.2.2.2.2.2.2.2.2.2.2.2.2.2.2.2.1, (s14.1.2.2.2.2.2.2.2.2.2.2.2.2.2.2.2.2.2.2.2.2.2.1, (s14.1.2.2.2.2.2.2.2.2.2.2.2.2.2.2.2.2.2.2.2.2.2.2.1, (s14.1.2.2.2.2.2.2.2.2.2.2.2.2.2.2.2.2.2.2.2.2.2.2.2.1, (s14.1.2.2.2.2.2.2.2.2.2.2.2.2.2.2.2.2.2.2.2.2.2.2.2.2.1, (s14.1.2.2.2.2.2.2.2.2.2.2.2.2.2.2.2.2.2.2.2.2.2.2.2.2.2.1, ())))))))))))))))))))))))))), (s7.2.2.1.1, (s7.2.2.1.2.1, (s7.2.2.1.2.2.1, (s7.2.2.1.2.2.2.1, (s7.2.2.1.2.2.2.2.1, (s7.2.2.1.2.2.2.2.2.1, (s7.2.2.1.2.2.2.2.2.2.1, (s7.2.2.1.2.2.2.2.2.2.2.1, (s7.2.2.1.2.2.2.2.2.2.2.2.1, ((aset (n := 64) (a := kparkLot) s7.2.2.1.2.2.2.2.2.2.2.2.2.1 (s7.1 : Int).toNat (t13.1, (t13.2.1, ()))), (s7.2.2.1.2.2.2.2.2.2.2.2.2.2.1, (s7.2.2.1.2.2.2.2.2.2.2.2.2.2.2.1, (s7.2.2.1.2.2.2.2.2.2.2.2.2.2.2.2.1, (s7.2.2.1.2.2.2.2.2.2.2.2.2.2.2.2.2.1, (s7.2.2.1.2.2.2.2.2.2.2.2.2.2.2.2.2.2.1, (s7.2.2.1.2.2.2.2.2.2.2.2.2.2.2.2.2.2.2.1, (s7.2.2.1.2.2.2.2.2.2.2.2.2.2.2.2.2.2.2.2.1, (s7.2.2.1.2.2.2.2.2.2.2.2.2.2.2.2.2.2.2.2.2.1, (s7.2.2.1.2.2.2.2.2.2.2.2.2.2.2.2.2.2.2.2.2.2.1, (s7.2.2.1.2.2.2.2.2.2.2.2.2.2.2.2.2.2.2.2.2.2.2.1, (s7.2.2.1.2.2.2.2.2.2.2.2.2.2.2.2.2.2.2.2.2.2.2.2.1, (s7.2.2.1.2.2.2.2.2.2.2.2.2.2.2.2.2.2.2.2.2.2.2.2.2.1, (s7.2.2.1.2.2.2.2.2.2.2.2.2.2.2.2.2.2.2.2.2.2.2.2.2.2.1, (s7.2.2.1.2.2.2.2.2.2.2.2.2.2.2.2.2.2.2.2.2.2.2.2.2.2.2.1, (s7.2.2.1.2.2.2.2.2.2.2.2.2.2.2.2.2.2.2.2.2.2.2.2.2.2.2.2.1, (s7.2.2.1.2.2.2.2.2.2.2.2.2.2.2.2.2.2.2.2.2.2.2.2.2.2.2.2.2.1, ())))))))))))))))))))))))))), ()) h15
def park_Rest.j3 (Q : Den kparkOp → Heap → Prop) (go9 : (Int × (Tq0 × (Tq0 × Unit))) → Heap → Prop) (s7 : (Int × (Tq0 × (Tq0 × Unit)))) (t13 : Den kparkLot) (s16 : (Bool × Unit)) (h17 : Heap) : Prop :=
 ((s16.1 = true →
 Q (((0, (0, ())), (0, (0, (0, (0, (0, (0, (0, ())))))))), ((fun _ => (0, (0, ()))), ((0, (0, ((0, (0, ())), (0, (0, (0, (0, (0, (0, (0, (0, (0, (false, (0, (0, ()))))))))))))))), ()))) h17) ∧
 (s16.1 = false →
 park_Rest.j2 go9 s7 t13 ((s7.2.1.1, (s7.2.1.2.1, (s7.2.1.2.2.1, (s7.2.1.2.2.2.1, (s7.2.1.2.2.2.2.1, (s7.2.1.2.2.2.2.2.1, (s7.2.1.2.2.2.2.2.2.1, (s7.2.1.2.2.2.2.2.2.2.1, (s7.2.1.2.2.2.2.2.2.2.2.1, (s7.2.1.2.2.2.2.2.2.2.2.2.1, (s7.2.1.2.2.2.2.2.2.2.2.2.2.1, (s7.2.1.2.2.2.2.2.2.2.2.2.2.2.1, (s7.2.1.2.2.2.2.2.2.2.2.2.2.2.2.1, (s7.2.1.2.2.2.2.2.2.2.2.2.2.2.2.2.1, (s7.2.1.2.2.2.2.2.2.2.2.2.2.2.2.2.2.1, (s7.2.1.2.2.2.2.2.2.2.2.2.2.2.2.2.2.2.1, (s7.2.1.2.2.2.2.2.2.2.2.2.2.2.2.2.2.2.2.1, (s7.2.1.2.2.2.2.2.2.2.2.2.2.2.2.2.2.2.2.2.1, (s7.2.1.2.2.2.2.2.2.2.2.2.2.2.2.2.2.2.2.2.2.1, (s7.2.1.2.2.2.2.2.2.2.2.2.2.2.2.2.2.2.2.2.2.2.1, (s7.2.1.2.2.2.2.2.2.2.2.2.2.2.2.2.2.2.2.2.2.2.2.1, (s7.2.1.2.2.2.2.2.2.2.2.2.2.2.2.2.2.2.2.2.2.2.2.2.1, (s7.2.1.2.2.2.2.2.2.2.2.2.2.2.2.2.2.2.2.2.2.2.2.2.2.1, (s7.2.1.2.2.2.2.2.2.2.2.2.2.2.2.2.2.2.2.2.2.2.2.2.2.2.1, (s7.2.1.2.2.2.2.2.2.2.2.2.2.2.2.2.2.2.2.2.2.2.2.2.2.2.2.1, (s7.2.1.2.2.2.2.2.2.2.2.2.2.2.2.2.2.2.2.2.2.2.2.2.2.2.2.2.1, ())))))))))))))))))))))))))), ()) h17))
def park_Rest.l4 (Q : Den kparkOp → Heap → Prop) (s5 : (Int × (Sl × (Den kparkLot × (Tq0 × Unit))))) (go9 : (Int × (Tq0 × (Tq0 × Unit))) → Heap → Prop) (s7 : (Int × (Tq0 × (Tq0 × Unit)))) (h8 : Heap) : Prop :=
 (((decide (s7.1 < (s5.2.1.len : Int))) = true →
 (0 ≤ s7.1 ∧ s7.1 < (s5.2.1.len : Int)) ∧
 deref s5.2.1.a fun a12 =>
 ld kparkLot h8 (a12.add ((s7.1 : Int).toNat * 2)) fun t13 =>
 (((decide (s7.1 ≠ s5.1)) = true →
 (((decide (t13.2.1 < 1)) = true →
 park_Rest.j3 Q go9 s7 t13 (true, ()) h8) ∧
 ((decide (t13.2.1 < 1)) = false →
 park_Rest.j3 Q go9 s7 t13 ((decide ((4096 : Int) < t13.2.1)), ()) h8))) ∧
 ((decide (s7.1 ≠ s5.1)) = false →
 park_Rest.j3 Q go9 s7 t13 (false, ()) h8))) ∧
 ((decide (s7.1 < (s5.2.1.len : Int))) = false →
 Q (((s7.2.2.1.1, (s7.2.2.1.2.1, ())), (s7.2.2.1.2.2.1, (s7.2.2.1.2.2.2.1, (s7.2.2.1.2.2.2.2.1, (s7.2.2.1.2.2.2.2.2.1, (s7.2.2.1.2.2.2.2.2.2.1, (s7.2.2.1.2.2.2.2.2.2.2.1, (s7.2.2.1.2.2.2.2.2.2.2.2.1, ())))))))), (s7.2.2.1.2.2.2.2.2.2.2.2.2.1, ((s7.2.2.1.2.2.2.2.2.2.2.2.2.2.1, (s7.2.2.1.2.2.2.2.2.2.2.2.2.2.2.1, ((s7.2.2.1.2.2.2.2.2.2.2.2.2.2.2.2.1, (s7.2.2.1.2.2.2.2.2.2.2.2.2.2.2.2.2.1, ())), (s7.2.2.1.2.2.2.2.2.2.2.2.2.2.2.2.2.2.1, (s7.2.2.1.2.2.2.2.2.2.2.2.2.2.2.2.2.2.2.1, (s7.2.2.1.2.2.2.2.2.2.2.2.2.2.2.2.2.2.2.2.1, (s7.2.2.1.2.2.2.2.2.2.2.2.2.2.2.2.2.2.2.2.2.1, (s7.2.2.1.2.2.2.2.2.2.2.2.2.2.2.2.2.2.2.2.2.2.1, (s7.2.2.1.2.2.2.2.2.2.2.2.2.2.2.2.2.2.2.2.2.2.2.1, (s7.2.2.1.2.2.2.2.2.2.2.2.2.2.2.2.2.2.2.2.2.2.2.2.1, (s7.2.2.1.2.2.2.2.2.2.2.2.2.2.2.2.2.2.2.2.2.2.2.2.2.1, (s7.2.2.1.2.2.2.2.2.2.2.2.2.2.2.2.2.2.2.2.2.2.2.2.2.2.1, (s7.2.2.1.2.2.2.2.2.2.2.2.2.2.2.2.2.2.2.2.2.2.2.2.2.2.2.1, (s7.2.2.1.2.2.2.2.2.2.2.2.2.2.2.2.2.2.2.2.2.2.2.2.2.2.2.2.1, (s7.2.2.1.2.2.2.2.2.2.2.2.2.2.2.2.2.2.2.2.2.2.2.2.2.2.2.2.2.1, ()))))))))))))))), ()))) h8))
def park_Rest.k5 (Q : Den kparkOp → Heap → Prop) (s5 : (Int × (Sl × (Den kparkLot × (Tq0 × Unit))))) (h6 : Heap) : Prop :=
 Loop (park_Rest.l4 Q s5) (0, (s5.2.2.2.1.1, (s5.2.2.2.1.2.1, (s5.2.2.2.1.2.2.1, (s5.2.2.2.1.2.2.2.1, (s5.2.2.2.1.2.2.2.2.1, (s5.2.2.2.1.2.2.2.2.2.1, (s5.2.2.2.1.2.2.2.2.2.2.1, (s5.2.2.2.1.2.2.2.2.2.2.2.1, (s5.2.2.2.1.2.2.2.2.2.2.2.2.1, (s5.2.2.2.1.2.2.2.2.2.2.2.2.2.1, (s5.2.2.2.1.2.2.2.2.2.2.2.2.2.2.1, (s5.2.2.2.1.2.2.2.2.2.2.2.2.2.2.2.1, (s5.2.2.2.1.2.2.2.2.2.2.2.2.2.2.2.2.1, (s5.2.2.2.1.2.2.2.2.2.2.2.2.2.2.2.2.2.1, (s5.2.2.2.1.2.2.2.2.2.2.2.2.2.2.2.2.2.2.1, (s5.2.2.2.1.2.2.2.2.2.2.2.2.2.2.2.2.2.2.2.1, (s5.2.2.2.1.2.2.2.2.2.2.2.2.2.2.2.2.2.2.2.2.1, (s5.2.2.2.1.2.2.2.2.2.2.2.2.2.2.2.2.2.2.2.2.2.1, (s5.2.2.2.1.2.2.2.2.2.2.2.2.2.2.2.2.2.2.2.2.2.2.1, (s5.2.2.2.1.2.2.2.2.2.2.2.2.2.2.2.2.2.2.2.2.2.2.2.1, (s5.2.2.2.1.2.2.2.2.2.2.2.2.2.2.2.2.2.2.2.2.2.2.2.2.1, (s5.2.2.2.1.2.2.2.2.2.2.2.2.2.2.2.2.2.2.2.2.2.2.2.2.2.1, (s5.2.2.2.1.2.2.2.2.2.2.2.2.2.2.2.2.2.2.2.2.2.2.2.2.2.2.1, (s5.2.2.2.1.2.2.2.2.2.2.2.2.2.2.2.2.2.2.2.2.2.2.2.2.2.2.2.1, (s5.2.2.2.1.2.2.2.2.2.2.2.2.2.2.2.2.2.2.2.2.2.2.2.2.2.2.2.2.1, (s5.2.2.2.1.2.2.2.2.2.2.2.2.2.2.2.2.2.2.2.2.2.2.2.2.2.2.2.2.2.1, ())))))))))))))))))))))))))), (s5.2.2.1.1, (s5.2.2.1.2.1, (s5.1, (1, (1, (0, (0, (0, (0, ((fun _ => (0, (0, ()))), (0, (0, (0, (0, (0, (0, (0, (0, (0, (0, (0, (0, (0, (false, (0, (0, ())))))))))))))))))))))))))), ()) h6
def park_Rest.j6 (l1 : Den kparkLot) (self2 : Int) (deques3 : Sl) (Q : Den kparkOp → Heap → Prop) (s18 : (Bool × Unit)) (h19 : Heap) : Prop :=
 ((s18.1 = true →
 Q (((0, (0, ())), (0, (0, (0, (0, (0, (0, (0, ())))))))), ((fun _ => (0, (0, ()))), ((0, (0, ((0, (0, ())), (0, (0, (0, (0, (0, (0, (0, (0, (0, (false, (0, (0, ()))))))))))))))), ()))) h19) ∧
 (s18.1 = false →
 park_Rest.k5 Q (self2, deques3, (l1.1, (l1.2.1, ())), (0, (0, (0, (0, (0, (0, (0, (0, (0, ((fun _ => (0, (0, ()))), (0, (0, (0, (0, (0, (0, (0, (0, (0, (0, (0, (0, (0, (false, (0, (0, ())))))))))))))))))))))))))), ()) h19))
def park_Rest.M (c_park_Lot_right : Cq27) (l1 : Den kparkLot) (self2 : Int) (deques3 : Sl) (h4 : Heap) (Q : Den kparkOp → Heap → Prop) : Prop :=
 c_park_Lot_right (l1.1, (l1.2.1, ())) self2 h4 fun r20 h21 =>
 (((!r20) = true →
 park_Rest.j6 l1 self2 deques3 Q (true, ()) h21) ∧
 ((!r20) = false →
 park_Rest.j6 l1 self2 deques3 Q ((decide ((deques3.len : Int) ≠ l1.2.1)), ()) h21))
def park_Rest.mk : Mk := (.s (.r [0, 1]) (.k [.slot 1 kI, .slot 2 .sl, .box 3 kparkLot, .box 6 (.pair kI (.pair kI (.pair kI (.pair kI (.pair kI (.pair kI (.pair kI (.pair kI (.pair kI (.pair (.arr 64 kparkLot) (.pair kI (.pair kI (.pair kI (.pair kI (.pair kI (.pair kI (.pair kI (.pair kI (.pair kI (.pair kI (.pair kI (.pair kI (.pair kI (.pair .bool kparkLot))))))))))))))))))))))))] [(3, 3, 0), (6, 6, 0)] (.j [.slot 20 .bool] .d (.c (.s .d .d) .d)) (.s (.r [4]) (.s (.s .d (.b (.l [.slot 28 kI, .box 6 (.pair kI (.pair kI (.pair kI (.pair kI (.pair kI (.pair kI (.pair kI (.pair kI (.pair kI (.pair (.arr 64 kparkLot) (.pair kI (.pair kI (.pair kI (.pair kI (.pair kI (.pair kI (.pair kI (.pair kI (.pair kI (.pair kI (.pair kI (.pair kI (.pair kI (.pair .bool kparkLot)))))))))))))))))))))))), .box 7 (.pair kI (.pair kI (.pair kI (.pair kI (.pair kI (.pair kI (.pair kI (.pair kI (.pair kI (.pair (.arr 64 kparkLot) (.pair kI (.pair kI (.pair kI (.pair kI (.pair kI (.pair kI (.pair kI (.pair kI (.pair kI (.pair kI (.pair kI (.pair kI (.pair kI (.pair .bool kparkLot))))))))))))))))))))))))] (.s .d (.s (.c .d .d) (.j [.box 6 (.pair kI (.pair kI (.pair kI (.pair kI (.pair kI (.pair kI (.pair kI (.pair kI (.pair kI (.pair (.arr 64 kparkLot) (.pair kI (.pair kI (.pair kI (.pair kI (.pair kI (.pair kI (.pair kI (.pair kI (.pair kI (.pair kI (.pair kI (.pair kI (.pair kI (.pair .bool kparkLot)))))))))))))))))))))))), .box 7 (.pair kI (.pair kI (.pair kI (.pair kI (.pair kI (.pair kI (.pair kI (.pair kI (.pair kI (.pair (.arr 64 kparkLot) (.pair kI (.pair kI (.pair kI (.pair kI (.pair kI (.pair kI (.pair kI (.pair kI (.pair kI (.pair kI (.pair kI (.pair kI (.pair kI (.pair .bool kparkLot))))))))))))))))))))))))] (.b (.s (.r [3]) (.j [.box 6 (.pair kI (.pair kI (.pair kI (.pair kI (.pair kI (.pair kI (.pair kI (.pair kI (.pair kI (.pair (.arr 64 kparkLot) (.pair kI (.pair kI (.pair kI (.pair kI (.pair kI (.pair kI (.pair kI (.pair kI (.pair kI (.pair kI (.pair kI (.pair kI (.pair kI (.pair .bool kparkLot))))))))))))))))))))))))] (.j [.slot 45 .bool] .d (.c (.s .d .d) .d)) .d))) .d)))))) (.s .d .d)))))

def park_Wake.M (c_park_Lot_right : Cq27) (l1 : Den kparkLot) (self2 : Int) (h3 : Heap) (Q : Den kparkOp → Heap → Prop) : Prop :=
 c_park_Lot_right (l1.1, (l1.2.1, ())) self2 h3 fun r4 h5 =>
 (((!r4) = true →
 Q (((0, (0, ())), (0, (0, (0, (0, (0, (0, (0, ())))))))), ((fun _ => (0, (0, ()))), ((0, (0, ((0, (0, ())), (0, (0, (0, (0, (0, (0, (0, (0, (0, (false, (0, (0, ()))))))))))))))), ()))) h5) ∧
 ((!r4) = false →
 Q (((l1.1, (l1.2.1, ())), (self2, (2, (8, (1, (0, (0, (0, ())))))))), ((fun _ => (0, (0, ()))), ((0, (0, ((0, (0, ())), (0, (0, (0, (0, (0, (0, (0, (0, (0, (false, (0, (0, ()))))))))))))))), ()))) h5))
def park_Wake.mk : Mk := (.s (.r [0, 1]) (.s (.s .d (.c (.s .d .d) .d)) (.s .d .d)))

def park_Finish.M (c_park_Lot_right : Cq27) (l1 : Den kparkLot) (self2 : Int) (h3 : Heap) (Q : Den kparkOp → Heap → Prop) : Prop :=
 c_park_Lot_right (l1.1, (l1.2.1, ())) self2 h3 fun r4 h5 =>
 (((!r4) = true →
 Q (((0, (0, ())), (0, (0, (0, (0, (0, (0, (0, ())))))))), ((fun _ => (0, (0, ()))), ((0, (0, ((0, (0, ())), (0, (0, (0, (0, (0, (0, (0, (0, (0, (false, (0, (0, ()))))))))))))))), ()))) h5) ∧
 ((!r4) = false →
 Q (((l1.1, (l1.2.1, ())), (self2, (4, (10, (1, (0, (0, (0, ())))))))), ((fun _ => (0, (0, ()))), ((0, (0, ((0, (0, ())), (0, (0, (0, (0, (0, (0, (0, (0, (0, (false, (0, (0, ()))))))))))))))), ()))) h5))
def park_Finish.mk : Mk := (.s (.r [0, 1]) (.s (.s .d (.c (.s .d .d) .d)) (.s .d .d)))

def park_state_over.M  (s1 : Option Addr) (code2 : Int) (v3 : Int) (h4 : Heap) (Q : Unit → Heap → Prop) : Prop :=
 deref s1 fun a5 =>
 st kI h4 (a5.add 4) 0 fun h6 =>
 deref s1 fun a7 =>
 st kI h6 (a7.add 7) code2 fun h8 =>
 deref s1 fun a9 =>
 st kI h8 (a9.add 8) v3 fun h10 =>
 Q () h10
def park_state_over.mk : Mk := .d

def park_Op_looked.j1 (Q : Den kparkOp → Heap → Prop) (p4 : Addr) (s13 : (Tq0 × Unit)) (h14 : Heap) : Prop :=
 ld kparkOp h14 p4 fun t15 =>
 Q (((t15.1.1.1, (t15.1.1.2.1, ())), (t15.1.2.1, (t15.1.2.2.1, (t15.1.2.2.2.1, (t15.1.2.2.2.2.1, (t15.1.2.2.2.2.2.1, (t15.1.2.2.2.2.2.2.1, (t15.1.2.2.2.2.2.2.2.1, ())))))))), (t15.2.1, ((t15.2.2.1.1, (t15.2.2.1.2.1, ((t15.2.2.1.2.2.1.1, (t15.2.2.1.2.2.1.2.1, ())), (t15.2.2.1.2.2.2.1, (t15.2.2.1.2.2.2.2.1, (t15.2.2.1.2.2.2.2.2.1, (t15.2.2.1.2.2.2.2.2.2.1, (t15.2.2.1.2.2.2.2.2.2.2.1, (t15.2.2.1.2.2.2.2.2.2.2.2.1, (t15.2.2.1.2.2.2.2.2.2.2.2.2.1, (t15.2.2.1.2.2.2.2.2.2.2.2.2.2.1, (t15.2.2.1.2.2.2.2.2.2.2.2.2.2.2.1, (t15.2.2.1.2.2.2.2.2.2.2.2.2.2.2.2.1, (t15.2.2.1.2.2.2.2.2.2.2.2.2.2.2.2.2.1, (t15.2.2.1.2.2.2.2.2.2.2.2.2.2.2.2.2.2.1, ()))))))))))))))), ()))) h14
def park_Op_looked.M (c_deque_Step : Cq7) (c_deque_Answer : Cq9) (c_park_state_back : Cq2) (c_park_Op_around : Den kparkOp → Heap → (Den kparkOp → Heap → Prop) → Prop) (c_park_state_over : Cq1) (o1 : Den kparkOp) (m2 : Value) (h3 : Heap) (Q : Den kparkOp → Heap → Prop) : Prop :=
 new h3 (kparkOp.cells o1) fun p4 h5 =>
 ld kdequeOp h5 (p4.add 137) fun t6 =>
 c_deque_Step m2 t6 h5 fun r7 h8 =>
 st kdequeOp h8 (p4.add 137) r7 fun h9 =>
 ld kdequeOp h9 (p4.add 137) fun t10 =>
 c_deque_Answer t10 h9 fun r11 h12 =>
 (((decide (r11.1 = 0)) = true →
 park_Op_looked.j1 Q p4 ((0, (0, (0, (0, (0, (0, (0, (0, (0, ((fun _ => (0, (0, ()))), (0, (0, (0, (0, (0, (0, (0, (0, (0, (0, (0, (0, (0, (false, (0, (0, ())))))))))))))))))))))))))), ()) h12) ∧
 ((decide (r11.1 = 0)) = false →
 (((decide (r11.1 = 7)) = true →
 c_park_state_back (some (p4.add 0)) 16 h12 fun r16 h17 =>
 park_Op_looked.j1 Q p4 ((0, (0, (0, (0, (0, (0, (0, (0, (0, ((fun _ => (0, (0, ()))), (0, (0, (0, (0, (0, (0, (0, (0, (0, (0, (0, (0, (0, (false, (0, (0, ())))))))))))))))))))))))))), ()) h17) ∧
 ((decide (r11.1 = 7)) = false →
 (((decide (r11.1 = 8)) = true →
 ld kparkOp h12 p4 fun t18 =>
 c_park_Op_around t18 h12 fun r19 h20 =>
 Q (((r19.1.1.1, (r19.1.1.2.1, ())), (r19.1.2.1, (r19.1.2.2.1, (r19.1.2.2.2.1, (r19.1.2.2.2.2.1, (r19.1.2.2.2.2.2.1, (r19.1.2.2.2.2.2.2.1, (r19.1.2.2.2.2.2.2.2.1, ())))))))), (r19.2.1, ((r19.2.2.1.1, (r19.2.2.1.2.1, ((r19.2.2.1.2.2.1.1, (r19.2.2.1.2.2.1.2.1, ())), (r19.2.2.1.2.2.2.1, (r19.2.2.1.2.2.2.2.1, (r19.2.2.1.2.2.2.2.2.1, (r19.2.2.1.2.2.2.2.2.2.1, (r19.2.2.1.2.2.2.2.2.2.2.1, (r19.2.2.1.2.2.2.2.2.2.2.2.1, (r19.2.2.1.2.2.2.2.2.2.2.2.2.1, (r19.2.2.1.2.2.2.2.2.2.2.2.2.2.1, (r19.2.2.1.2.2.2.2.2.2.2.2.2.2.2.1, (r19.2.2.1.2.2.2.2.2.2.2.2.2.2.2.2.1, (r19.2.2.1.2.2.2.2.2.2.2.2.2.2.2.2.2.1, (r19.2.2.1.2.2.2.2.2.2.2.2.2.2.2.2.2.2.1, ()))))))))))))))), ()))) h20) ∧
 ((decide (r11.1 = 8)) = false →
 c_park_state_over (some (p4.add 0)) 1 0 h12 fun r21 h22 =>
 park_Op_looked.j1 Q p4 ((0, (0, (0, (0, (0, (0, (0, (0, (0, ((fun _ => (0, (0, ()))), (0, (0, (0, (0, (0, (0, (0, (0, (0, (0, (0, (0, (0, (false, (0, (0, ())))))))))))))))))))))))))), ()) h22))))))
def park_Op_looked.mk : Mk := (.s (.r [1]) (.s .d (.s .d (.j [.box 4 (.pair kI (.pair kI (.pair kI (.pair kI (.pair kI (.pair kI (.pair kI (.pair kI (.pair kI (.pair (.arr 64 kparkLot) (.pair kI (.pair kI (.pair kI (.pair kI (.pair kI (.pair kI (.pair kI (.pair kI (.pair kI (.pair kI (.pair kI (.pair kI (.pair kI (.pair .bool kparkLot))))))))))))))))))))))))] (.s .d (.b (.s .d (.c .d (.s .d (.c .d (.s .d (.c (.s .d .d) .d)))))))) (.s .d .d)))))

def park_state_access.M (c_park_state_flag : Cq11) (c_inv_Store : Cq28) (c_inv_Add : Value → Int → Int → Heap → (Den kparkLot → Heap → Prop) → Prop) (c_inv_Load : Cq6) (c_fn : Cq6) (c_park_state_other : Option Addr → Heap → (Int → Heap → Prop) → Prop) (c_nil : Value → Prop) (s1 : Option Addr) (m2 : Value) (h3 : Heap) (Q : Den kparkLot → Heap → Prop) : Prop :=
 new h3 ((.ptr : Kd).cells s1) fun p4 h5 =>
 ones (.iface : Kd) m2 ∧
 new h5 ((.iface : Kd).cells m2) fun p6 h7 =>
 ld (.ptr : Kd) h7 p4 fun t8 =>
 deref t8 fun a9 =>
 ld kI h7 (a9.add 4) fun t10 =>
 (((decide (t10 = 1)) = true →
 ld (.iface : Kd) h7 p6 fun t11 =>
 c_nil (Value.func (.method "Store") (List.toArray [Kd.val (.iface : Kd) t11]) (List.toArray [])) ∧
 ld (.ptr : Kd) h7 p4 fun t12 =>
 ld (.ptr : Kd) h7 p4 fun t13 =>
 deref t13 fun a14 =>
 ld kI h7 (a14.add 2) fun t15 =>
 c_park_state_flag t12 t15 h7 fun r16 h17 =>
 sees h17 (some p6) (.iface : Kd) t11 ∧
 c_inv_Store t11 r16 1 h17 fun r18 h19 =>
 Q (0, r18, ()) h19) ∧
 ((decide (t10 = 1)) = false →
 (((decide (t10 = 2)) = true →
 ld (.iface : Kd) h7 p6 fun t20 =>
 c_nil (Value.func (.method "Add") (List.toArray [Kd.val (.iface : Kd) t20]) (List.toArray [])) ∧
 ld (.ptr : Kd) h7 p4 fun t21 =>
 deref t21 fun a22 =>
 ld kI h7 ((a22.add 0).add 0) fun t23 =>
 c_inv_Add t20 (w64 (t23 + 0)) 1 h7 fun r24 h25 =>
 Q (r24.1, r24.2.1, ()) h25) ∧
 ((decide (t10 = 2)) = false →
 (((decide (t10 = 3)) = true →
 ld (.iface : Kd) h7 p6 fun t26 =>
 c_nil (Value.func (.method "Load") (List.toArray [Kd.val (.iface : Kd) t26]) (List.toArray [])) ∧
 ld (.ptr : Kd) h7 p4 fun t27 =>
 deref t27 fun a28 =>
 ld kI h7 ((a28.add 0).add 0) fun t29 =>
 c_inv_Load t26 (w64 (t29 + 1)) h7 fun r30 h31 =>
 Q (r30.1, r30.2.1, ()) h31) ∧
 ((decide (t10 = 3)) = false →
 (((decide (t10 = 5)) = true →
 ld (.iface : Kd) h7 p6 fun t32 =>
 c_nil (Value.func (.method "Load") (List.toArray [Kd.val (.iface : Kd) t32]) (List.toArray [])) ∧
 ld (.ptr : Kd) h7 p4 fun t33 =>
 ld (.ptr : Kd) h7 p4 fun t34 =>
 deref t34 fun a35 =>
 ld kI h7 (a35.add 2) fun t36 =>
 c_park_state_flag t33 t36 h7 fun r37 h38 =>
 sees h38 (some p6) (.iface : Kd) t32 ∧
 c_inv_Load t32 r37 h38 fun r39 h40 =>
 Q (r39.1, r39.2.1, ()) h40) ∧
 ((decide (t10 = 5)) = false →
 (((decide (t10 = 6)) = true →
 ld (.ptr : Kd) h7 p4 fun t41 =>
 deref t41 fun a42 =>
 ld kI h7 (a42.add 2) fun t43 =>
 c_fn (Value.func (.func 67) (List.toArray []) (List.toArray [Kd.val (.ptr : Kd) (some p6), Kd.val (.ptr : Kd) (some p4)])) t43 h7 fun r44 h45 =>
 Q (r44.1, r44.2.1, ()) h45) ∧
 ((decide (t10 = 6)) = false →
 (((decide (t10 = 7)) = true →
 ld (.iface : Kd) h7 p6 fun t46 =>
 c_nil (Value.func (.method "Add") (List.toArray [Kd.val (.iface : Kd) t46]) (List.toArray [])) ∧
 ld (.ptr : Kd) h7 p4 fun t47 =>
 deref t47 fun a48 =>
 ld kI h7 ((a48.add 0).add 0) fun t49 =>
 c_inv_Add t46 (w64 (t49 + 0)) (-1) h7 fun r50 h51 =>
 Q (r50.1, r50.2.1, ()) h51) ∧
 ((decide (t10 = 7)) = false →
 (((decide (t10 = 8)) = true →
 ld (.iface : Kd) h7 p6 fun t52 =>
 c_nil (Value.func (.method "Load") (List.toArray [Kd.val (.iface : Kd) t52]) (List.toArray [])) ∧
 ld (.ptr : Kd) h7 p4 fun t53 =>
 deref t53 fun a54 =>
 ld kI h7 ((a54.add 0).add 0) fun t55 =>
 c_inv_Load t52 (w64 (t55 + 0)) h7 fun r56 h57 =>
 Q (r56.1, r56.2.1, ()) h57) ∧
 ((decide (t10 = 8)) = false →
 (((decide (t10 = 9)) = true →
 ld (.ptr : Kd) h7 p4 fun t58 =>
 c_park_state_other t58 h7 fun r59 h60 =>
 c_fn (Value.func (.func 67) (List.toArray []) (List.toArray [Kd.val (.ptr : Kd) (some p6), Kd.val (.ptr : Kd) (some p4)])) r59 h60 fun r61 h62 =>
 Q (r61.1, r61.2.1, ()) h62) ∧
 ((decide (t10 = 9)) = false →
 ld (.iface : Kd) h7 p6 fun t63 =>
 c_nil (Value.func (.method "Store") (List.toArray [Kd.val (.iface : Kd) t63]) (List.toArray [])) ∧
 ld (.ptr : Kd) h7 p4 fun t64 =>
 deref t64 fun a65 =>
 ld kI h7 ((a65.add 0).add 0) fun t66 =>
 c_inv_Store t63 (w64 (t66 + 1)) 1 h7 fun r67 h68 =>
 Q (0, r67, ()) h68))))))))))))))))
def park_state_access.mk : Mk := (.s .d (.s .d (.s (.s .d (.b (.s .d (.c (.s (.q [] [] [.w 0 [0, 7, 8, 9, 10, 11, 12], .p 7, .p 8, .p 9, .w 1 [1, 6, 10, 11, 12], .w 2 [2, 3, 4, 5, 6, 10, 11, 12], .p 3, .p 4, .w 5 [5, 6, 10, 11, 12], .o 6, .o 10, .p 11, .p 12]) .d) (.s .d (.c (.s (.q [] [] [.w 0 [0, 7, 8, 9, 10, 11, 12, 13, 14], .p 7, .p 8, .p 9, .w 1 [1, 2, 3, 4, 5, 6, 10, 11, 12, 13, 14], .p 2, .p 3, .p 4, .w 5 [5, 6, 10, 11, 12, 13, 14], .p 6, .o 10, .p 11, .p 12, .p 13, .p 14]) .d) (.s .d (.c (.s (.q [] [] [.w 0 [0, 7, 8, 9, 10, 11, 12, 13, 14], .p 7, .p 8, .p 9, .w 1 [1, 2, 3, 4, 5, 6, 10, 11, 12, 13, 14], .p 2, .p 3, .p 4, .w 5 [5, 6, 10, 11, 12, 13, 14], .p 6, .o 10, .p 11, .p 12, .p 13, .p 14]) .d) (.s .d (.c (.s (.q [] [] [.w 0 [0, 7, 8, 9, 10, 11, 12, 13, 14], .p 7, .p 8, .p 9, .w 1 [1, 6, 10, 11, 12, 13, 14], .w 2 [2, 3, 4, 5, 6, 10, 11, 12, 13, 14], .p 3, .p 4, .w 5 [5, 6, 10, 11, 12, 13, 14], .o 6, .o 10, .p 11, .p 12, .p 13, .p 14]) .d) (.s .d (.c (.s .d .d) (.s .d (.c (.s (.q [] [] [.w 0 [0, 7, 8, 9, 10, 11, 12, 13, 14], .p 7, .p 8, .p 9, .w 1 [1, 2, 3, 4, 5, 6, 10, 11, 12, 13, 14], .p 2, .p 3, .p 4, .w 5 [5, 6, 10, 11, 12, 13, 14], .p 6, .o 10, .p 11, .p 12, .p 13, .p 14]) .d) (.s .d (.c (.s (.q [] [] [.w 0 [0, 7, 8, 9, 10, 11, 12, 13, 14], .p 7, .p 8, .p 9, .w 1 [1, 2, 3, 4, 5, 6, 10, 11, 12, 13, 14], .p 2, .p 3, .p 4, .w 5 [5, 6, 10, 11, 12, 13, 14], .p 6, .o 10, .p 11, .p 12, .p 13, .p 14]) .d) (.s .d (.c (.s .d .d) .d)))))))))))))))))) (.s (.q [] [] [.w 0 [0, 7, 8, 9, 10, 11, 12], .p 7, .p 8, .p 9, .w 1 [1, 2, 3, 4, 5, 6, 10, 11, 12], .p 2, .p 3, .p 4, .w 5 [5, 6, 10, 11, 12], .p 6, .o 10, .p 11, .p 12]) .d))))

def park_Op_rested.j1 (Q : Den kparkOp → Heap → Prop) (p4 : Addr) (s6 : (Tq0 × Unit)) (h7 : Heap) : Prop :=
 ld kparkOp h7 p4 fun t8 =>
 Q (((t8.1.1.1, (t8.1.1.2.1, ())), (t8.1.2.1, (t8.1.2.2.1, (t8.1.2.2.2.1, (t8.1.2.2.2.2.1, (t8.1.2.2.2.2.2.1, (t8.1.2.2.2.2.2.2.1, (t8.1.2.2.2.2.2.2.2.1, ())))))))), (t8.2.1, ((t8.2.2.1.1, (t8.2.2.1.2.1, ((t8.2.2.1.2.2.1.1, (t8.2.2.1.2.2.1.2.1, ())), (t8.2.2.1.2.2.2.1, (t8.2.2.1.2.2.2.2.1, (t8.2.2.1.2.2.2.2.2.1, (t8.2.2.1.2.2.2.2.2.2.1, (t8.2.2.1.2.2.2.2.2.2.2.1, (t8.2.2.1.2.2.2.2.2.2.2.2.1, (t8.2.2.1.2.2.2.2.2.2.2.2.2.1, (t8.2.2.1.2.2.2.2.2.2.2.2.2.2.1, (t8.2.2.1.2.2.2.2.2.2.2.2.2.2.2.1, (t8.2.2.1.2.2.2.2.2.2.2.2.2.2.2.2.1, (t8.2.2.1.2.2.2.2.2.2.2.2.2.2.2.2.2.1, (t8.2.2.1.2.2.2.2.2.2.2.2.2.2.2.2.2.2.1, ()))))))))))))))), ()))) h7
def park_Op_rested.M (c_park_Op_around : Den kparkOp → Heap → (Den kparkOp → Heap → Prop) → Prop) (c_park_state_back : Cq2) (c_park_state_over : Cq1) (o1 : Den kparkOp) (got2 : Int) (h3 : Heap) (Q : Den kparkOp → Heap → Prop) : Prop :=
 new h3 (kparkOp.cells o1) fun p4 h5 =>
 ld kI h5 ((p4.add 0).add 4) fun t9 =>
 (((decide (t9 = 1)) = true →
 st kI h5 ((p4.add 0).add 4) 2 fun h10 =>
 park_Op_rested.j1 Q p4 ((0, (0, (0, (0, (0, (0, (0, (0, (0, ((fun _ => (0, (0, ()))), (0, (0, (0, (0, (0, (0, (0, (0, (0, (0, (0, (0, (0, (false, (0, (0, ())))))))))))))))))))))))))), ()) h10) ∧
 ((decide (t9 = 1)) = false →
 (((decide (t9 = 2)) = true →
 st kI h5 ((p4.add 0).add 4) 3 fun h11 =>
 park_Op_rested.j1 Q p4 ((0, (0, (0, (0, (0, (0, (0, (0, (0, ((fun _ => (0, (0, ()))), (0, (0, (0, (0, (0, (0, (0, (0, (0, (0, (0, (0, (0, (false, (0, (0, ())))))))))))))))))))))))))), ()) h11) ∧
 ((decide (t9 = 2)) = false →
 (((decide (t9 = 3)) = true →
 (((decide (got2 ≠ 1)) = true →
 ld kparkOp h5 p4 fun t12 =>
 c_park_Op_around t12 h5 fun r13 h14 =>
 Q (((r13.1.1.1, (r13.1.1.2.1, ())), (r13.1.2.1, (r13.1.2.2.1, (r13.1.2.2.2.1, (r13.1.2.2.2.2.1, (r13.1.2.2.2.2.2.1, (r13.1.2.2.2.2.2.2.1, (r13.1.2.2.2.2.2.2.2.1, ())))))))), (r13.2.1, ((r13.2.2.1.1, (r13.2.2.1.2.1, ((r13.2.2.1.2.2.1.1, (r13.2.2.1.2.2.1.2.1, ())), (r13.2.2.1.2.2.2.1, (r13.2.2.1.2.2.2.2.1, (r13.2.2.1.2.2.2.2.2.1, (r13.2.2.1.2.2.2.2.2.2.1, (r13.2.2.1.2.2.2.2.2.2.2.1, (r13.2.2.1.2.2.2.2.2.2.2.2.1, (r13.2.2.1.2.2.2.2.2.2.2.2.2.1, (r13.2.2.1.2.2.2.2.2.2.2.2.2.2.1, (r13.2.2.1.2.2.2.2.2.2.2.2.2.2.2.1, (r13.2.2.1.2.2.2.2.2.2.2.2.2.2.2.2.1, (r13.2.2.1.2.2.2.2.2.2.2.2.2.2.2.2.2.1, (r13.2.2.1.2.2.2.2.2.2.2.2.2.2.2.2.2.2.1, ()))))))))))))))), ()))) h14) ∧
 ((decide (got2 ≠ 1)) = false →
 c_park_state_back (some (p4.add 0)) 17 h5 fun r15 h16 =>
 park_Op_rested.j1 Q p4 ((0, (0, (0, (0, (0, (0, (0, (0, (0, ((fun _ => (0, (0, ()))), (0, (0, (0, (0, (0, (0, (0, (0, (0, (0, (0, (0, (0, (false, (0, (0, ())))))))))))))))))))))))))), ()) h16))) ∧
 ((decide (t9 = 3)) = false →
 (((decide (t9 = 5)) = true →
 (((decide (got2 ≠ 1)) = true →
 c_park_state_over (some (p4.add 0)) 16 0 h5 fun r17 h18 =>
 park_Op_rested.j1 Q p4 ((0, (0, (0, (0, (0, (0, (0, (0, (0, ((fun _ => (0, (0, ()))), (0, (0, (0, (0, (0, (0, (0, (0, (0, (0, (0, (0, (0, (false, (0, (0, ())))))))))))))))))))))))))), ()) h18) ∧
 ((decide (got2 ≠ 1)) = false →
 park_Op_rested.j1 Q p4 ((0, (0, (0, (0, (0, (0, (0, (0, (0, ((fun _ => (0, (0, ()))), (0, (0, (0, (0, (0, (0, (0, (0, (0, (0, (0, (0, (0, (false, (0, (0, ())))))))))))))))))))))))))), ()) h5))) ∧
 ((decide (t9 = 5)) = false →
 (((decide (t9 = 6)) = true →
 st kI h5 ((p4.add 0).add 4) 7 fun h19 =>
 (((decide (got2 ≠ 1)) = true →
 ld kI h19 ((p4.add 0).add 6) fun t20 =>
 c_park_state_over (some (p4.add 0)) t20 0 h19 fun r21 h22 =>
 park_Op_rested.j1 Q p4 ((0, (0, (0, (0, (0, (0, (0, (0, (0, ((fun _ => (0, (0, ()))), (0, (0, (0, (0, (0, (0, (0, (0, (0, (0, (0, (0, (0, (false, (0, (0, ())))))))))))))))))))))))))), ()) h22) ∧
 ((decide (got2 ≠ 1)) = false →
 park_Op_rested.j1 Q p4 ((0, (0, (0, (0, (0, (0, (0, (0, (0, ((fun _ => (0, (0, ()))), (0, (0, (0, (0, (0, (0, (0, (0, (0, (0, (0, (0, (0, (false, (0, (0, ())))))))))))))))))))))))))), ()) h19))) ∧
 ((decide (t9 = 6)) = false →
 (((decide (t9 = 7)) = true →
 ld kI h5 ((p4.add 0).add 6) fun t23 =>
 c_park_state_over (some (p4.add 0)) t23 0 h5 fun r24 h25 =>
 park_Op_rested.j1 Q p4 ((0, (0, (0, (0, (0, (0, (0, (0, (0, ((fun _ => (0, (0, ()))), (0, (0, (0, (0, (0, (0, (0, (0, (0, (0, (0, (0, (0, (false, (0, (0, ())))))))))))))))))))))))))), ()) h25) ∧
 ((decide (t9 = 7)) = false →
 park_Op_rested.j1 Q p4 ((0, (0, (0, (0, (0, (0, (0, (0, (0, ((fun _ => (0, (0, ()))), (0, (0, (0, (0, (0, (0, (0, (0, (0, (0, (0, (0, (0, (false, (0, (0, ())))))))))))))))))))))))))), ()) h5))))))))))))
def park_Op_rested.mk : Mk := (.s (.r [1]) (.j [.box 4 (.pair kI (.pair kI (.pair kI (.pair kI (.pair kI (.pair kI (.pair kI (.pair kI (.pair kI (.pair (.arr 64 kparkLot) (.pair kI (.pair kI (.pair kI (.pair kI (.pair kI (.pair kI (.pair kI (.pair kI (.pair kI (.pair kI (.pair kI (.pair kI (.pair kI (.pair .bool kparkLot))))))))))))))))))))))))] (.s .d (.b (.s .d (.c .d (.s .d (.c .d (.s .d (.c (.s (.s .d (.c (.s .d .d) .d)) .d) (.s .d (.c (.s .d (.c .d .d)) (.s .d (.c (.s .d (.s .d (.c .d .d))) (.s .d (.c .d .d)))))))))))))) (.s .d .d)))

def park_state_woken.j1 (c_park_state_over : Cq1) (s1 : Option Addr) (Q : Unit → Heap → Prop) (s8 : (Bool × Unit)) (h9 : Heap) : Prop :=
 ((s8.1 = true →
 c_park_state_over s1 19 0 h9 fun r10 h11 =>
 Q () h11) ∧
 (s8.1 = false →
 Q () h9))
def park_state_woken.M (c_park_state_over : Cq1) (c_park_state_other : Option Addr → Heap → (Int → Heap → Prop) → Prop) (s1 : Option Addr) (got2 : Int) (h3 : Heap) (Q : Unit → Heap → Prop) : Prop :=
 deref s1 fun a4 =>
 ld kI h3 (a4.add 4) fun t5 =>
 (((decide (t5 = 8)) = true →
 deref s1 fun a6 =>
 st kI h3 (a6.add 4) 9 fun h7 =>
 (((decide (got2 ≤ 0)) = true →
 park_state_woken.j1 c_park_state_over s1 Q (true, ()) h7) ∧
 ((decide (got2 ≤ 0)) = false →
 deref s1 fun a12 =>
 ld kI h7 ((a12.add 0).add 1) fun t13 =>
 park_state_woken.j1 c_park_state_over s1 Q ((decide (t13 = 1)), ()) h7))) ∧
 ((decide (t5 = 8)) = false →
 (((decide (t5 = 9)) = true →
 (((decide (got2 = 1)) = true →
 deref s1 fun a14 =>
 st kI h3 (a14.add 4) 7 fun h15 =>
 Q () h15) ∧
 ((decide (got2 = 1)) = false →
 deref s1 fun a16 =>
 ld kI h3 (a16.add 5) fun t17 =>
 deref s1 fun a18 =>
 st kI h3 (a18.add 5) (w64 (t17 + 1)) fun h19 =>
 deref s1 fun a20 =>
 deref s1 fun a21 =>
 ld kI h19 (a20.add 5) fun t22 =>
 ld kI h19 ((a21.add 0).add 1) fun t23 =>
 (((decide (t22 = t23)) = true →
 c_park_state_over s1 19 0 h19 fun r24 h25 =>
 Q () h25) ∧
 ((decide (t22 = t23)) = false →
 Q () h19))))) ∧
 ((decide (t5 = 9)) = false →
 (((decide (t5 = 7)) = true →
 c_park_state_other s1 h3 fun r26 h27 =>
 c_park_state_over s1 18 r26 h27 fun r28 h29 =>
 Q () h29) ∧
 ((decide (t5 = 7)) = false →
 Q () h3))))))
def park_state_woken.mk : Mk := (.s .d (.b (.s .d (.c (.s .d (.j [.slot 22 .bool] .d (.c .d .d))) (.s .d (.c (.s (.s .d (.c (.s .d .d) .d)) (.s .d (.s (.q [] [] [.p 0, .p 1, .p 2, .p 4, .p 5, .p 6, .p 7, .w 3 [3, 9], .w 8 [8, 9], .p 9]) (.c .d .d)))) (.s .d (.c .d .d))))))))

def park_state_finished.j1 (c_park_state_over : Cq1) (s1 : Option Addr) (Q : Unit → Heap → Prop) (s4 : Unit) (h5 : Heap) : Prop :=
 deref s1 fun a6 =>
 deref s1 fun a7 =>
 ld kI h5 (a6.add 5) fun t8 =>
 ld kI h5 ((a7.add 0).add 1) fun t9 =>
 (((decide (t9 ≤ t8)) = true →
 c_park_state_over s1 20 0 h5 fun r10 h11 =>
 Q () h11) ∧
 ((decide (t9 ≤ t8)) = false →
 Q () h5))
def park_state_finished.j2 (c_park_state_over : Cq1) (s1 : Option Addr) (Q : Unit → Heap → Prop) (s16 : (Bool × Unit)) (h17 : Heap) : Prop :=
 ((s16.1 = true →
 deref s1 fun a18 =>
 st kI h17 (a18.add 4) 7 fun h19 =>
 Q () h19) ∧
 (s16.1 = false →
 deref s1 fun a20 =>
 st kI h17 (a20.add 4) 9 fun h21 =>
 deref s1 fun a22 =>
 ld kI h21 (a22.add 5) fun t23 =>
 deref s1 fun a24 =>
 st kI h21 (a24.add 5) (w64 (t23 + 1)) fun h25 =>
 park_state_finished.j1 c_park_state_over s1 Q () h25))
def park_state_finished.M (c_park_state_over : Cq1) (s1 : Option Addr) (got2 : Int) (h3 : Heap) (Q : Unit → Heap → Prop) : Prop :=
 deref s1 fun a12 =>
 ld kI h3 (a12.add 4) fun t13 =>
 (((decide (t13 = 10)) = true →
 deref s1 fun a14 =>
 st kI h3 (a14.add 4) 9 fun h15 =>
 park_state_finished.j1 c_park_state_over s1 Q () h15) ∧
 ((decide (t13 = 10)) = false →
 deref s1 fun a26 =>
 ld kI h3 (a26.add 4) fun t27 =>
 (((decide (t27 = 9)) = true →
 park_state_finished.j2 c_park_state_over s1 Q ((decide (got2 = 1)), ()) h3) ∧
 ((decide (t27 = 9)) = false →
 park_state_finished.j2 c_park_state_over s1 Q (false, ()) h3))))
def park_state_finished.mk : Mk := (.j [] (.b (.s .d (.c .d (.j [.slot 23 .bool] .d (.c (.s .d .d) (.s .d .d)))))) (.s (.q [] [] [.p 0, .p 1, .p 2, .p 4, .p 5, .p 6, .p 7, .w 3 [3, 9], .w 8 [8, 9], .p 9]) (.c .d .d)))

def cells_Arena_outside.M (c_cells_ledger_has : Cq17) (a1 : Option Addr) (addr2 : Int) (h3 : Heap) (Q : Bool → Heap → Prop) : Prop :=
 (((Option.isNone a1) = true →
 Q true h3) ∧
 ((Option.isNone a1) = false →
 deref a1 fun a4 =>
 c_cells_ledger_has (some (a4.add 0)) addr2 h3 fun r5 h6 =>
 Q (!r5) h6))
def cells_Arena_outside.mk : Mk := (.s .d (.s .d .d))

def cells_Arena_note.M  (a1 : Option Addr) (kind2 : Int) (addr3 : Int) (x4 : Int) (y5 : Int) (ok6 : Bool) (h7 : Heap) (Q : Unit → Heap → Prop) : Prop :=
 deref a1 fun a8 =>
 ld (.bool : Kd) h7 (a8.add 5) fun t9 =>
 ((t9 = true →
 deref a1 fun a10 =>
 deref a1 fun a11 =>
 ld (.sl : Kd) h7 (a10.add 3) fun t12 =>
 ld kI h7 (a11.add 4) fun t13 =>
 new h7 (([(t13, (kind2, (addr3, (x4, (y5, (ok6, ()))))))] : List (Den kapiAccess)).flatMap (Kd.cells kapiAccess)) fun p14 h15 =>
 appendM 6 48 h15 t12 ⟨some p14, 1, 1⟩ fun t16 h17 =>
 deref a1 fun a18 =>
 st (.sl : Kd) h17 (a18.add 3) t16 fun h19 =>
 Q () h19) ∧
 (t9 = false →
 Q () h7))
def cells_Arena_note.mk : Mk := (.s .d (.c (.q [] [] [.p 0, .p 1, .p 2, .p 3, .p 5, .p 6, .p 7, .p 9, .p 10, .p 11, .p 12, .p 13, .w 4 [4, 16, 17, 18, 19], .w 8 [8, 14, 15, 16, 17, 18, 19], .p 14, .o 15, .o 16, .p 17, .p 18, .o 19]) .d))

def park_judged.j1 (go11 : (Int × Unit) → Heap → Prop) (s9 : (Int × Unit)) (s12 : Unit) (h13 : Heap) : Prop :=
 go11 ((w64 (s9.1 + 1)), ()) h13
def park_judged.j2 (Q : Int → Heap → Prop) (go11 : (Int × Unit) → Heap → Prop) (s9 : (Int × Unit)) (s16 : (Bool × Unit)) (h17 : Heap) : Prop :=
 ((s16.1 = true →
 Q 31 h17) ∧
 (s16.1 = false →
 park_judged.j1 go11 s9 () h17))
def park_judged.l3 (todos4 : Sl) (Q : Int → Heap → Prop) (go11 : (Int × Unit) → Heap → Prop) (s9 : (Int × Unit)) (h10 : Heap) : Prop :=
 (((decide (s9.1 < (todos4.len : Int))) = true →
 (0 ≤ s9.1 ∧ s9.1 < (todos4.len : Int)) ∧
 deref todos4.a fun a14 =>
 ld kparkLot h10 (a14.add ((s9.1 : Int).toNat * 2)) fun t15 =>
 (((decide (t15.1 ≠ 0)) = true →
 (((decide (t15.1 ≠ 1)) = true →
 park_judged.j2 Q go11 s9 ((decide (t15.1 ≠ 3)), ()) h10) ∧
 ((decide (t15.1 ≠ 1)) = false →
 park_judged.j2 Q go11 s9 (false, ()) h10))) ∧
 ((decide (t15.1 ≠ 0)) = false →
 park_judged.j2 Q go11 s9 (false, ()) h10))) ∧
 ((decide (s9.1 < (todos4.len : Int))) = false →
 Q 0 h10))
def park_judged.j4 (todos4 : Sl) (Q : Int → Heap → Prop) (s7 : Unit) (h8 : Heap) : Prop :=
 Loop (park_judged.l3 todos4 Q) (0, ()) h8
def park_judged.j5 (todos4 : Sl) (Q : Int → Heap → Prop) (s22 : (Bool × Unit)) (h23 : Heap) : Prop :=
 ((s22.1 = true →
 Q 3 h23) ∧
 (s22.1 = false →
 park_judged.j4 todos4 Q () h23))
def park_judged.j6 (c_deque_Cells : Cq4) (first1 : Int) (most2 : Int) (sleepers3 : Int) (todos4 : Sl) (Q : Int → Heap → Prop) (s18 : (Bool × Unit)) (h19 : Heap) : Prop :=
 ((s18.1 = true →
 Q 2 h19) ∧
 (s18.1 = false →
 c_deque_Cells first1 most2 h19 fun r20 h21 =>
 (((decide (r20 = 0)) = true →
 Q 30 h21) ∧
 ((decide (r20 = 0)) = false →
 (((decide (sleepers3 < 0)) = true →
 park_judged.j5 todos4 Q (true, ()) h21) ∧
 ((decide (sleepers3 < 0)) = false →
 park_judged.j5 todos4 Q ((decide ((7 : Int) < sleepers3)), ()) h21))))))
def park_judged.M (c_deque_Cells : Cq4) (first1 : Int) (most2 : Int) (sleepers3 : Int) (todos4 : Sl) (picks5 : Sl) (h6 : Heap) (Q : Int → Heap → Prop) : Prop :=
 (((decide ((4096 : Int) < (todos4.len : Int))) = true →
 park_judged.j6 c_deque_Cells first1 most2 sleepers3 todos4 Q (true, ()) h6) ∧
 ((decide ((4096 : Int) < (todos4.len : Int))) = false →
 park_judged.j6 c_deque_Cells first1 most2 sleepers3 todos4 Q ((decide ((1048576 : Int) < (picks5.len : Int))), ()) h6))
def park_judged.mk : Mk := (.s .d (.j [] (.b (.j [.slot 13 .bool] .d (.c (.s .d .d) (.s .d (.c (.s .d .d) (.j [.slot 27 .bool] .d (.c (.s .d .d) .d))))))) (.s (.s .d (.b (.l [.slot 36 kI] (.s .d (.s (.c .d .d) (.j [] (.b (.s (.r [2]) (.j [.slot 52 .bool] .d (.c (.s .d .d) .d)))) .d)))))) (.s .d .d))))

def ops_Mod.j1 (Q : Int → Heap → Prop) (s4 : (Int × Unit)) (h5 : Heap) : Prop :=
 Q s4.1 h5
def ops_Mod.M  (x1 : Int) (n2 : Int) (h3 : Heap) (Q : Int → Heap → Prop) : Prop :=
 (((decide (n2 < 1)) = true →
 Q 0 h3) ∧
 ((decide (n2 < 1)) = false →
 n2 ≠ 0 ∧
 (((decide ((Int.tmod x1 n2) < 0)) = true →
 ops_Mod.j1 Q ((w64 ((Int.tmod x1 n2) + n2)), ()) h3) ∧
 ((decide ((Int.tmod x1 n2) < 0)) = false →
 ops_Mod.j1 Q ((Int.tmod x1 n2), ()) h3))))
def ops_Mod.mk : Mk := (.s .d (.s (.s .d (.c (.s .d .d) .d)) (.s .d (.j [.slot 5 kI] (.s .d (.c .d .d)) (.s .d .d)))))

def cells_Arena_Who.M  (a1 : Option Addr) (actor2 : Int) (h3 : Heap) (Q : Unit → Heap → Prop) : Prop :=
 (((Option.isSome a1) = true →
 deref a1 fun a4 =>
 st kI h3 (a4.add 4) actor2 fun h5 =>
 Q () h5) ∧
 ((Option.isSome a1) = false →
 Q () h3))
def cells_Arena_Who.mk : Mk := (.s .d (.c .d .d))

def park_game_worker.j1 (g1 : Option Addr) (Q : Unit → Heap → Prop) (r18 : Den kparkLot) (s20 : Unit) (h21 : Heap) : Prop :=
 (((decide (r18.1 = 18)) = true →
 deref g1 fun a22 =>
 ld kI h21 ((a22.add 6).add 6) fun t23 =>
 deref g1 fun a24 =>
 st kI h21 ((a24.add 6).add 6) (w64 (t23 + 1)) fun h25 =>
 Q () h25) ∧
 ((decide (r18.1 = 18)) = false →
 Q () h21))
def park_game_worker.j2 (c_park_Step : Cq12) (c_park_Answer : Cq14) (c_deque_Step : Cq7) (c_deque_Answer : Cq9) (c_park_game_took : Cq10) (g1 : Option Addr) (a2 : Option Addr) (Q : Unit → Heap → Prop) (s4 : Unit) (h5 : Heap) : Prop :=
 deref a2 fun a6 =>
 ld kI h5 (a6.add 0) fun t7 =>
 (((decide (t7 = 2)) = true →
 deref g1 fun a8 =>
 deref a2 fun a9 =>
 ld (.ptr : Kd) h5 (a8.add 0) fun t10 =>
 ld kparkOp h5 (a9.add 1) fun t11 =>
 c_park_Step (Value.iface 25 (Kd.val (.ptr : Kd) t10)) t11 h5 fun r12 h13 =>
 deref a2 fun a14 =>
 st kparkOp h13 (a14.add 1) r12 fun h15 =>
 deref a2 fun a16 =>
 ld kparkOp h15 (a16.add 1) fun t17 =>
 c_park_Answer t17 h15 fun r18 h19 =>
 (((decide (r18.1 ≠ 0)) = true →
 deref a2 fun a26 =>
 st kI h19 (a26.add 0) 0 fun h27 =>
 park_game_worker.j1 g1 Q r18 () h27) ∧
 ((decide (r18.1 ≠ 0)) = false →
 park_game_worker.j1 g1 Q r18 () h19))) ∧
 ((decide (t7 = 2)) = false →
 deref g1 fun a28 =>
 deref a2 fun a29 =>
 ld (.ptr : Kd) h5 (a28.add 0) fun t30 =>
 ld kdequeOp h5 (a29.add 154) fun t31 =>
 c_deque_Step (Value.iface 25 (Kd.val (.ptr : Kd) t30)) t31 h5 fun r32 h33 =>
 deref a2 fun a34 =>
 st kdequeOp h33 (a34.add 154) r32 fun h35 =>
 deref a2 fun a36 =>
 ld kdequeOp h35 (a36.add 154) fun t37 =>
 c_deque_Answer t37 h35 fun r38 h39 =>
 (((decide (r38.1 = 0)) = true →
 Q () h39) ∧
 ((decide (r38.1 = 0)) = false →
 deref a2 fun a40 =>
 st kI h39 (a40.add 0) 0 fun h41 =>
 deref a2 fun a42 =>
 st (.bool : Kd) h41 (a42.add 172) (decide (r38.1 = 2)) fun h43 =>
 c_park_game_took g1 0 r38.1 r38.2.1 h43 fun r44 h45 =>
 Q () h45))))
def park_game_worker.j3 (c_park_Step : Cq12) (c_park_Answer : Cq14) (c_deque_Step : Cq7) (c_deque_Answer : Cq9) (c_park_game_took : Cq10) (g1 : Option Addr) (a2 : Option Addr) (Q : Unit → Heap → Prop) (s46 : (Bool × Unit)) (h47 : Heap) : Prop :=
 ((s46.1 = true →
 Q () h47) ∧
 (s46.1 = false →
 park_game_worker.j2 c_park_Step c_park_Answer c_deque_Step c_deque_Answer c_park_game_took g1 a2 Q () h47))
def park_game_worker.M (c_park_game_begin : Option Addr → Option Addr → Heap → (Bool → Heap → Prop) → Prop) (c_park_Step : Cq12) (c_park_Answer : Cq14) (c_deque_Step : Cq7) (c_deque_Answer : Cq9) (c_park_game_took : Cq10) (g1 : Option Addr) (a2 : Option Addr) (h3 : Heap) (Q : Unit → Heap → Prop) : Prop :=
 deref a2 fun a48 =>
 ld kI h3 (a48.add 0) fun t49 =>
 (((decide (t49 = 0)) = true →
 c_park_game_begin g1 a2 h3 fun r50 h51 =>
 park_game_worker.j3 c_park_Step c_park_Answer c_deque_Step c_deque_Answer c_park_game_took g1 a2 Q ((!r50), ()) h51) ∧
 ((decide (t49 = 0)) = false →
 park_game_worker.j3 c_park_Step c_park_Answer c_deque_Step c_deque_Answer c_park_game_took g1 a2 Q (false, ()) h3))
def park_game_worker.mk : Mk := (.j [] (.j [.slot 18 .bool] .d (.c .d .d)) (.s (.s .d (.c (.s (.q [] [] [.p 0, .p 1, .p 2, .p 3, .p 6, .p 7, .p 8, .w 4 [4, 5, 10, 11, 12, 13], .p 5, .w 9 [9, 10, 11, 12, 13], .o 10, .p 11, .p 12, .o 13]) (.s .d (.j [] (.s .d (.c .d .d)) (.s (.s .d (.c .d .d)) .d)))) .d)) (.s (.q [] [] [.p 0, .p 1, .p 2, .p 3, .p 6, .p 7, .p 8, .w 4 [4, 5, 10, 11, 12, 13], .p 5, .w 9 [9, 10, 11, 12, 13], .o 10, .p 11, .p 12, .o 13]) (.s .d (.s (.s .d (.c .d .d)) (.s .d (.s .d .d)))))))

def park_game_sleeper.j1 (a2 : Option Addr) (Q : Unit → Heap → Prop) (s41 : Unit) (h42 : Heap) : Prop :=
 deref a2 fun a43 =>
 st kI h42 (a43.add 0) 0 fun h44 =>
 Q () h44
def park_game_sleeper.j2 (c_deque_Step : Cq7) (c_deque_Answer : Cq9) (c_park_game_took : Cq10) (c_park_Step : Cq12) (c_park_Answer : Cq14) (g1 : Option Addr) (a2 : Option Addr) (who3 : Int) (Q : Unit → Heap → Prop) (s7 : Unit) (h8 : Heap) : Prop :=
 deref a2 fun a9 =>
 ld kI h8 (a9.add 0) fun t10 =>
 (((decide (t10 = 1)) = true →
 deref g1 fun a11 =>
 deref a2 fun a12 =>
 ld (.ptr : Kd) h8 (a11.add 0) fun t13 =>
 ld kdequeOp h8 (a12.add 154) fun t14 =>
 c_deque_Step (Value.iface 25 (Kd.val (.ptr : Kd) t13)) t14 h8 fun r15 h16 =>
 deref a2 fun a17 =>
 st kdequeOp h16 (a17.add 154) r15 fun h18 =>
 deref a2 fun a19 =>
 ld kdequeOp h18 (a19.add 154) fun t20 =>
 c_deque_Answer t20 h18 fun r21 h22 =>
 (((decide (r21.1 ≠ 0)) = true →
 deref a2 fun a23 =>
 st kI h22 (a23.add 0) 0 fun h24 =>
 deref a2 fun a25 =>
 st (.bool : Kd) h24 (a25.add 171) false fun h26 =>
 c_park_game_took g1 who3 r21.1 r21.2.1 h26 fun r27 h28 =>
 Q () h28) ∧
 ((decide (r21.1 ≠ 0)) = false →
 Q () h22))) ∧
 ((decide (t10 = 1)) = false →
 deref g1 fun a29 =>
 deref a2 fun a30 =>
 ld (.ptr : Kd) h8 (a29.add 0) fun t31 =>
 ld kparkOp h8 (a30.add 1) fun t32 =>
 c_park_Step (Value.iface 25 (Kd.val (.ptr : Kd) t31)) t32 h8 fun r33 h34 =>
 deref a2 fun a35 =>
 st kparkOp h34 (a35.add 1) r33 fun h36 =>
 deref a2 fun a37 =>
 ld kparkOp h36 (a37.add 1) fun t38 =>
 c_park_Answer t38 h36 fun r39 h40 =>
 (((decide (r39.1 = 0)) = true →
 Q () h40) ∧
 ((decide (r39.1 = 0)) = false →
 (((decide (r39.1 = 17)) = true →
 deref a2 fun a45 =>
 st (.bool : Kd) h40 (a45.add 170) true fun h46 =>
 park_game_sleeper.j1 a2 Q () h46) ∧
 ((decide (r39.1 = 17)) = false →
 (((decide (r39.1 = 16)) = true →
 deref a2 fun a47 =>
 st (.bool : Kd) h40 (a47.add 171) true fun h48 =>
 park_game_sleeper.j1 a2 Q () h48) ∧
 ((decide (r39.1 = 16)) = false →
 park_game_sleeper.j1 a2 Q () h40))))))))
def park_game_sleeper.M (c_park_Rest : Den kparkLot → Int → Sl → Heap → (Den kparkOp → Heap → Prop) → Prop) (c_deque_Steal : Cq26) (c_deque_Step : Cq7) (c_deque_Answer : Cq9) (c_park_game_took : Cq10) (c_park_Step : Cq12) (c_park_Answer : Cq14) (g1 : Option Addr) (a2 : Option Addr) (who3 : Int) (h4 : Heap) (Q : Unit → Heap → Prop) : Prop :=
 deref a2 fun a5 =>
 ld (.bool : Kd) h4 (a5.add 170) fun t6 =>
 ((t6 = true →
 Q () h4) ∧
 (t6 = false →
 deref a2 fun a49 =>
 ld kI h4 (a49.add 0) fun t50 =>
 (((decide (t50 = 0)) = true →
 deref g1 fun a51 =>
 deref g1 fun a52 =>
 ld kparkLot h4 (a51.add 1) fun t53 =>
 ld (.sl : Kd) h4 (a52.add 3) fun t54 =>
 c_park_Rest t53 who3 t54 h4 fun r55 h56 =>
 deref a2 fun a57 =>
 st kI h56 (a57.add 0) 2 fun h58 =>
 deref a2 fun a59 =>
 st kparkOp h58 (a59.add 1) r55 fun h60 =>
 deref a2 fun a61 =>
 ld (.bool : Kd) h60 (a61.add 171) fun t62 =>
 ((t62 = true →
 deref g1 fun a63 =>
 ld (.sl : Kd) h60 (a63.add 3) fun t64 =>
 (0 ≤ (0 : Int) ∧ (0 : Int) < (t64.len : Int)) ∧
 deref t64.a fun a65 =>
 ld kparkLot h60 (a65.add (((0 : Int) : Int).toNat * 2)) fun t66 =>
 c_deque_Steal t66 h60 fun r67 h68 =>
 deref a2 fun a69 =>
 st kI h68 (a69.add 0) 1 fun h70 =>
 deref a2 fun a71 =>
 st kdequeOp h70 (a71.add 154) r67 fun h72 =>
 park_game_sleeper.j2 c_deque_Step c_deque_Answer c_park_game_took c_park_Step c_park_Answer g1 a2 who3 Q () h72) ∧
 (t62 = false →
 park_game_sleeper.j2 c_deque_Step c_deque_Answer c_park_game_took c_park_Step c_park_Answer g1 a2 who3 Q () h60))) ∧
 ((decide (t50 = 0)) = false →
 park_game_sleeper.j2 c_deque_Step c_deque_Answer c_park_game_took c_park_Step c_park_Answer g1 a2 who3 Q () h4))))
def park_game_sleeper.mk : Mk := (.s (.s .d (.c .d .d)) (.j [] (.s .d (.c (.s (.q [] [] [.p 0, .p 1, .p 2, .p 3, .p 4, .p 6, .p 7, .p 8, .p 9, .w 5 [5, 11, 12, 13, 14, 15, 16, 17], .w 10 [10, 11, 12, 13, 14, 15, 16, 17], .o 11, .p 12, .p 13, .o 14, .p 15, .p 16, .o 17]) (.s .d (.c .d .d))) .d)) (.s (.s .d (.c (.s (.q [] [] [.p 0, .p 1, .p 2, .p 3, .p 6, .p 7, .p 8, .w 4 [4, 5, 10, 11, 12, 13], .p 5, .w 9 [9, 10, 11, 12, 13], .o 10, .p 11, .p 12, .o 13]) (.s .d (.s (.s .d (.c (.s .d .d) .d)) .d))) .d)) (.s (.q [] [] [.p 0, .p 1, .p 2, .p 3, .p 6, .p 7, .p 8, .w 4 [4, 5, 10, 11, 12, 13], .p 5, .w 9 [9, 10, 11, 12, 13], .o 10, .p 11, .p 12, .o 13]) (.s .d (.j [] (.s .d (.b (.s .d (.c .d (.s .d (.c .d (.s .d (.c .d .d)))))))) .d))))))

def park_game_told.j1 (go12 : (Int × Unit) → Heap → Prop) (s10 : (Int × Unit)) (s13 : Unit) (h14 : Heap) : Prop :=
 go12 ((w64 (s10.1 + 1)), ()) h14
def park_game_told.j2 (a7 : Addr) (go12 : (Int × Unit) → Heap → Prop) (s10 : (Int × Unit)) (s17 : (Int × Unit)) (h18 : Heap) : Prop :=
 ld (.sl : Kd) h18 ((a7.add 6).add 2) fun t19 =>
 new h18 (([s17.1] : List (Den kI)).flatMap (Kd.cells kI)) fun p20 h21 =>
 appendM 1 8 h21 t19 ⟨some p20, 1, 1⟩ fun t22 h23 =>
 st (.sl : Kd) h23 ((a7.add 6).add 2) t22 fun h24 =>
 park_game_told.j1 go12 s10 () h24
def park_game_told.j3 (a7 : Addr) (go12 : (Int × Unit) → Heap → Prop) (s10 : (Int × Unit)) (s25 : (Bool × Unit)) (h26 : Heap) : Prop :=
 ((s25.1 = true →
 park_game_told.j2 a7 go12 s10 (1, ()) h26) ∧
 (s25.1 = false →
 park_game_told.j2 a7 go12 s10 (0, ()) h26))
def park_game_told.l4 (c_ops_Mod : Cq4) (c_cells_Arena_Log : Cq15) (g1 : Option Addr) (Q : Unit → Heap → Prop) (r5 : Sl) (a7 : Addr) (t59 : Int) (t61 : Int) (go66 : (Int × Unit) → Heap → Prop) (s64 : (Int × Unit)) (h65 : Heap) : Prop :=
 (0 ≤ (w64 (t59 + 1)) ∧ (w64 (t59 + 1)) < (r5.len : Int)) ∧
 deref r5.a fun a67 =>
 ld kI h65 (a67.add (((w64 (t59 + 1)) : Int).toNat * 1)) fun t68 =>
 (((decide (s64.1 < t68)) = true →
 (0 ≤ t61 ∧ t61 < (r5.len : Int)) ∧
 deref r5.a fun a69 =>
 ld (.sl : Kd) h65 ((a7.add 6).add 1) fun t70 =>
 ld kI h65 (a69.add ((t61 : Int).toNat * 1)) fun t71 =>
 c_ops_Mod s64.1 t71 h65 fun r72 h73 =>
 sees h73 (some ((a7.add 6).add 1)) (.sl : Kd) t70 ∧
 (0 ≤ (w64 ((w64 (t61 + 1)) + r72)) ∧ (w64 ((w64 (t61 + 1)) + r72)) < (r5.len : Int)) ∧
 deref r5.a fun a74 =>
 ld kI h73 (a74.add (((w64 ((w64 (t61 + 1)) + r72)) : Int).toNat * 1)) fun t75 =>
 new h73 (([t75] : List (Den kI)).flatMap (Kd.cells kI)) fun p76 h77 =>
 appendM 1 8 h77 t70 ⟨some p76, 1, 1⟩ fun t78 h79 =>
 st (.sl : Kd) h79 ((a7.add 6).add 1) t78 fun h80 =>
 go66 ((w64 (s64.1 + 1)), ()) h80) ∧
 ((decide (s64.1 < t68)) = false →
 deref g1 fun a81 =>
 ld (.ptr : Kd) h65 (a81.add 0) fun t82 =>
 c_cells_Arena_Log t82 h65 fun r83 h84 =>
 st (.sl : Kd) h84 ((a7.add 6).add 8) r83 fun h85 =>
 Q () h85))
def park_game_told.j5 (c_ops_Mod : Cq4) (c_cells_Arena_Log : Cq15) (g1 : Option Addr) (Q : Unit → Heap → Prop) (r5 : Sl) (a7 : Addr) (s54 : Unit) (h55 : Heap) : Prop :=
 deref g1 fun a56 =>
 ld (.sl : Kd) h55 (a56.add 3) fun t57 =>
 (0 ≤ (0 : Int) ∧ (0 : Int) < (t57.len : Int)) ∧
 deref t57.a fun a58 =>
 ld kI h55 ((a58.add (((0 : Int) : Int).toNat * 2)).add 0) fun t59 =>
 (0 ≤ (w64 (t59 + 2)) ∧ (w64 (t59 + 2)) < (r5.len : Int)) ∧
 deref r5.a fun a60 =>
 ld kI h55 (a60.add (((w64 (t59 + 2)) : Int).toNat * 1)) fun t61 =>
 (0 ≤ t59 ∧ t59 < (r5.len : Int)) ∧
 deref r5.a fun a62 =>
 ld kI h55 (a62.add ((t59 : Int).toNat * 1)) fun t63 =>
 Loop (park_game_told.l4 c_ops_Mod c_cells_Arena_Log g1 Q r5 a7 t59 t61) (t63, ()) h55
def park_game_told.l6 (c_ops_Mod : Cq4) (c_cells_Arena_Log : Cq15) (g1 : Option Addr) (Q : Unit → Heap → Prop) (r5 : Sl) (a7 : Addr) (t30 : Sl) (go33 : (Int × Unit) → Heap → Prop) (s31 : (Int × Unit)) (h32 : Heap) : Prop :=
 (((decide (s31.1 < (t30.len : Int))) = true →
 deref g1 fun a34 =>
 ld (.sl : Kd) h32 ((a7.add 6).add 3) fun t35 =>
 ld kI h32 ((a34.add 1).add 0) fun t36 =>
 (0 ≤ (w64 ((w64 (t36 + 2)) + s31.1)) ∧ (w64 ((w64 (t36 + 2)) + s31.1)) < (r5.len : Int)) ∧
 deref r5.a fun a37 =>
 ld kI h32 (a37.add (((w64 ((w64 (t36 + 2)) + s31.1)) : Int).toNat * 1)) fun t38 =>
 new h32 (([t38] : List (Den kI)).flatMap (Kd.cells kI)) fun p39 h40 =>
 appendM 1 8 h40 t35 ⟨some p39, 1, 1⟩ fun t41 h42 =>
 st (.sl : Kd) h42 ((a7.add 6).add 3) t41 fun h43 =>
 go33 ((w64 (s31.1 + 1)), ()) h43) ∧
 ((decide (s31.1 < (t30.len : Int))) = false →
 deref g1 fun a44 =>
 deref g1 fun a45 =>
 ld kI h32 ((a44.add 1).add 0) fun t46 =>
 (0 ≤ (w64 (t46 + 0)) ∧ (w64 (t46 + 0)) < (r5.len : Int)) ∧
 deref r5.a fun a47 =>
 ld kI h32 (a47.add (((w64 (t46 + 0)) : Int).toNat * 1)) fun t48 =>
 ld kI h32 ((a45.add 1).add 0) fun t49 =>
 (0 ≤ (w64 (t49 + 1)) ∧ (w64 (t49 + 1)) < (r5.len : Int)) ∧
 deref r5.a fun a50 =>
 ld kI h32 (a50.add (((w64 (t49 + 1)) : Int).toNat * 1)) fun t51 =>
 st kI h32 ((a7.add 6).add 4) t48 fun h52 =>
 st kI h52 ((a7.add 6).add 5) t51 fun h53 =>
 deref g1 fun a86 =>
 ld (.sl : Kd) h53 (a86.add 5) fun t87 =>
 (0 ≤ (0 : Int) ∧ (0 : Int) < (t87.len : Int)) ∧
 deref t87.a fun a88 =>
 ld kI h53 ((a88.add (((0 : Int) : Int).toNat * 173)).add 0) fun t89 =>
 (((decide (t89 = 0)) = true →
 deref g1 fun a90 =>
 ld (.sl : Kd) h53 (a90.add 5) fun t91 =>
 (0 ≤ (0 : Int) ∧ (0 : Int) < (t91.len : Int)) ∧
 deref t91.a fun a92 =>
 ld (.bool : Kd) h53 ((a92.add (((0 : Int) : Int).toNat * 173)).add 172) fun t93 =>
 st (.bool : Kd) h53 ((a7.add 6).add 7) (!t93) fun h94 =>
 park_game_told.j5 c_ops_Mod c_cells_Arena_Log g1 Q r5 a7 () h94) ∧
 ((decide (t89 = 0)) = false →
 st (.bool : Kd) h53 ((a7.add 6).add 7) false fun h95 =>
 park_game_told.j5 c_ops_Mod c_cells_Arena_Log g1 Q r5 a7 () h95))))
def park_game_told.l7 (c_park_Parked : Den kparkOp → Heap → (Bool → Heap → Prop) → Prop) (c_ops_Mod : Cq4) (c_cells_Arena_Log : Cq15) (g1 : Option Addr) (Q : Unit → Heap → Prop) (r5 : Sl) (a7 : Addr) (t9 : Sl) (go12 : (Int × Unit) → Heap → Prop) (s10 : (Int × Unit)) (h11 : Heap) : Prop :=
 (((decide (s10.1 < ((t9.cut (((1 : Int) : Int).toNat) t9.len 173).len : Int))) = true →
 (0 ≤ s10.1 ∧ s10.1 < ((t9.cut (((1 : Int) : Int).toNat) t9.len 173).len : Int)) ∧
 deref (t9.cut (((1 : Int) : Int).toNat) t9.len 173).a fun a15 =>
 ld kparkactor h11 (a15.add ((s10.1 : Int).toNat * 173)) fun t16 =>
 ((t16.2.2.2.1 = true →
 park_game_told.j2 a7 go12 s10 (3, ()) h11) ∧
 (t16.2.2.2.1 = false →
 ((t16.2.2.2.2.1 = true →
 park_game_told.j2 a7 go12 s10 (2, ()) h11) ∧
 (t16.2.2.2.2.1 = false →
 (((decide (t16.1 = 2)) = true →
 c_park_Parked (((t16.2.1.1.1.1, (t16.2.1.1.1.2.1, ())), (t16.2.1.1.2.1, (t16.2.1.1.2.2.1, (t16.2.1.1.2.2.2.1, (t16.2.1.1.2.2.2.2.1, (t16.2.1.1.2.2.2.2.2.1, (t16.2.1.1.2.2.2.2.2.2.1, (t16.2.1.1.2.2.2.2.2.2.2.1, ())))))))), (t16.2.1.2.1, ((t16.2.1.2.2.1.1, (t16.2.1.2.2.1.2.1, ((t16.2.1.2.2.1.2.2.1.1, (t16.2.1.2.2.1.2.2.1.2.1, ())), (t16.2.1.2.2.1.2.2.2.1, (t16.2.1.2.2.1.2.2.2.2.1, (t16.2.1.2.2.1.2.2.2.2.2.1, (t16.2.1.2.2.1.2.2.2.2.2.2.1, (t16.2.1.2.2.1.2.2.2.2.2.2.2.1, (t16.2.1.2.2.1.2.2.2.2.2.2.2.2.1, (t16.2.1.2.2.1.2.2.2.2.2.2.2.2.2.1, (t16.2.1.2.2.1.2.2.2.2.2.2.2.2.2.2.1, (t16.2.1.2.2.1.2.2.2.2.2.2.2.2.2.2.2.1, (t16.2.1.2.2.1.2.2.2.2.2.2.2.2.2.2.2.2.1, (t16.2.1.2.2.1.2.2.2.2.2.2.2.2.2.2.2.2.2.1, (t16.2.1.2.2.1.2.2.2.2.2.2.2.2.2.2.2.2.2.2.1, ()))))))))))))))), ()))) h11 fun r27 h28 =>
 park_game_told.j3 a7 go12 s10 (r27, ()) h28) ∧
 ((decide (t16.1 = 2)) = false →
 park_game_told.j3 a7 go12 s10 (false, ()) h11))))))) ∧
 ((decide (s10.1 < ((t9.cut (((1 : Int) : Int).toNat) t9.len 173).len : Int))) = false →
 deref g1 fun a29 =>
 ld (.sl : Kd) h11 (a29.add 5) fun t30 =>
 Loop (park_game_told.l6 c_ops_Mod c_cells_Arena_Log g1 Q r5 a7 t30) (0, ()) h11))
def park_game_told.M (c_cells_Arena_Cells : Cq15) (c_park_Parked : Den kparkOp → Heap → (Bool → Heap → Prop) → Prop) (c_ops_Mod : Cq4) (c_cells_Arena_Log : Cq15) (g1 : Option Addr) (h2 : Heap) (Q : Unit → Heap → Prop) : Prop :=
 deref g1 fun a3 =>
 ld (.ptr : Kd) h2 (a3.add 0) fun t4 =>
 c_cells_Arena_Cells t4 h2 fun r5 h6 =>
 deref g1 fun a7 =>
 deref g1 fun a8 =>
 ld (.sl : Kd) h6 (a8.add 5) fun t9 =>
 (0 ≤ (1 : Int) ∧ (1 : Int) ≤ (t9.len : Int)) ∧
 Loop (park_game_told.l7 c_park_Parked c_ops_Mod c_cells_Arena_Log g1 Q r5 a7 t9) (0, ()) h6
def park_game_told.mk : Mk := (.s .d (.s .d (.s (.s .d (.b (.l [.slot 25 kI] (.s .d (.s (.c .d .d) (.j [] (.b (.s (.r [2]) (.s .d (.j [.slot 6 kI] (.b (.s .d (.c .d (.s .d (.c .d (.j [.slot 35 .bool] .d (.c .d .d))))))) .d)))) .d)))))) (.s (.s .d (.b (.l [.slot 60 kI] (.s .d (.s (.c .d .d) (.s (.b (.s .d (.q [] [] [.p 0, .p 1, .p 2, .p 3, .p 5, .p 6, .p 7, .p 8, .p 9, .p 12, .w 4 [4, 17, 18, 19, 20], .w 10 [10, 11, 13, 14, 15, 16, 17, 18, 19, 20], .p 11, .p 13, .p 14, .w 15 [15, 16, 17, 18, 19, 20], .o 16, .o 17, .p 18, .p 19, .o 20]))) .d)))))) (.s (.q [] [] [.p 0, .p 1, .p 2, .p 3, .p 4, .p 5, .p 6, .p 11, .p 12, .p 13, .p 14, .p 15, .w 7 [7, 8, 9, 10, 20, 21, 22, 23, 24, 25], .p 8, .p 9, .w 10 [10, 20, 21, 22, 23, 24, 25], .w 16 [16, 17, 18, 19, 20, 21, 22, 23, 24, 25], .p 17, .p 18, .w 19 [19, 20, 21, 22, 23, 24, 25], .p 20, .p 21, .o 22, .p 23, .p 24, .o 25]) (.j [] .d (.s .d (.s .d (.s (.s .d (.b (.l [.slot 10 kI] (.s (.s .d (.c .d .d)) (.s (.b (.q [] [] [.p 0, .p 1, .p 2, .p 3, .p 5, .p 6, .p 7, .p 8, .p 9, .p 10, .p 11, .w 4 [4, 18, 19, 20, 21], .w 12 [12, 13, 14, 15, 16, 17, 18, 19, 20, 21], .o 13, .p 14, .p 15, .w 16 [16, 17, 18, 19, 20, 21], .o 17, .o 18, .p 19, .p 20, .o 21])) .d))))) .d)))))))))

def cells_good.M  (size1 : Int) (h2 : Heap) (Q : Bool → Heap → Prop) : Prop :=
 (((decide ((0 : Int) ≤ size1)) = true →
 Q (decide (size1 ≤ 1048576)) h2) ∧
 ((decide ((0 : Int) ≤ size1)) = false →
 Q false h2))
def cells_good.mk : Mk := (.s .d (.s .d .d))

def cells_ledger_refuse.j1 (Q : Int → Heap → Prop) (s4 : Unit) (h5 : Heap) : Prop :=
 Q 0 h5
def cells_ledger_refuse.j2 (Q : Int → Heap → Prop) (s6 : (Bool × Unit)) (h7 : Heap) : Prop :=
 ((s6.1 = true →
 Q 22 h7) ∧
 (s6.1 = false →
 cells_ledger_refuse.j1 Q () h7))
def cells_ledger_refuse.M  (l1 : Option Addr) (n2 : Int) (h3 : Heap) (Q : Int → Heap → Prop) : Prop :=
 (((decide (n2 < 1)) = true →
 Q 21 h3) ∧
 ((decide (n2 < 1)) = false →
 (((Option.isNone l1) = true →
 cells_ledger_refuse.j2 Q (true, ()) h3) ∧
 ((Option.isNone l1) = false →
 deref l1 fun a8 =>
 deref l1 fun a9 =>
 ld kI h3 (a8.add 0) fun t10 =>
 ld kI h3 (a9.add 1) fun t11 =>
 cells_ledger_refuse.j2 Q ((decide ((w64 (t10 - t11)) < n2)), ()) h3))))
def cells_ledger_refuse.mk : Mk := (.s .d (.s (.s .d (.c (.s .d .d) .d)) (.j [] (.j [.slot 21 .bool] (.q [] [] [.p 0, .p 1, .p 2, .p 3, .p 4, .p 5, .p 6, .p 8, .p 9, .p 10, .w 7 [7, 12, 13, 14], .w 11 [11, 12, 13, 14], .p 12, .p 13, .p 14]) (.c (.s .d .d) .d)) (.s .d .d))))

def cells_ledger_take.M  (l1 : Option Addr) (n2 : Int) (h3 : Heap) (Q : Int → Heap → Prop) : Prop :=
 deref l1 fun a4 =>
 ld kI h3 (a4.add 1) fun t5 =>
 deref l1 fun a6 =>
 ld kI h3 (a6.add 1) fun t7 =>
 deref l1 fun a8 =>
 st kI h3 (a8.add 1) (w64 (t7 + n2)) fun h9 =>
 Q t5 h9
def cells_ledger_take.mk : Mk := (.s .d (.s .d (.s .d (.s .d .d))))

def deque_capsOK.M  (low1 : Int) (most2 : Int) (h3 : Heap) (Q : Bool → Heap → Prop) : Prop :=
 (((decide ((1 : Int) ≤ low1)) = true →
 (((decide (low1 ≤ most2)) = true →
 Q (decide (most2 ≤ 4096)) h3) ∧
 ((decide (low1 ≤ most2)) = false →
 Q false h3))) ∧
 ((decide ((1 : Int) ≤ low1)) = false →
 Q false h3))
def deque_capsOK.mk : Mk := (.s .d (.s .d .d))

def park_Lot_right.M (c_park_Cells : Int → Heap → (Int → Heap → Prop) → Prop) (l1 : Den kparkLot) (self2 : Int) (h3 : Heap) (Q : Bool → Heap → Prop) : Prop :=
 c_park_Cells l1.2.1 h3 fun r4 h5 =>
 (((decide ((0 : Int) < r4)) = true →
 (((decide ((0 : Int) ≤ self2)) = true →
 Q (decide (self2 < l1.2.1)) h5) ∧
 ((decide ((0 : Int) ≤ self2)) = false →
 Q false h5))) ∧
 ((decide ((0 : Int) < r4)) = false →
 Q false h5))
def park_Lot_right.mk : Mk := (.s (.r [0]) (.s .d .d))

def deque_Step.j1 (c_deque_Op_over : Cq5) (c_deque_Op_access : Cq20) (c_deque_Op_pushed : Cq0) (c_deque_Op_popped : Cq0) (c_deque_Op_stolen : Cq0) (c_deque_Op_looked : Cq0) (m1 : Value) (o2 : Den kdequeOp) (Q : Den kdequeOp → Heap → Prop) (s4 : (Tq1 × Unit)) (h5 : Heap) : Prop :=
 isI m1 ∧
 (((isNilI m1) = true →
 c_deque_Op_over (o2.1, (o2.2.1, ((o2.2.2.1.1, (o2.2.2.1.2.1, ())), (o2.2.2.2.1, (o2.2.2.2.2.1, (o2.2.2.2.2.2.1, (o2.2.2.2.2.2.2.1, (o2.2.2.2.2.2.2.2.1, (o2.2.2.2.2.2.2.2.2.1, (o2.2.2.2.2.2.2.2.2.2.1, (o2.2.2.2.2.2.2.2.2.2.2.1, (o2.2.2.2.2.2.2.2.2.2.2.2.1, (o2.2.2.2.2.2.2.2.2.2.2.2.2.1, (o2.2.2.2.2.2.2.2.2.2.2.2.2.2.1, (o2.2.2.2.2.2.2.2.2.2.2.2.2.2.2.1, ()))))))))))))))) 1 0 h5 fun r6 h7 =>
 Q (r6.1, (r6.2.1, ((r6.2.2.1.1, (r6.2.2.1.2.1, ())), (r6.2.2.2.1, (r6.2.2.2.2.1, (r6.2.2.2.2.2.1, (r6.2.2.2.2.2.2.1, (r6.2.2.2.2.2.2.2.1, (r6.2.2.2.2.2.2.2.2.1, (r6.2.2.2.2.2.2.2.2.2.1, (r6.2.2.2.2.2.2.2.2.2.2.1, (r6.2.2.2.2.2.2.2.2.2.2.2.1, (r6.2.2.2.2.2.2.2.2.2.2.2.2.1, (r6.2.2.2.2.2.2.2.2.2.2.2.2.2.1, (r6.2.2.2.2.2.2.2.2.2.2.2.2.2.2.1, ()))))))))))))))) h7) ∧
 ((isNilI m1) = false →
 c_deque_Op_access (o2.1, (o2.2.1, ((o2.2.2.1.1, (o2.2.2.1.2.1, ())), (o2.2.2.2.1, (o2.2.2.2.2.1, (o2.2.2.2.2.2.1, (o2.2.2.2.2.2.2.1, (o2.2.2.2.2.2.2.2.1, (o2.2.2.2.2.2.2.2.2.1, (o2.2.2.2.2.2.2.2.2.2.1, (o2.2.2.2.2.2.2.2.2.2.2.1, (o2.2.2.2.2.2.2.2.2.2.2.2.1, (o2.2.2.2.2.2.2.2.2.2.2.2.2.1, (o2.2.2.2.2.2.2.2.2.2.2.2.2.2.1, (o2.2.2.2.2.2.2.2.2.2.2.2.2.2.2.1, ()))))))))))))))) m1 h5 fun r8 h9 =>
 (((decide (r8.2.1 ≠ 0)) = true →
 c_deque_Op_over (o2.1, (o2.2.1, ((o2.2.2.1.1, (o2.2.2.1.2.1, ())), (o2.2.2.2.1, (o2.2.2.2.2.1, (o2.2.2.2.2.2.1, (o2.2.2.2.2.2.2.1, (o2.2.2.2.2.2.2.2.1, (o2.2.2.2.2.2.2.2.2.1, (o2.2.2.2.2.2.2.2.2.2.1, (o2.2.2.2.2.2.2.2.2.2.2.1, (o2.2.2.2.2.2.2.2.2.2.2.2.1, (o2.2.2.2.2.2.2.2.2.2.2.2.2.1, (o2.2.2.2.2.2.2.2.2.2.2.2.2.2.1, (o2.2.2.2.2.2.2.2.2.2.2.2.2.2.2.1, ()))))))))))))))) 1 0 h9 fun r10 h11 =>
 Q (r10.1, (r10.2.1, ((r10.2.2.1.1, (r10.2.2.1.2.1, ())), (r10.2.2.2.1, (r10.2.2.2.2.1, (r10.2.2.2.2.2.1, (r10.2.2.2.2.2.2.1, (r10.2.2.2.2.2.2.2.1, (r10.2.2.2.2.2.2.2.2.1, (r10.2.2.2.2.2.2.2.2.2.1, (r10.2.2.2.2.2.2.2.2.2.2.1, (r10.2.2.2.2.2.2.2.2.2.2.2.1, (r10.2.2.2.2.2.2.2.2.2.2.2.2.1, (r10.2.2.2.2.2.2.2.2.2.2.2.2.2.1, (r10.2.2.2.2.2.2.2.2.2.2.2.2.2.2.1, ()))))))))))))))) h11) ∧
 ((decide (r8.2.1 ≠ 0)) = false →
 (((decide (o2.1 = 1)) = true →
 c_deque_Op_pushed (o2.1, (o2.2.1, ((o2.2.2.1.1, (o2.2.2.1.2.1, ())), (o2.2.2.2.1, (o2.2.2.2.2.1, (o2.2.2.2.2.2.1, (o2.2.2.2.2.2.2.1, (o2.2.2.2.2.2.2.2.1, (o2.2.2.2.2.2.2.2.2.1, (o2.2.2.2.2.2.2.2.2.2.1, (o2.2.2.2.2.2.2.2.2.2.2.1, (o2.2.2.2.2.2.2.2.2.2.2.2.1, (o2.2.2.2.2.2.2.2.2.2.2.2.2.1, (o2.2.2.2.2.2.2.2.2.2.2.2.2.2.1, (o2.2.2.2.2.2.2.2.2.2.2.2.2.2.2.1, ()))))))))))))))) r8.1 h9 fun r12 h13 =>
 Q (r12.1, (r12.2.1, ((r12.2.2.1.1, (r12.2.2.1.2.1, ())), (r12.2.2.2.1, (r12.2.2.2.2.1, (r12.2.2.2.2.2.1, (r12.2.2.2.2.2.2.1, (r12.2.2.2.2.2.2.2.1, (r12.2.2.2.2.2.2.2.2.1, (r12.2.2.2.2.2.2.2.2.2.1, (r12.2.2.2.2.2.2.2.2.2.2.1, (r12.2.2.2.2.2.2.2.2.2.2.2.1, (r12.2.2.2.2.2.2.2.2.2.2.2.2.1, (r12.2.2.2.2.2.2.2.2.2.2.2.2.2.1, (r12.2.2.2.2.2.2.2.2.2.2.2.2.2.2.1, ()))))))))))))))) h13) ∧
 ((decide (o2.1 = 1)) = false →
 (((decide (o2.1 = 2)) = true →
 c_deque_Op_popped (o2.1, (o2.2.1, ((o2.2.2.1.1, (o2.2.2.1.2.1, ())), (o2.2.2.2.1, (o2.2.2.2.2.1, (o2.2.2.2.2.2.1, (o2.2.2.2.2.2.2.1, (o2.2.2.2.2.2.2.2.1, (o2.2.2.2.2.2.2.2.2.1, (o2.2.2.2.2.2.2.2.2.2.1, (o2.2.2.2.2.2.2.2.2.2.2.1, (o2.2.2.2.2.2.2.2.2.2.2.2.1, (o2.2.2.2.2.2.2.2.2.2.2.2.2.1, (o2.2.2.2.2.2.2.2.2.2.2.2.2.2.1, (o2.2.2.2.2.2.2.2.2.2.2.2.2.2.2.1, ()))))))))))))))) r8.1 h9 fun r14 h15 =>
 Q (r14.1, (r14.2.1, ((r14.2.2.1.1, (r14.2.2.1.2.1, ())), (r14.2.2.2.1, (r14.2.2.2.2.1, (r14.2.2.2.2.2.1, (r14.2.2.2.2.2.2.1, (r14.2.2.2.2.2.2.2.1, (r14.2.2.2.2.2.2.2.2.1, (r14.2.2.2.2.2.2.2.2.2.1, (r14.2.2.2.2.2.2.2.2.2.2.1, (r14.2.2.2.2.2.2.2.2.2.2.2.1, (r14.2.2.2.2.2.2.2.2.2.2.2.2.1, (r14.2.2.2.2.2.2.2.2.2.2.2.2.2.1, (r14.2.2.2.2.2.2.2.2.2.2.2.2.2.2.1, ()))))))))))))))) h15) ∧
 ((decide (o2.1 = 2)) = false →
 (((decide (o2.1 = 3)) = true →
 c_deque_Op_stolen (o2.1, (o2.2.1, ((o2.2.2.1.1, (o2.2.2.1.2.1, ())), (o2.2.2.2.1, (o2.2.2.2.2.1, (o2.2.2.2.2.2.1, (o2.2.2.2.2.2.2.1, (o2.2.2.2.2.2.2.2.1, (o2.2.2.2.2.2.2.2.2.1, (o2.2.2.2.2.2.2.2.2.2.1, (o2.2.2.2.2.2.2.2.2.2.2.1, (o2.2.2.2.2.2.2.2.2.2.2.2.1, (o2.2.2.2.2.2.2.2.2.2.2.2.2.1, (o2.2.2.2.2.2.2.2.2.2.2.2.2.2.1, (o2.2.2.2.2.2.2.2.2.2.2.2.2.2.2.1, ()))))))))))))))) r8.1 h9 fun r16 h17 =>
 Q (r16.1, (r16.2.1, ((r16.2.2.1.1, (r16.2.2.1.2.1, ())), (r16.2.2.2.1, (r16.2.2.2.2.1, (r16.2.2.2.2.2.1, (r16.2.2.2.2.2.2.1, (r16.2.2.2.2.2.2.2.1, (r16.2.2.2.2.2.2.2.2.1, (r16.2.2.2.2.2.2.2.2.2.1, (r16.2.2.2.2.2.2.2.2.2.2.1, (r16.2.2.2.2.2.2.2.2.2.2.2.1, (r16.2.2.2.2.2.2.2.2.2.2.2.2.1, (r16.2.2.2.2.2.2.2.2.2.2.2.2.2.1, (r16.2.2.2.2.2.2.2.2.2.2.2.2.2.2.1, ()))))))))))))))) h17) ∧
 ((decide (o2.1 = 3)) = false →
 c_deque_Op_looked (o2.1, (o2.2.1, ((o2.2.2.1.1, (o2.2.2.1.2.1, ())), (o2.2.2.2.1, (o2.2.2.2.2.1, (o2.2.2.2.2.2.1, (o2.2.2.2.2.2.2.1, (o2.2.2.2.2.2.2.2.1, (o2.2.2.2.2.2.2.2.2.1, (o2.2.2.2.2.2.2.2.2.2.1, (o2.2.2.2.2.2.2.2.2.2.2.1, (o2.2.2.2.2.2.2.2.2.2.2.2.1, (o2.2.2.2.2.2.2.2.2.2.2.2.2.1, (o2.2.2.2.2.2.2.2.2.2.2.2.2.2.1, (o2.2.2.2.2.2.2.2.2.2.2.2.2.2.2.1, ()))))))))))))))) r8.1 h9 fun r18 h19 =>
 Q (r18.1, (r18.2.1, ((r18.2.2.1.1, (r18.2.2.1.2.1, ())), (r18.2.2.2.1, (r18.2.2.2.2.1, (r18.2.2.2.2.2.1, (r18.2.2.2.2.2.2.1, (r18.2.2.2.2.2.2.2.1, (r18.2.2.2.2.2.2.2.2.1, (r18.2.2.2.2.2.2.2.2.2.1, (r18.2.2.2.2.2.2.2.2.2.2.1, (r18.2.2.2.2.2.2.2.2.2.2.2.1, (r18.2.2.2.2.2.2.2.2.2.2.2.2.1, (r18.2.2.2.2.2.2.2.2.2.2.2.2.2.1, (r18.2.2.2.2.2.2.2.2.2.2.2.2.2.2.1, ()))))))))))))))) h19))))))))))
def deque_Step.j2 (c_deque_Op_over : Cq5) (c_deque_Op_access : Cq20) (c_deque_Op_pushed : Cq0) (c_deque_Op_popped : Cq0) (c_deque_Op_stolen : Cq0) (c_deque_Op_looked : Cq0) (m1 : Value) (o2 : Den kdequeOp) (Q : Den kdequeOp → Heap → Prop) (s20 : (Bool × Unit)) (h21 : Heap) : Prop :=
 ((s20.1 = true →
 Q (o2.1, (o2.2.1, ((o2.2.2.1.1, (o2.2.2.1.2.1, ())), (o2.2.2.2.1, (o2.2.2.2.2.1, (o2.2.2.2.2.2.1, (o2.2.2.2.2.2.2.1, (o2.2.2.2.2.2.2.2.1, (o2.2.2.2.2.2.2.2.2.1, (o2.2.2.2.2.2.2.2.2.2.1, (o2.2.2.2.2.2.2.2.2.2.2.1, (o2.2.2.2.2.2.2.2.2.2.2.2.1, (o2.2.2.2.2.2.2.2.2.2.2.2.2.1, (o2.2.2.2.2.2.2.2.2.2.2.2.2.2.1, (o2.2.2.2.2.2.2.2.2.2.2.2.2.2.2.1, ()))))))))))))))) h21) ∧
 (s20.1 = false →
 deque_Step.j1 c_deque_Op_over c_deque_Op_access c_deque_Op_pushed c_deque_Op_popped c_deque_Op_stolen c_deque_Op_looked m1 o2 Q ((0, (0, (0, (0, (0, (0, (0, (0, (0, (0, (0, (0, (0, (false, (0, (0, ())))))))))))))))), ()) h21))
def deque_Step.M (c_deque_Op_over : Cq5) (c_deque_Op_access : Cq20) (c_deque_Op_pushed : Cq0) (c_deque_Op_popped : Cq0) (c_deque_Op_stolen : Cq0) (c_deque_Op_looked : Cq0) (m1 : Value) (o2 : Den kdequeOp) (h3 : Heap) (Q : Den kdequeOp → Heap → Prop) : Prop :=
 (((eqK kdequeOp (o2.1, (o2.2.1, ((o2.2.2.1.1, (o2.2.2.1.2.1, ())), (o2.2.2.2.1, (o2.2.2.2.2.1, (o2.2.2.2.2.2.1, (o2.2.2.2.2.2.2.1, (o2.2.2.2.2.2.2.2.1, (o2.2.2.2.2.2.2.2.2.1, (o2.2.2.2.2.2.2.2.2.2.1, (o2.2.2.2.2.2.2.2.2.2.2.1, (o2.2.2.2.2.2.2.2.2.2.2.2.1, (o2.2.2.2.2.2.2.2.2.2.2.2.2.1, (o2.2.2.2.2.2.2.2.2.2.2.2.2.2.1, (o2.2.2.2.2.2.2.2.2.2.2.2.2.2.2.1, ()))))))))))))))) (0, (0, ((0, (0, ())), (0, (0, (0, (0, (0, (0, (0, (0, (0, (false, (0, (0, ())))))))))))))))) = true →
 deque_Step.j2 c_deque_Op_over c_deque_Op_access c_deque_Op_pushed c_deque_Op_popped c_deque_Op_stolen c_deque_Op_looked m1 o2 Q (true, ()) h3) ∧
 ((eqK kdequeOp (o2.1, (o2.2.1, ((o2.2.2.1.1, (o2.2.2.1.2.1, ())), (o2.2.2.2.1, (o2.2.2.2.2.1, (o2.2.2.2.2.2.1, (o2.2.2.2.2.2.2.1, (o2.2.2.2.2.2.2.2.1, (o2.2.2.2.2.2.2.2.2.1, (o2.2.2.2.2.2.2.2.2.2.1, (o2.2.2.2.2.2.2.2.2.2.2.1, (o2.2.2.2.2.2.2.2.2.2.2.2.1, (o2.2.2.2.2.2.2.2.2.2.2.2.2.1, (o2.2.2.2.2.2.2.2.2.2.2.2.2.2.1, (o2.2.2.2.2.2.2.2.2.2.2.2.2.2.2.1, ()))))))))))))))) (0, (0, ((0, (0, ())), (0, (0, (0, (0, (0, (0, (0, (0, (0, (false, (0, (0, ())))))))))))))))) = false →
 deque_Step.j2 c_deque_Op_over c_deque_Op_access c_deque_Op_pushed c_deque_Op_popped c_deque_Op_stolen c_deque_Op_looked m1 o2 Q ((decide (o2.2.1 = 0)), ()) h3))
def deque_Step.mk : Mk := (.s (.r [0, 1]) (.j [.box 4 (.pair kI (.pair kI (.pair kI (.pair kI (.pair kI (.pair kI (.pair kI (.pair kI (.pair kI (.pair kI (.pair kI (.pair kI (.pair kI (.pair .bool kparkLot))))))))))))))] (.j [.slot 14 .bool] .d (.c (.s .d .d) .d)) (.s (.s .d (.c (.s .d .d) .d)) (.s .d (.s (.s .d (.c (.s .d .d) .d)) (.s (.s .d (.b (.s .d (.c (.s .d .d) (.s .d (.c (.s .d .d) (.s .d (.c (.s .d .d) .d)))))))) (.s .d .d)))))))

def deque_Answer.M  (o1 : Den kdequeOp) (h2 : Heap) (Q : Den kparkLot → Heap → Prop) : Prop :=
 (((eqK kdequeOp (o1.1, (o1.2.1, ((o1.2.2.1.1, (o1.2.2.1.2.1, ())), (o1.2.2.2.1, (o1.2.2.2.2.1, (o1.2.2.2.2.2.1, (o1.2.2.2.2.2.2.1, (o1.2.2.2.2.2.2.2.1, (o1.2.2.2.2.2.2.2.2.1, (o1.2.2.2.2.2.2.2.2.2.1, (o1.2.2.2.2.2.2.2.2.2.2.1, (o1.2.2.2.2.2.2.2.2.2.2.2.1, (o1.2.2.2.2.2.2.2.2.2.2.2.2.1, (o1.2.2.2.2.2.2.2.2.2.2.2.2.2.1, (o1.2.2.2.2.2.2.2.2.2.2.2.2.2.2.1, ()))))))))))))))) (0, (0, ((0, (0, ())), (0, (0, (0, (0, (0, (0, (0, (0, (0, (false, (0, (0, ())))))))))))))))) = true →
 Q (1, 0, ()) h2) ∧
 ((eqK kdequeOp (o1.1, (o1.2.1, ((o1.2.2.1.1, (o1.2.2.1.2.1, ())), (o1.2.2.2.1, (o1.2.2.2.2.1, (o1.2.2.2.2.2.1, (o1.2.2.2.2.2.2.1, (o1.2.2.2.2.2.2.2.1, (o1.2.2.2.2.2.2.2.2.1, (o1.2.2.2.2.2.2.2.2.2.1, (o1.2.2.2.2.2.2.2.2.2.2.1, (o1.2.2.2.2.2.2.2.2.2.2.2.1, (o1.2.2.2.2.2.2.2.2.2.2.2.2.1, (o1.2.2.2.2.2.2.2.2.2.2.2.2.2.1, (o1.2.2.2.2.2.2.2.2.2.2.2.2.2.2.1, ()))))))))))))))) (0, (0, ((0, (0, ())), (0, (0, (0, (0, (0, (0, (0, (0, (0, (false, (0, (0, ())))))))))))))))) = false →
 (((decide (o1.2.1 ≠ 0)) = true →
 Q (0, 0, ()) h2) ∧
 ((decide (o1.2.1 ≠ 0)) = false →
 Q (o1.2.2.2.2.2.2.2.2.2.2.2.2.2.1, o1.2.2.2.2.2.2.2.2.2.2.2.2.2.2.1, ()) h2))))
def deque_Answer.mk : Mk := (.s (.r [0]) (.s (.b (.s .d (.c (.s .d .d) (.s .d (.c (.s .d .d) .d))))) (.s (.q [] [] [.p 0, .p 2, .w 1 [1, 4, 5], .p 4, .w 3 [3, 5], .p 5]) .d)))

def park_state_back.M  (s1 : Option Addr) (code2 : Int) (h3 : Heap) (Q : Unit → Heap → Prop) : Prop :=
 deref s1 fun a4 =>
 st kI h3 (a4.add 6) code2 fun h5 =>
 deref s1 fun a6 =>
 st kI h5 (a6.add 4) 6 fun h7 =>
 Q () h7
def park_state_back.mk : Mk := .d

def park_Op_around.M (c_park_state_other : Option Addr → Heap → (Int → Heap → Prop) → Prop) (c_deque_Look : Cq26) (o1 : Den kparkOp) (h2 : Heap) (Q : Den kparkOp → Heap → Prop) : Prop :=
 new h2 (kparkOp.cells o1) fun p3 h4 =>
 ld kI h4 ((p3.add 0).add 5) fun t5 =>
 st kI h4 ((p3.add 0).add 5) (w64 (t5 + 1)) fun h6 =>
 st kI h6 ((p3.add 0).add 4) 4 fun h7 =>
 ld kI h7 ((p3.add 0).add 5) fun t8 =>
 ld kI h7 (((p3.add 0).add 0).add 1) fun t9 =>
 (((decide (t9 ≤ t8)) = true →
 st kI h7 ((p3.add 0).add 4) 5 fun h10 =>
 ld kparkOp h10 p3 fun t11 =>
 Q (((t11.1.1.1, (t11.1.1.2.1, ())), (t11.1.2.1, (t11.1.2.2.1, (t11.1.2.2.2.1, (t11.1.2.2.2.2.1, (t11.1.2.2.2.2.2.1, (t11.1.2.2.2.2.2.2.1, (t11.1.2.2.2.2.2.2.2.1, ())))))))), (t11.2.1, ((t11.2.2.1.1, (t11.2.2.1.2.1, ((t11.2.2.1.2.2.1.1, (t11.2.2.1.2.2.1.2.1, ())), (t11.2.2.1.2.2.2.1, (t11.2.2.1.2.2.2.2.1, (t11.2.2.1.2.2.2.2.2.1, (t11.2.2.1.2.2.2.2.2.2.1, (t11.2.2.1.2.2.2.2.2.2.2.1, (t11.2.2.1.2.2.2.2.2.2.2.2.1, (t11.2.2.1.2.2.2.2.2.2.2.2.2.1, (t11.2.2.1.2.2.2.2.2.2.2.2.2.2.1, (t11.2.2.1.2.2.2.2.2.2.2.2.2.2.2.1, (t11.2.2.1.2.2.2.2.2.2.2.2.2.2.2.2.1, (t11.2.2.1.2.2.2.2.2.2.2.2.2.2.2.2.2.1, (t11.2.2.1.2.2.2.2.2.2.2.2.2.2.2.2.2.2.1, ()))))))))))))))), ()))) h10) ∧
 ((decide (t9 ≤ t8)) = false →
 c_park_state_other (some (p3.add 0)) h7 fun r12 h13 =>
 (0 ≤ r12 ∧ r12 < (64 : Int)) ∧
 ld kparkLot h13 ((p3.add 9).add ((r12 : Int).toNat * 2)) fun t14 =>
 c_deque_Look t14 h13 fun r15 h16 =>
 st kdequeOp h16 (p3.add 137) r15 fun h17 =>
 ld kparkOp h17 p3 fun t18 =>
 Q (((t18.1.1.1, (t18.1.1.2.1, ())), (t18.1.2.1, (t18.1.2.2.1, (t18.1.2.2.2.1, (t18.1.2.2.2.2.1, (t18.1.2.2.2.2.2.1, (t18.1.2.2.2.2.2.2.1, (t18.1.2.2.2.2.2.2.2.1, ())))))))), (t18.2.1, ((t18.2.2.1.1, (t18.2.2.1.2.1, ((t18.2.2.1.2.2.1.1, (t18.2.2.1.2.2.1.2.1, ())), (t18.2.2.1.2.2.2.1, (t18.2.2.1.2.2.2.2.1, (t18.2.2.1.2.2.2.2.2.1, (t18.2.2.1.2.2.2.2.2.2.1, (t18.2.2.1.2.2.2.2.2.2.2.1, (t18.2.2.1.2.2.2.2.2.2.2.2.1, (t18.2.2.1.2.2.2.2.2.2.2.2.2.1, (t18.2.2.1.2.2.2.2.2.2.2.2.2.2.1, (t18.2.2.1.2.2.2.2.2.2.2.2.2.2.2.1, (t18.2.2.1.2.2.2.2.2.2.2.2.2.2.2.2.1, (t18.2.2.1.2.2.2.2.2.2.2.2.2.2.2.2.2.1, (t18.2.2.1.2.2.2.2.2.2.2.2.2.2.2.2.2.2.1, ()))))))))))))))), ()))) h17))
def park_Op_around.mk : Mk := (.s (.r [1]) (.s .d (.s .d (.s (.s .d (.c (.s .d (.s .d .d)) .d)) (.s .d (.s .d .d))))))

def park_state_access_1.M (c_park_state_flag : Cq11) (c_inv_CAS : Value → Int → Int → Int → Heap → ((Bool × (Int × Unit)) → Heap → Prop) → Prop) (c_nil : Value → Prop) (i1 : Int) (t2 : Option Addr) (t3 : Option Addr) (h4 : Heap) (Q : Den kparkLot → Heap → Prop) : Prop :=
 deref t2 fun a5 =>
 ld (.iface : Kd) h4 a5 fun t6 =>
 c_nil (Value.func (.method "CAS") (List.toArray [Kd.val (.iface : Kd) t6]) (List.toArray [])) ∧
 deref t3 fun a7 =>
 ld (.ptr : Kd) h4 a7 fun t8 =>
 c_park_state_flag t8 i1 h4 fun r9 h10 =>
 sees h10 t2 (.iface : Kd) t6 ∧
 c_inv_CAS t6 r9 1 0 h10 fun r11 h12 =>
 ((r11.1 = true →
 Q (1, r11.2.1, ()) h12) ∧
 (r11.1 = false →
 Q (0, r11.2.1, ()) h12))
def park_state_access_1.mk : Mk := (.s .d (.s (.q [] [] [.p 2, .w 0 [0, 4, 5, 6, 7, 8, 9, 10, 11, 12], .p 4, .p 5, .p 6, .w 1 [1, 3, 7, 8, 9, 10, 11, 12], .o 3, .o 7, .p 8, .p 9, .p 10, .p 11, .p 12]) (.s (.s .d (.c (.s .d .d) .d)) (.s .d .d))))

def park_state_flag.M  (s1 : Option Addr) (i2 : Int) (h3 : Heap) (Q : Int → Heap → Prop) : Prop :=
 deref s1 fun a4 =>
 ld kI h3 ((a4.add 0).add 0) fun t5 =>
 Q (w64 ((w64 (t5 + 2)) + i2)) h3
def park_state_flag.mk : Mk := (.s .d (.s .d .d))

def park_state_other.M  (s1 : Option Addr) (h2 : Heap) (Q : Int → Heap → Prop) : Prop :=
 deref s1 fun a3 =>
 deref s1 fun a4 =>
 deref s1 fun a5 =>
 ld kI h2 (a3.add 2) fun t6 =>
 ld kI h2 (a4.add 5) fun t7 =>
 ld kI h2 ((a5.add 0).add 1) fun t8 =>
 t8 ≠ 0 ∧
 Q (Int.tmod (w64 (t6 + t7)) t8) h2
def park_state_other.mk : Mk := (.s .d (.s (.q [] [] [.p 0, .p 1, .p 2, .p 4, .p 5, .p 6, .p 9, .p 10, .p 11, .p 12, .w 3 [3, 8, 14, 15], .w 7 [7, 8, 14, 15], .p 8, .w 13 [13, 14, 15], .p 14, .p 15]) .d))

def cells_ledger_has.M  (l1 : Option Addr) (addr2 : Int) (h3 : Heap) (Q : Bool → Heap → Prop) : Prop :=
 (((decide ((0 : Int) ≤ addr2)) = true →
 deref l1 fun a4 =>
 ld kI h3 (a4.add 1) fun t5 =>
 Q (decide (addr2 < t5)) h3) ∧
 ((decide ((0 : Int) ≤ addr2)) = false →
 Q false h3))
def cells_ledger_has.mk : Mk := (.s .d (.s .d .d))

def park_game_begin.j1 (Q : Bool → Heap → Prop) (s28 : Unit) (h29 : Heap) : Prop :=
 Q true h29
def park_game_begin.M (c_park_Wake : Den kparkLot → Int → Heap → (Den kparkOp → Heap → Prop) → Prop) (c_deque_Push : Den kparkLot → Int → Heap → (Den kdequeOp → Heap → Prop) → Prop) (c_deque_Pop : Cq26) (c_park_Finish : Den kparkLot → Int → Heap → (Den kparkOp → Heap → Prop) → Prop) (g1 : Option Addr) (a2 : Option Addr) (h3 : Heap) (Q : Bool → Heap → Prop) : Prop :=
 deref a2 fun a4 =>
 ld (.bool : Kd) h3 (a4.add 172) fun t5 =>
 ((t5 = true →
 deref g1 fun a6 =>
 ld kparkLot h3 (a6.add 1) fun t7 =>
 c_park_Wake t7 0 h3 fun r8 h9 =>
 deref a2 fun a10 =>
 st (.bool : Kd) h9 (a10.add 172) false fun h11 =>
 deref a2 fun a12 =>
 st kI h11 (a12.add 0) 2 fun h13 =>
 deref a2 fun a14 =>
 st kparkOp h13 (a14.add 1) r8 fun h15 =>
 Q true h15) ∧
 (t5 = false →
 deref g1 fun a16 =>
 ld (.sl : Kd) h3 (a16.add 4) fun t17 =>
 (((decide ((t17.len : Int) = 0)) = true →
 Q false h3) ∧
 ((decide ((t17.len : Int) = 0)) = false →
 deref g1 fun a18 =>
 ld (.sl : Kd) h3 (a18.add 4) fun t19 =>
 (0 ≤ (0 : Int) ∧ (0 : Int) < (t19.len : Int)) ∧
 deref t19.a fun a20 =>
 ld kparkLot h3 (a20.add (((0 : Int) : Int).toNat * 2)) fun t21 =>
 deref g1 fun a22 =>
 ld (.sl : Kd) h3 (a22.add 4) fun t23 =>
 (0 ≤ (1 : Int) ∧ (1 : Int) ≤ (t23.len : Int)) ∧
 deref g1 fun a24 =>
 st (.sl : Kd) h3 (a24.add 4) (t23.cut (((1 : Int) : Int).toNat) t23.len 2) fun h25 =>
 deref a2 fun a26 =>
 st kI h25 (a26.add 0) 1 fun h27 =>
 (((decide (t21.1 = 0)) = true →
 deref g1 fun a30 =>
 ld (.sl : Kd) h27 (a30.add 3) fun t31 =>
 (0 ≤ (0 : Int) ∧ (0 : Int) < (t31.len : Int)) ∧
 deref t31.a fun a32 =>
 ld kparkLot h27 (a32.add (((0 : Int) : Int).toNat * 2)) fun t33 =>
 c_deque_Push t33 t21.2.1 h27 fun r34 h35 =>
 deref a2 fun a36 =>
 st kdequeOp h35 (a36.add 154) r34 fun h37 =>
 park_game_begin.j1 Q () h37) ∧
 ((decide (t21.1 = 0)) = false →
 (((decide (t21.1 = 1)) = true →
 deref g1 fun a38 =>
 ld (.sl : Kd) h27 (a38.add 3) fun t39 =>
 (0 ≤ (0 : Int) ∧ (0 : Int) < (t39.len : Int)) ∧
 deref t39.a fun a40 =>
 ld kparkLot h27 (a40.add (((0 : Int) : Int).toNat * 2)) fun t41 =>
 c_deque_Pop t41 h27 fun r42 h43 =>
 deref a2 fun a44 =>
 st kdequeOp h43 (a44.add 154) r42 fun h45 =>
 park_game_begin.j1 Q () h45) ∧
 ((decide (t21.1 = 1)) = false →
 deref g1 fun a46 =>
 ld kparkLot h27 (a46.add 1) fun t47 =>
 c_park_Finish t47 0 h27 fun r48 h49 =>
 deref a2 fun a50 =>
 st kI h49 (a50.add 0) 2 fun h51 =>
 deref a2 fun a52 =>
 st kparkOp h51 (a52.add 1) r48 fun h53 =>
 park_game_begin.j1 Q () h53))))))))
def park_game_begin.mk : Mk := (.s .d (.s (.s .d (.c (.s .d (.s .d .d)) .d)) (.s (.s .d (.c (.s .d .d) .d)) (.s (.r [6]) (.s .d (.s .d (.j [] (.s .d (.b (.s .d (.c (.q [] [] [.p 0, .p 1, .p 2, .p 3, .p 7, .w 4 [4, 5, 6, 9, 10, 11, 12], .p 5, .w 6 [6, 9, 10, 11, 12], .w 8 [8, 9, 10, 11, 12], .o 9, .p 10, .p 11, .o 12]) (.s .d (.c .d .d)))))) (.s .d .d))))))))

def park_game_took.M  (g1 : Option Addr) (who2 : Int) (code3 : Int) (v4 : Int) (h5 : Heap) (Q : Unit → Heap → Prop) : Prop :=
 (((decide (code3 = 4)) = true →
 deref g1 fun a6 =>
 ld (.sl : Kd) h5 ((a6.add 6).add 0) fun t7 =>
 new h5 (([(who2, (v4, ()))] : List (Den kparkLot)).flatMap (Kd.cells kparkLot)) fun p8 h9 =>
 appendM 2 16 h9 t7 ⟨some p8, 1, 1⟩ fun t10 h11 =>
 deref g1 fun a12 =>
 st (.sl : Kd) h11 ((a12.add 6).add 0) t10 fun h13 =>
 Q () h13) ∧
 ((decide (code3 = 4)) = false →
 Q () h5))
def park_game_took.mk : Mk := (.s .d (.c .d .d))

def deque_Steal.M (c_deque_begin : Cq13) (d1 : Den kparkLot) (h2 : Heap) (Q : Den kdequeOp → Heap → Prop) : Prop :=
 c_deque_begin 3 2 (d1.1, (d1.2.1, ())) 0 h2 fun r3 h4 =>
 Q (r3.1, (r3.2.1, ((r3.2.2.1.1, (r3.2.2.1.2.1, ())), (r3.2.2.2.1, (r3.2.2.2.2.1, (r3.2.2.2.2.2.1, (r3.2.2.2.2.2.2.1, (r3.2.2.2.2.2.2.2.1, (r3.2.2.2.2.2.2.2.2.1, (r3.2.2.2.2.2.2.2.2.2.1, (r3.2.2.2.2.2.2.2.2.2.2.1, (r3.2.2.2.2.2.2.2.2.2.2.2.1, (r3.2.2.2.2.2.2.2.2.2.2.2.2.1, (r3.2.2.2.2.2.2.2.2.2.2.2.2.2.1, (r3.2.2.2.2.2.2.2.2.2.2.2.2.2.2.1, ()))))))))))))))) h4
def deque_Steal.mk : Mk := (.s (.r [0, 1]) (.s .d .d))

def cells_Arena_Cells.M  (a1 : Option Addr) (h2 : Heap) (Q : Sl → Heap → Prop) : Prop :=
 (((Option.isNone a1) = true →
 Q ⟨none, 0, 0⟩ h2) ∧
 ((Option.isNone a1) = false →
 deref a1 fun a3 =>
 ld (.sl : Kd) h2 (a3.add 2) fun t4 =>
 makeM kI 8 h2 (t4.len : Int) (t4.len : Int) fun s5 h6 =>
 deref a1 fun a7 =>
 ld (.sl : Kd) h6 (a7.add 2) fun t8 =>
 copyM 1 h6 s5 t8 fun n9 h10 =>
 Q s5 h10))
def cells_Arena_Cells.mk : Mk := (.s .d (.s (.s .d (.c (.s .d .d) .d)) (.s .d (.s .d (.s .d .d)))))

def deque_Op_over.M  (o1 : Den kdequeOp) (code2 : Int) (v3 : Int) (h4 : Heap) (Q : Den kdequeOp → Heap → Prop) : Prop :=
 Q (o1.1, (0, ((o1.2.2.1.1, (o1.2.2.1.2.1, ())), (o1.2.2.2.1, (o1.2.2.2.2.1, (o1.2.2.2.2.2.1, (o1.2.2.2.2.2.2.1, (o1.2.2.2.2.2.2.2.1, (o1.2.2.2.2.2.2.2.2.1, (o1.2.2.2.2.2.2.2.2.2.1, (o1.2.2.2.2.2.2.2.2.2.2.1, (o1.2.2.2.2.2.2.2.2.2.2.2.1, (o1.2.2.2.2.2.2.2.2.2.2.2.2.1, (code2, (v3, ()))))))))))))))) h4
def deque_Op_over.mk : Mk := (.s (.r [0, 1]) (.s .d (.s .d .d)))

def deque_Op_access.j1 (c_inv_Load : Cq6) (c_deque_place : Int → Int → Int → Heap → (Int → Heap → Prop) → Prop) (c_nil : Value → Prop) (o1 : Den kdequeOp) (m2 : Value) (Q : Den kparkLot → Heap → Prop) (s34 : (Int × Unit)) (h35 : Heap) : Prop :=
 c_nil (Value.func (.method "Load") (List.toArray [Kd.val (.iface : Kd) m2]) (List.toArray [])) ∧
 c_deque_place o1.2.2.2.2.2.2.1 o1.2.2.2.2.2.2.2.1 s34.1 h35 fun r36 h37 =>
 c_inv_Load m2 r36 h37 fun r38 h39 =>
 Q (r38.1, r38.2.1, ()) h39
def deque_Op_access.M (c_inv_Load : Cq6) (c_inv_Reserve : Cq6) (c_inv_Store : Cq28) (c_deque_place : Int → Int → Int → Heap → (Int → Heap → Prop) → Prop) (c_deque_Op_next : Den kdequeOp → Heap → (Int → Heap → Prop) → Prop) (c_inv_CAS : Value → Int → Int → Int → Heap → ((Bool × (Int × Unit)) → Heap → Prop) → Prop) (c_nil : Value → Prop) (o1 : Den kdequeOp) (m2 : Value) (h3 : Heap) (Q : Den kparkLot → Heap → Prop) : Prop :=
 (((decide (o1.2.1 = 1)) = true →
 c_inv_Load m2 (w64 (o1.2.2.1.1 + 1)) h3 fun r4 h5 =>
 Q (r4.1, r4.2.1, ()) h5) ∧
 ((decide (o1.2.1 = 1)) = false →
 (((decide (o1.2.1 = 2)) = true →
 c_inv_Load m2 (w64 (o1.2.2.1.1 + 0)) h3 fun r6 h7 =>
 Q (r6.1, r6.2.1, ()) h7) ∧
 ((decide (o1.2.1 = 2)) = false →
 (((decide (o1.2.1 = 3)) = true →
 c_inv_Load m2 (w64 (o1.2.2.1.1 + 2)) h3 fun r8 h9 =>
 Q (r8.1, r8.2.1, ()) h9) ∧
 ((decide (o1.2.1 = 3)) = false →
 (((decide (o1.2.1 = 4)) = true →
 c_inv_Load m2 o1.2.2.2.2.2.2.1 h3 fun r10 h11 =>
 Q (r10.1, r10.2.1, ()) h11) ∧
 ((decide (o1.2.1 = 4)) = false →
 (((decide (o1.2.1 = 5)) = true →
 c_inv_Reserve m2 (w64 (1 + o1.2.2.2.2.2.2.2.2.2.1)) h3 fun r12 h13 =>
 Q (r12.1, r12.2.1, ()) h13) ∧
 ((decide (o1.2.1 = 5)) = false →
 (((decide (o1.2.1 = 6)) = true →
 c_inv_Store m2 o1.2.2.2.2.2.2.2.2.1 o1.2.2.2.2.2.2.2.2.2.1 h3 fun r14 h15 =>
 Q (0, r14, ()) h15) ∧
 ((decide (o1.2.1 = 6)) = false →
 (((decide (o1.2.1 = 7)) = true →
 c_nil (Value.func (.method "Load") (List.toArray [Kd.val (.iface : Kd) m2]) (List.toArray [])) ∧
 c_deque_place o1.2.2.2.2.2.2.1 o1.2.2.2.2.2.2.2.1 o1.2.2.2.2.2.2.2.2.2.2.1 h3 fun r16 h17 =>
 c_inv_Load m2 r16 h17 fun r18 h19 =>
 Q (r18.1, r18.2.1, ()) h19) ∧
 ((decide (o1.2.1 = 7)) = false →
 (((decide (o1.2.1 = 8)) = true →
 c_nil (Value.func (.method "Store") (List.toArray [Kd.val (.iface : Kd) m2]) (List.toArray [])) ∧
 c_deque_place o1.2.2.2.2.2.2.2.2.1 o1.2.2.2.2.2.2.2.2.2.1 o1.2.2.2.2.2.2.2.2.2.2.1 h3 fun r20 h21 =>
 c_inv_Store m2 r20 o1.2.2.2.2.2.2.2.2.2.2.2.1 h21 fun r22 h23 =>
 Q (0, r22, ()) h23) ∧
 ((decide (o1.2.1 = 8)) = false →
 (((decide (o1.2.1 = 9)) = true →
 c_inv_Store m2 (w64 (o1.2.2.1.1 + 2)) o1.2.2.2.2.2.2.2.2.1 h3 fun r24 h25 =>
 Q (0, r24, ()) h25) ∧
 ((decide (o1.2.1 = 9)) = false →
 (((decide (o1.2.1 = 10)) = true →
 c_nil (Value.func (.method "Store") (List.toArray [Kd.val (.iface : Kd) m2]) (List.toArray [])) ∧
 c_deque_place o1.2.2.2.2.2.2.1 o1.2.2.2.2.2.2.2.1 o1.2.2.2.2.2.1 h3 fun r26 h27 =>
 c_inv_Store m2 r26 o1.2.2.2.1 h27 fun r28 h29 =>
 Q (0, r28, ()) h29) ∧
 ((decide (o1.2.1 = 10)) = false →
 (((decide (o1.2.1 = 11)) = true →
 c_nil (Value.func (.method "Store") (List.toArray [Kd.val (.iface : Kd) m2]) (List.toArray [])) ∧
 c_deque_Op_next (o1.1, (o1.2.1, ((o1.2.2.1.1, (o1.2.2.1.2.1, ())), (o1.2.2.2.1, (o1.2.2.2.2.1, (o1.2.2.2.2.2.1, (o1.2.2.2.2.2.2.1, (o1.2.2.2.2.2.2.2.1, (o1.2.2.2.2.2.2.2.2.1, (o1.2.2.2.2.2.2.2.2.2.1, (o1.2.2.2.2.2.2.2.2.2.2.1, (o1.2.2.2.2.2.2.2.2.2.2.2.1, (o1.2.2.2.2.2.2.2.2.2.2.2.2.1, (o1.2.2.2.2.2.2.2.2.2.2.2.2.2.1, (o1.2.2.2.2.2.2.2.2.2.2.2.2.2.2.1, ()))))))))))))))) h3 fun r30 h31 =>
 c_inv_Store m2 (w64 (o1.2.2.1.1 + 1)) r30 h31 fun r32 h33 =>
 Q (0, r32, ()) h33) ∧
 ((decide (o1.2.1 = 11)) = false →
 (((decide (o1.2.1 = 12)) = true →
 (((decide (o1.1 = 2)) = true →
 deque_Op_access.j1 c_inv_Load c_deque_place c_nil o1 m2 Q (o1.2.2.2.2.2.1, ()) h3) ∧
 ((decide (o1.1 = 2)) = false →
 deque_Op_access.j1 c_inv_Load c_deque_place c_nil o1 m2 Q (o1.2.2.2.2.1, ()) h3))) ∧
 ((decide (o1.2.1 = 12)) = false →
 c_inv_CAS m2 (w64 (o1.2.2.1.1 + 0)) o1.2.2.2.2.1 (w64 (o1.2.2.2.2.1 + 1)) h3 fun r40 h41 =>
 ((r40.1 = true →
 Q (1, r40.2.1, ()) h41) ∧
 (r40.1 = false →
 Q (0, r40.2.1, ()) h41))))))))))))))))))))))))))
def deque_Op_access.mk : Mk := (.s (.r [0]) (.s .d (.s (.s .d (.b (.s .d (.c (.s .d .d) (.s .d (.c (.s .d .d) (.s .d (.c (.s .d .d) (.s .d (.c (.s .d .d) (.s .d (.c (.s .d (.s .d .d)) (.s .d (.c (.s .d .d) (.s .d (.c (.s (.q [] [] [.p 0, .p 1, .p 3, .p 5, .p 8, .p 9, .p 10, .w 2 [2, 7, 11, 12, 13, 14, 15], .w 4 [4, 7, 11, 12, 13, 14, 15], .w 6 [6, 7, 11, 12, 13, 14, 15], .o 7, .o 11, .p 12, .p 13, .p 14, .p 15]) .d) (.s .d (.c (.s (.q [] [] [.p 0, .p 1, .p 3, .p 5, .p 8, .p 10, .p 11, .p 12, .w 2 [2, 7, 13, 14, 15], .w 4 [4, 7, 13, 14, 15], .w 6 [6, 7, 13, 14, 15], .w 9 [9, 13, 14, 15], .o 7, .o 13, .p 14, .p 15]) .d) (.s .d (.c (.s .d .d) (.s .d (.c (.s (.q [] [] [.p 0, .p 1, .p 3, .p 5, .p 8, .p 10, .p 11, .p 12, .w 2 [2, 7, 13, 14, 15], .w 4 [4, 7, 13, 14, 15], .w 6 [6, 7, 13, 14, 15], .w 9 [9, 13, 14, 15], .o 7, .o 13, .p 14, .p 15]) .d) (.s .d (.c (.s (.q [] [] [.p 0, .p 1, .p 2, .p 5, .p 6, .p 7, .w 3 [3, 4, 8, 9, 10], .o 4, .o 8, .p 9, .p 10]) .d) (.s .d (.c (.s .d (.j [.slot 9 kI] (.s .d (.c .d .d)) (.s (.q [] [] [.p 0, .p 1, .p 3, .p 5, .p 7, .p 8, .p 9, .w 2 [2, 6, 10, 11, 12, 13, 14], .w 4 [4, 6, 10, 11, 12, 13, 14], .o 6, .o 10, .p 11, .p 12, .p 13, .p 14]) .d))) .d)))))))))))))))))))))))))) (.s .d (.s (.s .d (.c (.s .d .d) .d)) (.s .d .d))))))

def deque_Op_pushed.j1 (Q : Den kdequeOp → Heap → Prop) (s4 : (Tq1 × (Tq1 × Unit))) (h5 : Heap) : Prop :=
 Q (s4.1.1, (s4.1.2.1, ((s4.1.2.2.1, (s4.1.2.2.2.1, ())), (s4.1.2.2.2.2.1, (s4.1.2.2.2.2.2.1, (s4.1.2.2.2.2.2.2.1, (s4.1.2.2.2.2.2.2.2.1, (s4.1.2.2.2.2.2.2.2.2.1, (s4.1.2.2.2.2.2.2.2.2.2.1, (s4.1.2.2.2.2.2.2.2.2.2.2.1, (s4.1.2.2.2.2.2.2.2.2.2.2.2.1, (s4.1.2.2.2.2.2.2.2.2.2.2.2.2.1, (s4.1.2.2.2.2.2.2.2.2.2.2.2.2.2.1, (s4.1.2.2.2.2.2.2.2.2.2.2.2.2.2.2.1, (s4.1.2.2.2.2.2.2.2.2.2.2.2.2.2.2.2.1, ()))))))))))))))) h5
def deque_Op_pushed.M (c_deque_Op_over : Cq5) (o1 : Den kdequeOp) (got2 : Int) (h3 : Heap) (Q : Den kdequeOp → Heap → Prop) : Prop :=
 (((decide (o1.2.1 = 1)) = true →
 deque_Op_pushed.j1 Q ((o1.1, (2, (o1.2.2.1.1, (o1.2.2.1.2.1, (o1.2.2.2.1, (o1.2.2.2.2.1, (got2, (o1.2.2.2.2.2.2.1, (o1.2.2.2.2.2.2.2.1, (o1.2.2.2.2.2.2.2.2.1, (o1.2.2.2.2.2.2.2.2.2.1, (o1.2.2.2.2.2.2.2.2.2.2.1, (o1.2.2.2.2.2.2.2.2.2.2.2.1, (o1.2.2.2.2.2.2.2.2.2.2.2.2.1, (o1.2.2.2.2.2.2.2.2.2.2.2.2.2.1, (o1.2.2.2.2.2.2.2.2.2.2.2.2.2.2.1, ())))))))))))))))), (0, (0, (0, (0, (0, (0, (0, (0, (0, (0, (0, (0, (0, (false, (0, (0, ())))))))))))))))), ()) h3) ∧
 ((decide (o1.2.1 = 1)) = false →
 (((decide (o1.2.1 = 2)) = true →
 deque_Op_pushed.j1 Q ((o1.1, (3, (o1.2.2.1.1, (o1.2.2.1.2.1, (o1.2.2.2.1, (got2, (o1.2.2.2.2.2.1, (o1.2.2.2.2.2.2.1, (o1.2.2.2.2.2.2.2.1, (o1.2.2.2.2.2.2.2.2.1, (o1.2.2.2.2.2.2.2.2.2.1, (o1.2.2.2.2.2.2.2.2.2.2.1, (o1.2.2.2.2.2.2.2.2.2.2.2.1, (o1.2.2.2.2.2.2.2.2.2.2.2.2.1, (o1.2.2.2.2.2.2.2.2.2.2.2.2.2.1, (o1.2.2.2.2.2.2.2.2.2.2.2.2.2.2.1, ())))))))))))))))), (0, (0, (0, (0, (0, (0, (0, (0, (0, (0, (0, (0, (0, (false, (0, (0, ())))))))))))))))), ()) h3) ∧
 ((decide (o1.2.1 = 2)) = false →
 (((decide (o1.2.1 = 3)) = true →
 deque_Op_pushed.j1 Q ((o1.1, (4, (o1.2.2.1.1, (o1.2.2.1.2.1, (o1.2.2.2.1, (o1.2.2.2.2.1, (o1.2.2.2.2.2.1, (got2, (o1.2.2.2.2.2.2.2.1, (o1.2.2.2.2.2.2.2.2.1, (o1.2.2.2.2.2.2.2.2.2.1, (o1.2.2.2.2.2.2.2.2.2.2.1, (o1.2.2.2.2.2.2.2.2.2.2.2.1, (o1.2.2.2.2.2.2.2.2.2.2.2.2.1, (o1.2.2.2.2.2.2.2.2.2.2.2.2.2.1, (o1.2.2.2.2.2.2.2.2.2.2.2.2.2.2.1, ())))))))))))))))), (0, (0, (0, (0, (0, (0, (0, (0, (0, (0, (0, (0, (0, (false, (0, (0, ())))))))))))))))), ()) h3) ∧
 ((decide (o1.2.1 = 3)) = false →
 (((decide (o1.2.1 = 4)) = true →
 (((decide (got2 < 1)) = true →
 c_deque_Op_over (o1.1, (10, ((o1.2.2.1.1, (o1.2.2.1.2.1, ())), (o1.2.2.2.1, (o1.2.2.2.2.1, (o1.2.2.2.2.2.1, (o1.2.2.2.2.2.2.1, (got2, (o1.2.2.2.2.2.2.2.2.1, (o1.2.2.2.2.2.2.2.2.2.1, (o1.2.2.2.2.2.2.2.2.2.2.1, (o1.2.2.2.2.2.2.2.2.2.2.2.1, (o1.2.2.2.2.2.2.2.2.2.2.2.2.1, (o1.2.2.2.2.2.2.2.2.2.2.2.2.2.1, (o1.2.2.2.2.2.2.2.2.2.2.2.2.2.2.1, ()))))))))))))))) 1 0 h3 fun r6 h7 =>
 Q (r6.1, (r6.2.1, ((r6.2.2.1.1, (r6.2.2.1.2.1, ())), (r6.2.2.2.1, (r6.2.2.2.2.1, (r6.2.2.2.2.2.1, (r6.2.2.2.2.2.2.1, (r6.2.2.2.2.2.2.2.1, (r6.2.2.2.2.2.2.2.2.1, (r6.2.2.2.2.2.2.2.2.2.1, (r6.2.2.2.2.2.2.2.2.2.2.1, (r6.2.2.2.2.2.2.2.2.2.2.2.1, (r6.2.2.2.2.2.2.2.2.2.2.2.2.1, (r6.2.2.2.2.2.2.2.2.2.2.2.2.2.1, (r6.2.2.2.2.2.2.2.2.2.2.2.2.2.2.1, ()))))))))))))))) h7) ∧
 ((decide (got2 < 1)) = false →
 (((decide ((w64 (o1.2.2.2.2.2.1 - o1.2.2.2.2.1)) < got2)) = true →
 deque_Op_pushed.j1 Q ((o1.1, (10, (o1.2.2.1.1, (o1.2.2.1.2.1, (o1.2.2.2.1, (o1.2.2.2.2.1, (o1.2.2.2.2.2.1, (o1.2.2.2.2.2.2.1, (got2, (o1.2.2.2.2.2.2.2.2.1, (o1.2.2.2.2.2.2.2.2.2.1, (o1.2.2.2.2.2.2.2.2.2.2.1, (o1.2.2.2.2.2.2.2.2.2.2.2.1, (o1.2.2.2.2.2.2.2.2.2.2.2.2.1, (o1.2.2.2.2.2.2.2.2.2.2.2.2.2.1, (o1.2.2.2.2.2.2.2.2.2.2.2.2.2.2.1, ())))))))))))))))), (0, (0, (0, (0, (0, (0, (0, (0, (0, (0, (0, (0, (0, (false, (0, (0, ())))))))))))))))), ()) h3) ∧
 ((decide ((w64 (o1.2.2.2.2.2.1 - o1.2.2.2.2.1)) < got2)) = false →
 (((decide (o1.2.2.1.2.1 ≤ got2)) = true →
 c_deque_Op_over (o1.1, (10, ((o1.2.2.1.1, (o1.2.2.1.2.1, ())), (o1.2.2.2.1, (o1.2.2.2.2.1, (o1.2.2.2.2.2.1, (o1.2.2.2.2.2.2.1, (got2, (o1.2.2.2.2.2.2.2.2.1, (o1.2.2.2.2.2.2.2.2.2.1, (o1.2.2.2.2.2.2.2.2.2.2.1, (o1.2.2.2.2.2.2.2.2.2.2.2.1, (o1.2.2.2.2.2.2.2.2.2.2.2.2.1, (o1.2.2.2.2.2.2.2.2.2.2.2.2.2.1, (o1.2.2.2.2.2.2.2.2.2.2.2.2.2.2.1, ()))))))))))))))) 3 0 h3 fun r8 h9 =>
 Q (r8.1, (r8.2.1, ((r8.2.2.1.1, (r8.2.2.1.2.1, ())), (r8.2.2.2.1, (r8.2.2.2.2.1, (r8.2.2.2.2.2.1, (r8.2.2.2.2.2.2.1, (r8.2.2.2.2.2.2.2.1, (r8.2.2.2.2.2.2.2.2.1, (r8.2.2.2.2.2.2.2.2.2.1, (r8.2.2.2.2.2.2.2.2.2.2.1, (r8.2.2.2.2.2.2.2.2.2.2.2.1, (r8.2.2.2.2.2.2.2.2.2.2.2.2.1, (r8.2.2.2.2.2.2.2.2.2.2.2.2.2.1, (r8.2.2.2.2.2.2.2.2.2.2.2.2.2.2.1, ()))))))))))))))) h9) ∧
 ((decide (o1.2.2.1.2.1 ≤ got2)) = false →
 deque_Op_pushed.j1 Q ((o1.1, (5, (o1.2.2.1.1, (o1.2.2.1.2.1, (o1.2.2.2.1, (o1.2.2.2.2.1, (o1.2.2.2.2.2.1, (o1.2.2.2.2.2.2.1, (got2, (o1.2.2.2.2.2.2.2.2.1, ((if o1.2.2.1.2.1 < (w64 (2 * got2)) then o1.2.2.1.2.1 else (w64 (2 * got2))), (o1.2.2.2.2.2.2.2.2.2.2.1, (o1.2.2.2.2.2.2.2.2.2.2.2.1, (o1.2.2.2.2.2.2.2.2.2.2.2.2.1, (o1.2.2.2.2.2.2.2.2.2.2.2.2.2.1, (o1.2.2.2.2.2.2.2.2.2.2.2.2.2.2.1, ())))))))))))))))), (0, (0, (0, (0, (0, (0, (0, (0, (0, (0, (0, (0, (0, (false, (0, (0, ())))))))))))))))), ()) h3))))))) ∧
 ((decide (o1.2.1 = 4)) = false →
 (((decide (o1.2.1 = 5)) = true →
 deque_Op_pushed.j1 Q ((o1.1, (6, (o1.2.2.1.1, (o1.2.2.1.2.1, (o1.2.2.2.1, (o1.2.2.2.2.1, (o1.2.2.2.2.2.1, (o1.2.2.2.2.2.2.1, (o1.2.2.2.2.2.2.2.1, (got2, (o1.2.2.2.2.2.2.2.2.2.1, (o1.2.2.2.2.2.2.2.2.2.2.1, (o1.2.2.2.2.2.2.2.2.2.2.2.1, (o1.2.2.2.2.2.2.2.2.2.2.2.2.1, (o1.2.2.2.2.2.2.2.2.2.2.2.2.2.1, (o1.2.2.2.2.2.2.2.2.2.2.2.2.2.2.1, ())))))))))))))))), (0, (0, (0, (0, (0, (0, (0, (0, (0, (0, (0, (0, (0, (false, (0, (0, ())))))))))))))))), ()) h3) ∧
 ((decide (o1.2.1 = 5)) = false →
 (((decide (o1.2.1 = 6)) = true →
 deque_Op_pushed.j1 Q ((o1.1, (7, (o1.2.2.1.1, (o1.2.2.1.2.1, (o1.2.2.2.1, (o1.2.2.2.2.1, (o1.2.2.2.2.2.1, (o1.2.2.2.2.2.2.1, (o1.2.2.2.2.2.2.2.1, (o1.2.2.2.2.2.2.2.2.1, (o1.2.2.2.2.2.2.2.2.2.1, (o1.2.2.2.2.1, (o1.2.2.2.2.2.2.2.2.2.2.2.1, (o1.2.2.2.2.2.2.2.2.2.2.2.2.1, (o1.2.2.2.2.2.2.2.2.2.2.2.2.2.1, (o1.2.2.2.2.2.2.2.2.2.2.2.2.2.2.1, ())))))))))))))))), (0, (0, (0, (0, (0, (0, (0, (0, (0, (0, (0, (0, (0, (false, (0, (0, ())))))))))))))))), ()) h3) ∧
 ((decide (o1.2.1 = 6)) = false →
 (((decide (o1.2.1 = 7)) = true →
 deque_Op_pushed.j1 Q ((o1.1, (8, (o1.2.2.1.1, (o1.2.2.1.2.1, (o1.2.2.2.1, (o1.2.2.2.2.1, (o1.2.2.2.2.2.1, (o1.2.2.2.2.2.2.1, (o1.2.2.2.2.2.2.2.1, (o1.2.2.2.2.2.2.2.2.1, (o1.2.2.2.2.2.2.2.2.2.1, (o1.2.2.2.2.2.2.2.2.2.2.1, (got2, (o1.2.2.2.2.2.2.2.2.2.2.2.2.1, (o1.2.2.2.2.2.2.2.2.2.2.2.2.2.1, (o1.2.2.2.2.2.2.2.2.2.2.2.2.2.2.1, ())))))))))))))))), (0, (0, (0, (0, (0, (0, (0, (0, (0, (0, (0, (0, (0, (false, (0, (0, ())))))))))))))))), ()) h3) ∧
 ((decide (o1.2.1 = 7)) = false →
 (((decide (o1.2.1 = 8)) = true →
 (((decide ((w64 (o1.2.2.2.2.2.2.2.2.2.2.1 + 1)) = o1.2.2.2.2.2.1)) = true →
 deque_Op_pushed.j1 Q ((o1.1, (9, (o1.2.2.1.1, (o1.2.2.1.2.1, (o1.2.2.2.1, (o1.2.2.2.2.1, (o1.2.2.2.2.2.1, (o1.2.2.2.2.2.2.1, (o1.2.2.2.2.2.2.2.1, (o1.2.2.2.2.2.2.2.2.1, (o1.2.2.2.2.2.2.2.2.2.1, ((w64 (o1.2.2.2.2.2.2.2.2.2.2.1 + 1)), (o1.2.2.2.2.2.2.2.2.2.2.2.1, (o1.2.2.2.2.2.2.2.2.2.2.2.2.1, (o1.2.2.2.2.2.2.2.2.2.2.2.2.2.1, (o1.2.2.2.2.2.2.2.2.2.2.2.2.2.2.1, ())))))))))))))))), (0, (0, (0, (0, (0, (0, (0, (0, (0, (0, (0, (0, (0, (false, (0, (0, ())))))))))))))))), ()) h3) ∧
 ((decide ((w64 (o1.2.2.2.2.2.2.2.2.2.2.1 + 1)) = o1.2.2.2.2.2.1)) = false →
 deque_Op_pushed.j1 Q ((o1.1, (7, (o1.2.2.1.1, (o1.2.2.1.2.1, (o1.2.2.2.1, (o1.2.2.2.2.1, (o1.2.2.2.2.2.1, (o1.2.2.2.2.2.2.1, (o1.2.2.2.2.2.2.2.1, (o1.2.2.2.2.2.2.2.2.1, (o1.2.2.2.2.2.2.2.2.2.1, ((w64 (o1.2.2.2.2.2.2.2.2.2.2.1 + 1)), (o1.2.2.2.2.2.2.2.2.2.2.2.1, (o1.2.2.2.2.2.2.2.2.2.2.2.2.1, (o1.2.2.2.2.2.2.2.2.2.2.2.2.2.1, (o1.2.2.2.2.2.2.2.2.2.2.2.2.2.2.1, ())))))))))))))))), (0, (0, (0, (0, (0, (0, (0, (0, (0, (0, (0, (0, (0, (false, (0, (0, ())))))))))))))))), ()) h3))) ∧
 ((decide (o1.2.1 = 8)) = false →
 (((decide (o1.2.1 = 9)) = true →
 deque_Op_pushed.j1 Q ((o1.1, (10, (o1.2.2.1.1, (o1.2.2.1.2.1, (o1.2.2.2.1, (o1.2.2.2.2.1, (o1.2.2.2.2.2.1, (o1.2.2.2.2.2.2.2.2.1, (o1.2.2.2.2.2.2.2.2.2.1, (o1.2.2.2.2.2.2.2.2.1, (o1.2.2.2.2.2.2.2.2.2.1, (o1.2.2.2.2.2.2.2.2.2.2.1, (o1.2.2.2.2.2.2.2.2.2.2.2.1, (o1.2.2.2.2.2.2.2.2.2.2.2.2.1, (o1.2.2.2.2.2.2.2.2.2.2.2.2.2.1, (o1.2.2.2.2.2.2.2.2.2.2.2.2.2.2.1, ())))))))))))))))), (0, (0, (0, (0, (0, (0, (0, (0, (0, (0, (0, (0, (0, (false, (0, (0, ())))))))))))))))), ()) h3) ∧
 ((decide (o1.2.1 = 9)) = false →
 (((decide (o1.2.1 = 10)) = true →
 deque_Op_pushed.j1 Q ((o1.1, (11, (o1.2.2.1.1, (o1.2.2.1.2.1, (o1.2.2.2.1, (o1.2.2.2.2.1, (o1.2.2.2.2.2.1, (o1.2.2.2.2.2.2.1, (o1.2.2.2.2.2.2.2.1, (o1.2.2.2.2.2.2.2.2.1, (o1.2.2.2.2.2.2.2.2.2.1, (o1.2.2.2.2.2.2.2.2.2.2.1, (o1.2.2.2.2.2.2.2.2.2.2.2.1, (o1.2.2.2.2.2.2.2.2.2.2.2.2.1, (o1.2.2.2.2.2.2.2.2.2.2.2.2.2.1, (o1.2.2.2.2.2.2.2.2.2.2.2.2.2.2.1, ())))))))))))))))), (0, (0, (0, (0, (0, (0, (0, (0, (0, (0, (0, (0, (0, (false, (0, (0, ())))))))))))))))), ()) h3) ∧
 ((decide (o1.2.1 = 10)) = false →
 (((decide (o1.2.1 = 11)) = true →
 c_deque_Op_over (o1.1, (o1.2.1, ((o1.2.2.1.1, (o1.2.2.1.2.1, ())), (o1.2.2.2.1, (o1.2.2.2.2.1, (o1.2.2.2.2.2.1, (o1.2.2.2.2.2.2.1, (o1.2.2.2.2.2.2.2.1, (o1.2.2.2.2.2.2.2.2.1, (o1.2.2.2.2.2.2.2.2.2.1, (o1.2.2.2.2.2.2.2.2.2.2.1, (o1.2.2.2.2.2.2.2.2.2.2.2.1, (o1.2.2.2.2.2.2.2.2.2.2.2.2.1, (o1.2.2.2.2.2.2.2.2.2.2.2.2.2.1, (o1.2.2.2.2.2.2.2.2.2.2.2.2.2.2.1, ()))))))))))))))) 2 0 h3 fun r10 h11 =>
 Q (r10.1, (r10.2.1, ((r10.2.2.1.1, (r10.2.2.1.2.1, ())), (r10.2.2.2.1, (r10.2.2.2.2.1, (r10.2.2.2.2.2.1, (r10.2.2.2.2.2.2.1, (r10.2.2.2.2.2.2.2.1, (r10.2.2.2.2.2.2.2.2.1, (r10.2.2.2.2.2.2.2.2.2.1, (r10.2.2.2.2.2.2.2.2.2.2.1, (r10.2.2.2.2.2.2.2.2.2.2.2.1, (r10.2.2.2.2.2.2.2.2.2.2.2.2.1, (r10.2.2.2.2.2.2.2.2.2.2.2.2.2.1, (r10.2.2.2.2.2.2.2.2.2.2.2.2.2.2.1, ()))))))))))))))) h11) ∧
 ((decide (o1.2.1 = 11)) = false →
 deque_Op_pushed.j1 Q ((o1.1, (o1.2.1, (o1.2.2.1.1, (o1.2.2.1.2.1, (o1.2.2.2.1, (o1.2.2.2.2.1, (o1.2.2.2.2.2.1, (o1.2.2.2.2.2.2.1, (o1.2.2.2.2.2.2.2.1, (o1.2.2.2.2.2.2.2.2.1, (o1.2.2.2.2.2.2.2.2.2.1, (o1.2.2.2.2.2.2.2.2.2.2.1, (o1.2.2.2.2.2.2.2.2.2.2.2.1, (o1.2.2.2.2.2.2.2.2.2.2.2.2.1, (o1.2.2.2.2.2.2.2.2.2.2.2.2.2.1, (o1.2.2.2.2.2.2.2.2.2.2.2.2.2.2.1, ())))))))))))))))), (0, (0, (0, (0, (0, (0, (0, (0, (0, (0, (0, (0, (0, (false, (0, (0, ())))))))))))))))), ()) h3))))))))))))))))))))))
def deque_Op_pushed.mk : Mk := (.s (.r [0, 1]) (.j [.box 2 (.pair kI (.pair kI (.pair kI (.pair kI (.pair kI (.pair kI (.pair kI (.pair kI (.pair kI (.pair kI (.pair kI (.pair kI (.pair kI (.pair .bool kparkLot)))))))))))))), .box 4 (.pair kI (.pair kI (.pair kI (.pair kI (.pair kI (.pair kI (.pair kI (.pair kI (.pair kI (.pair kI (.pair kI (.pair kI (.pair kI (.pair .bool kparkLot))))))))))))))] (.s .d (.b (.s .d (.c .d (.s .d (.c .d (.s .d (.c .d (.s .d (.c (.s .d (.b (.s .d (.c (.s .d .d) (.s .d (.c .d (.s .d (.c (.s .d .d) .d)))))))) (.s .d (.c .d (.s .d (.c .d (.s .d (.c .d (.s .d (.c (.s .d (.s .d (.s .d (.c .d .d)))) (.s .d (.c .d (.s .d (.c .d (.s .d (.c (.s .d .d) .d)))))))))))))))))))))))) (.s .d .d)))

def deque_Op_popped.j1 (Q : Den kdequeOp → Heap → Prop) (s4 : (Tq1 × (Tq1 × Unit))) (h5 : Heap) : Prop :=
 Q (s4.1.1, (s4.1.2.1, ((s4.1.2.2.1, (s4.1.2.2.2.1, ())), (s4.1.2.2.2.2.1, (s4.1.2.2.2.2.2.1, (s4.1.2.2.2.2.2.2.1, (s4.1.2.2.2.2.2.2.2.1, (s4.1.2.2.2.2.2.2.2.2.1, (s4.1.2.2.2.2.2.2.2.2.2.1, (s4.1.2.2.2.2.2.2.2.2.2.2.1, (s4.1.2.2.2.2.2.2.2.2.2.2.2.1, (s4.1.2.2.2.2.2.2.2.2.2.2.2.2.1, (s4.1.2.2.2.2.2.2.2.2.2.2.2.2.2.1, (s4.1.2.2.2.2.2.2.2.2.2.2.2.2.2.2.1, (s4.1.2.2.2.2.2.2.2.2.2.2.2.2.2.2.2.1, ()))))))))))))))) h5
def deque_Op_popped.M (c_deque_Op_over : Cq5) (o1 : Den kdequeOp) (got2 : Int) (h3 : Heap) (Q : Den kdequeOp → Heap → Prop) : Prop :=
 (((decide (o1.2.1 = 1)) = true →
 deque_Op_popped.j1 Q ((o1.1, (3, (o1.2.2.1.1, (o1.2.2.1.2.1, (o1.2.2.2.1, (o1.2.2.2.2.1, ((w64 (got2 - 1)), (o1.2.2.2.2.2.2.1, (o1.2.2.2.2.2.2.2.1, (o1.2.2.2.2.2.2.2.2.1, (o1.2.2.2.2.2.2.2.2.2.1, (o1.2.2.2.2.2.2.2.2.2.2.1, (o1.2.2.2.2.2.2.2.2.2.2.2.1, (o1.2.2.2.2.2.2.2.2.2.2.2.2.1, (o1.2.2.2.2.2.2.2.2.2.2.2.2.2.1, (o1.2.2.2.2.2.2.2.2.2.2.2.2.2.2.1, ())))))))))))))))), (0, (0, (0, (0, (0, (0, (0, (0, (0, (0, (0, (0, (0, (false, (0, (0, ())))))))))))))))), ()) h3) ∧
 ((decide (o1.2.1 = 1)) = false →
 (((decide (o1.2.1 = 3)) = true →
 deque_Op_popped.j1 Q ((o1.1, (11, (o1.2.2.1.1, (o1.2.2.1.2.1, (o1.2.2.2.1, (o1.2.2.2.2.1, (o1.2.2.2.2.2.1, (got2, (o1.2.2.2.2.2.2.2.1, (o1.2.2.2.2.2.2.2.2.1, (o1.2.2.2.2.2.2.2.2.2.1, (o1.2.2.2.2.2.2.2.2.2.2.1, (o1.2.2.2.2.2.2.2.2.2.2.2.1, (o1.2.2.2.2.2.2.2.2.2.2.2.2.1, (o1.2.2.2.2.2.2.2.2.2.2.2.2.2.1, (o1.2.2.2.2.2.2.2.2.2.2.2.2.2.2.1, ())))))))))))))))), (0, (0, (0, (0, (0, (0, (0, (0, (0, (0, (0, (0, (0, (false, (0, (0, ())))))))))))))))), ()) h3) ∧
 ((decide (o1.2.1 = 3)) = false →
 (((decide (o1.2.1 = 11)) = true →
 (((decide (o1.2.2.2.2.2.2.2.2.2.2.1 = 0)) = true →
 deque_Op_popped.j1 Q ((o1.1, (2, (o1.2.2.1.1, (o1.2.2.1.2.1, (o1.2.2.2.1, (o1.2.2.2.2.1, (o1.2.2.2.2.2.1, (o1.2.2.2.2.2.2.1, (o1.2.2.2.2.2.2.2.1, (o1.2.2.2.2.2.2.2.2.1, (o1.2.2.2.2.2.2.2.2.2.1, (o1.2.2.2.2.2.2.2.2.2.2.1, (o1.2.2.2.2.2.2.2.2.2.2.2.1, (o1.2.2.2.2.2.2.2.2.2.2.2.2.1, (o1.2.2.2.2.2.2.2.2.2.2.2.2.2.1, (o1.2.2.2.2.2.2.2.2.2.2.2.2.2.2.1, ())))))))))))))))), (0, (0, (0, (0, (0, (0, (0, (0, (0, (0, (0, (0, (0, (false, (0, (0, ())))))))))))))))), ()) h3) ∧
 ((decide (o1.2.2.2.2.2.2.2.2.2.2.1 = 0)) = false →
 ((o1.2.2.2.2.2.2.2.2.2.2.2.2.1 = true →
 c_deque_Op_over (o1.1, (o1.2.1, ((o1.2.2.1.1, (o1.2.2.1.2.1, ())), (o1.2.2.2.1, (o1.2.2.2.2.1, (o1.2.2.2.2.2.1, (o1.2.2.2.2.2.2.1, (o1.2.2.2.2.2.2.2.1, (o1.2.2.2.2.2.2.2.2.1, (o1.2.2.2.2.2.2.2.2.2.1, (o1.2.2.2.2.2.2.2.2.2.2.1, (o1.2.2.2.2.2.2.2.2.2.2.2.1, (o1.2.2.2.2.2.2.2.2.2.2.2.2.1, (o1.2.2.2.2.2.2.2.2.2.2.2.2.2.1, (o1.2.2.2.2.2.2.2.2.2.2.2.2.2.2.1, ()))))))))))))))) 4 o1.2.2.2.2.2.2.2.2.2.2.2.1 h3 fun r6 h7 =>
 Q (r6.1, (r6.2.1, ((r6.2.2.1.1, (r6.2.2.1.2.1, ())), (r6.2.2.2.1, (r6.2.2.2.2.1, (r6.2.2.2.2.2.1, (r6.2.2.2.2.2.2.1, (r6.2.2.2.2.2.2.2.1, (r6.2.2.2.2.2.2.2.2.1, (r6.2.2.2.2.2.2.2.2.2.1, (r6.2.2.2.2.2.2.2.2.2.2.1, (r6.2.2.2.2.2.2.2.2.2.2.2.1, (r6.2.2.2.2.2.2.2.2.2.2.2.2.1, (r6.2.2.2.2.2.2.2.2.2.2.2.2.2.1, (r6.2.2.2.2.2.2.2.2.2.2.2.2.2.2.1, ()))))))))))))))) h7) ∧
 (o1.2.2.2.2.2.2.2.2.2.2.2.2.1 = false →
 c_deque_Op_over (o1.1, (o1.2.1, ((o1.2.2.1.1, (o1.2.2.1.2.1, ())), (o1.2.2.2.1, (o1.2.2.2.2.1, (o1.2.2.2.2.2.1, (o1.2.2.2.2.2.2.1, (o1.2.2.2.2.2.2.2.1, (o1.2.2.2.2.2.2.2.2.1, (o1.2.2.2.2.2.2.2.2.2.1, (o1.2.2.2.2.2.2.2.2.2.2.1, (o1.2.2.2.2.2.2.2.2.2.2.2.1, (o1.2.2.2.2.2.2.2.2.2.2.2.2.1, (o1.2.2.2.2.2.2.2.2.2.2.2.2.2.1, (o1.2.2.2.2.2.2.2.2.2.2.2.2.2.2.1, ()))))))))))))))) 5 0 h3 fun r8 h9 =>
 Q (r8.1, (r8.2.1, ((r8.2.2.1.1, (r8.2.2.1.2.1, ())), (r8.2.2.2.1, (r8.2.2.2.2.1, (r8.2.2.2.2.2.1, (r8.2.2.2.2.2.2.1, (r8.2.2.2.2.2.2.2.1, (r8.2.2.2.2.2.2.2.2.1, (r8.2.2.2.2.2.2.2.2.2.1, (r8.2.2.2.2.2.2.2.2.2.2.1, (r8.2.2.2.2.2.2.2.2.2.2.2.1, (r8.2.2.2.2.2.2.2.2.2.2.2.2.1, (r8.2.2.2.2.2.2.2.2.2.2.2.2.2.1, (r8.2.2.2.2.2.2.2.2.2.2.2.2.2.2.1, ()))))))))))))))) h9))))) ∧
 ((decide (o1.2.1 = 11)) = false →
 (((decide (o1.2.1 = 2)) = true →
 (((decide (o1.2.2.2.2.2.1 < got2)) = true →
 deque_Op_popped.j1 Q ((o1.1, (11, (o1.2.2.1.1, (o1.2.2.1.2.1, (o1.2.2.2.1, (got2, (o1.2.2.2.2.2.1, (o1.2.2.2.2.2.2.1, (o1.2.2.2.2.2.2.2.1, (o1.2.2.2.2.2.2.2.2.1, (o1.2.2.2.2.2.2.2.2.2.1, (1, (o1.2.2.2.2.2.2.2.2.2.2.2.1, (o1.2.2.2.2.2.2.2.2.2.2.2.2.1, (o1.2.2.2.2.2.2.2.2.2.2.2.2.2.1, (o1.2.2.2.2.2.2.2.2.2.2.2.2.2.2.1, ())))))))))))))))), (0, (0, (0, (0, (0, (0, (0, (0, (0, (0, (0, (0, (0, (false, (0, (0, ())))))))))))))))), ()) h3) ∧
 ((decide (o1.2.2.2.2.2.1 < got2)) = false →
 deque_Op_popped.j1 Q ((o1.1, (4, (o1.2.2.1.1, (o1.2.2.1.2.1, (o1.2.2.2.1, (got2, (o1.2.2.2.2.2.1, (o1.2.2.2.2.2.2.1, (o1.2.2.2.2.2.2.2.1, (o1.2.2.2.2.2.2.2.2.1, (o1.2.2.2.2.2.2.2.2.2.1, (1, (o1.2.2.2.2.2.2.2.2.2.2.2.1, (o1.2.2.2.2.2.2.2.2.2.2.2.2.1, (o1.2.2.2.2.2.2.2.2.2.2.2.2.2.1, (o1.2.2.2.2.2.2.2.2.2.2.2.2.2.2.1, ())))))))))))))))), (0, (0, (0, (0, (0, (0, (0, (0, (0, (0, (0, (0, (0, (false, (0, (0, ())))))))))))))))), ()) h3))) ∧
 ((decide (o1.2.1 = 2)) = false →
 (((decide (o1.2.1 = 4)) = true →
 (((decide (got2 < 1)) = true →
 c_deque_Op_over (o1.1, (12, ((o1.2.2.1.1, (o1.2.2.1.2.1, ())), (o1.2.2.2.1, (o1.2.2.2.2.1, (o1.2.2.2.2.2.1, (o1.2.2.2.2.2.2.1, (got2, (o1.2.2.2.2.2.2.2.2.1, (o1.2.2.2.2.2.2.2.2.2.1, (o1.2.2.2.2.2.2.2.2.2.2.1, (o1.2.2.2.2.2.2.2.2.2.2.2.1, (o1.2.2.2.2.2.2.2.2.2.2.2.2.1, (o1.2.2.2.2.2.2.2.2.2.2.2.2.2.1, (o1.2.2.2.2.2.2.2.2.2.2.2.2.2.2.1, ()))))))))))))))) 1 0 h3 fun r10 h11 =>
 Q (r10.1, (r10.2.1, ((r10.2.2.1.1, (r10.2.2.1.2.1, ())), (r10.2.2.2.1, (r10.2.2.2.2.1, (r10.2.2.2.2.2.1, (r10.2.2.2.2.2.2.1, (r10.2.2.2.2.2.2.2.1, (r10.2.2.2.2.2.2.2.2.1, (r10.2.2.2.2.2.2.2.2.2.1, (r10.2.2.2.2.2.2.2.2.2.2.1, (r10.2.2.2.2.2.2.2.2.2.2.2.1, (r10.2.2.2.2.2.2.2.2.2.2.2.2.1, (r10.2.2.2.2.2.2.2.2.2.2.2.2.2.1, (r10.2.2.2.2.2.2.2.2.2.2.2.2.2.2.1, ()))))))))))))))) h11) ∧
 ((decide (got2 < 1)) = false →
 deque_Op_popped.j1 Q ((o1.1, (12, (o1.2.2.1.1, (o1.2.2.1.2.1, (o1.2.2.2.1, (o1.2.2.2.2.1, (o1.2.2.2.2.2.1, (o1.2.2.2.2.2.2.1, (got2, (o1.2.2.2.2.2.2.2.2.1, (o1.2.2.2.2.2.2.2.2.2.1, (o1.2.2.2.2.2.2.2.2.2.2.1, (o1.2.2.2.2.2.2.2.2.2.2.2.1, (o1.2.2.2.2.2.2.2.2.2.2.2.2.1, (o1.2.2.2.2.2.2.2.2.2.2.2.2.2.1, (o1.2.2.2.2.2.2.2.2.2.2.2.2.2.2.1, ())))))))))))))))), (0, (0, (0, (0, (0, (0, (0, (0, (0, (0, (0, (0, (0, (false, (0, (0, ())))))))))))))))), ()) h3))) ∧
 ((decide (o1.2.1 = 4)) = false →
 (((decide (o1.2.1 = 12)) = true →
 (((decide (o1.2.2.2.2.1 < o1.2.2.2.2.2.1)) = true →
 c_deque_Op_over (o1.1, (13, ((o1.2.2.1.1, (o1.2.2.1.2.1, ())), (o1.2.2.2.1, (o1.2.2.2.2.1, (o1.2.2.2.2.2.1, (o1.2.2.2.2.2.2.1, (o1.2.2.2.2.2.2.2.1, (o1.2.2.2.2.2.2.2.2.1, (o1.2.2.2.2.2.2.2.2.2.1, (o1.2.2.2.2.2.2.2.2.2.2.1, (got2, (o1.2.2.2.2.2.2.2.2.2.2.2.2.1, (o1.2.2.2.2.2.2.2.2.2.2.2.2.2.1, (o1.2.2.2.2.2.2.2.2.2.2.2.2.2.2.1, ()))))))))))))))) 4 got2 h3 fun r12 h13 =>
 Q (r12.1, (r12.2.1, ((r12.2.2.1.1, (r12.2.2.1.2.1, ())), (r12.2.2.2.1, (r12.2.2.2.2.1, (r12.2.2.2.2.2.1, (r12.2.2.2.2.2.2.1, (r12.2.2.2.2.2.2.2.1, (r12.2.2.2.2.2.2.2.2.1, (r12.2.2.2.2.2.2.2.2.2.1, (r12.2.2.2.2.2.2.2.2.2.2.1, (r12.2.2.2.2.2.2.2.2.2.2.2.1, (r12.2.2.2.2.2.2.2.2.2.2.2.2.1, (r12.2.2.2.2.2.2.2.2.2.2.2.2.2.1, (r12.2.2.2.2.2.2.2.2.2.2.2.2.2.2.1, ()))))))))))))))) h13) ∧
 ((decide (o1.2.2.2.2.1 < o1.2.2.2.2.2.1)) = false →
 deque_Op_popped.j1 Q ((o1.1, (13, (o1.2.2.1.1, (o1.2.2.1.2.1, (o1.2.2.2.1, (o1.2.2.2.2.1, (o1.2.2.2.2.2.1, (o1.2.2.2.2.2.2.1, (o1.2.2.2.2.2.2.2.1, (o1.2.2.2.2.2.2.2.2.1, (o1.2.2.2.2.2.2.2.2.2.1, (o1.2.2.2.2.2.2.2.2.2.2.1, (got2, (o1.2.2.2.2.2.2.2.2.2.2.2.2.1, (o1.2.2.2.2.2.2.2.2.2.2.2.2.2.1, (o1.2.2.2.2.2.2.2.2.2.2.2.2.2.2.1, ())))))))))))))))), (0, (0, (0, (0, (0, (0, (0, (0, (0, (0, (0, (0, (0, (false, (0, (0, ())))))))))))))))), ()) h3))) ∧
 ((decide (o1.2.1 = 12)) = false →
 (((decide (o1.2.1 = 13)) = true →
 deque_Op_popped.j1 Q ((o1.1, (11, (o1.2.2.1.1, (o1.2.2.1.2.1, (o1.2.2.2.1, (o1.2.2.2.2.1, (o1.2.2.2.2.2.1, (o1.2.2.2.2.2.2.1, (o1.2.2.2.2.2.2.2.1, (o1.2.2.2.2.2.2.2.2.1, (o1.2.2.2.2.2.2.2.2.2.1, (o1.2.2.2.2.2.2.2.2.2.2.1, (o1.2.2.2.2.2.2.2.2.2.2.2.1, ((decide (got2 = 1)), (o1.2.2.2.2.2.2.2.2.2.2.2.2.2.1, (o1.2.2.2.2.2.2.2.2.2.2.2.2.2.2.1, ())))))))))))))))), (0, (0, (0, (0, (0, (0, (0, (0, (0, (0, (0, (0, (0, (false, (0, (0, ())))))))))))))))), ()) h3) ∧
 ((decide (o1.2.1 = 13)) = false →
 deque_Op_popped.j1 Q ((o1.1, (o1.2.1, (o1.2.2.1.1, (o1.2.2.1.2.1, (o1.2.2.2.1, (o1.2.2.2.2.1, (o1.2.2.2.2.2.1, (o1.2.2.2.2.2.2.1, (o1.2.2.2.2.2.2.2.1, (o1.2.2.2.2.2.2.2.2.1, (o1.2.2.2.2.2.2.2.2.2.1, (o1.2.2.2.2.2.2.2.2.2.2.1, (o1.2.2.2.2.2.2.2.2.2.2.2.1, (o1.2.2.2.2.2.2.2.2.2.2.2.2.1, (o1.2.2.2.2.2.2.2.2.2.2.2.2.2.1, (o1.2.2.2.2.2.2.2.2.2.2.2.2.2.2.1, ())))))))))))))))), (0, (0, (0, (0, (0, (0, (0, (0, (0, (0, (0, (0, (0, (false, (0, (0, ())))))))))))))))), ()) h3))))))))))))))
def deque_Op_popped.mk : Mk := (.s (.r [0, 1]) (.j [.box 2 (.pair kI (.pair kI (.pair kI (.pair kI (.pair kI (.pair kI (.pair kI (.pair kI (.pair kI (.pair kI (.pair kI (.pair kI (.pair kI (.pair .bool kparkLot)))))))))))))), .box 4 (.pair kI (.pair kI (.pair kI (.pair kI (.pair kI (.pair kI (.pair kI (.pair kI (.pair kI (.pair kI (.pair kI (.pair kI (.pair kI (.pair .bool kparkLot))))))))))))))] (.s .d (.b (.s .d (.c .d (.s .d (.c .d (.s .d (.c (.b (.s .d (.c .d (.s .d (.c (.s .d .d) (.s .d .d)))))) (.s .d (.c (.s .d (.s .d (.c .d .d))) (.s .d (.c (.s .d (.s .d (.c (.s .d .d) .d))) (.s .d (.c (.s .d (.s .d (.c (.s .d .d) .d))) (.s .d (.c .d .d)))))))))))))))) (.s .d .d)))

def deque_Op_stolen.j1 (Q : Den kdequeOp → Heap → Prop) (s4 : (Tq1 × (Tq1 × Unit))) (h5 : Heap) : Prop :=
 Q (s4.1.1, (s4.1.2.1, ((s4.1.2.2.1, (s4.1.2.2.2.1, ())), (s4.1.2.2.2.2.1, (s4.1.2.2.2.2.2.1, (s4.1.2.2.2.2.2.2.1, (s4.1.2.2.2.2.2.2.2.1, (s4.1.2.2.2.2.2.2.2.2.1, (s4.1.2.2.2.2.2.2.2.2.2.1, (s4.1.2.2.2.2.2.2.2.2.2.2.1, (s4.1.2.2.2.2.2.2.2.2.2.2.2.1, (s4.1.2.2.2.2.2.2.2.2.2.2.2.2.1, (s4.1.2.2.2.2.2.2.2.2.2.2.2.2.2.1, (s4.1.2.2.2.2.2.2.2.2.2.2.2.2.2.2.1, (s4.1.2.2.2.2.2.2.2.2.2.2.2.2.2.2.2.1, ()))))))))))))))) h5
def deque_Op_stolen.M (c_deque_Op_over : Cq5) (o1 : Den kdequeOp) (got2 : Int) (h3 : Heap) (Q : Den kdequeOp → Heap → Prop) : Prop :=
 (((decide (o1.2.1 = 2)) = true →
 deque_Op_stolen.j1 Q ((o1.1, (1, (o1.2.2.1.1, (o1.2.2.1.2.1, (o1.2.2.2.1, (got2, (o1.2.2.2.2.2.1, (o1.2.2.2.2.2.2.1, (o1.2.2.2.2.2.2.2.1, (o1.2.2.2.2.2.2.2.2.1, (o1.2.2.2.2.2.2.2.2.2.1, (o1.2.2.2.2.2.2.2.2.2.2.1, (o1.2.2.2.2.2.2.2.2.2.2.2.1, (o1.2.2.2.2.2.2.2.2.2.2.2.2.1, (o1.2.2.2.2.2.2.2.2.2.2.2.2.2.1, (o1.2.2.2.2.2.2.2.2.2.2.2.2.2.2.1, ())))))))))))))))), (0, (0, (0, (0, (0, (0, (0, (0, (0, (0, (0, (0, (0, (false, (0, (0, ())))))))))))))))), ()) h3) ∧
 ((decide (o1.2.1 = 2)) = false →
 (((decide (o1.2.1 = 1)) = true →
 (((decide (got2 ≤ o1.2.2.2.2.1)) = true →
 c_deque_Op_over (o1.1, (3, ((o1.2.2.1.1, (o1.2.2.1.2.1, ())), (o1.2.2.2.1, (o1.2.2.2.2.1, (got2, (o1.2.2.2.2.2.2.1, (o1.2.2.2.2.2.2.2.1, (o1.2.2.2.2.2.2.2.2.1, (o1.2.2.2.2.2.2.2.2.2.1, (o1.2.2.2.2.2.2.2.2.2.2.1, (o1.2.2.2.2.2.2.2.2.2.2.2.1, (o1.2.2.2.2.2.2.2.2.2.2.2.2.1, (o1.2.2.2.2.2.2.2.2.2.2.2.2.2.1, (o1.2.2.2.2.2.2.2.2.2.2.2.2.2.2.1, ()))))))))))))))) 5 0 h3 fun r6 h7 =>
 Q (r6.1, (r6.2.1, ((r6.2.2.1.1, (r6.2.2.1.2.1, ())), (r6.2.2.2.1, (r6.2.2.2.2.1, (r6.2.2.2.2.2.1, (r6.2.2.2.2.2.2.1, (r6.2.2.2.2.2.2.2.1, (r6.2.2.2.2.2.2.2.2.1, (r6.2.2.2.2.2.2.2.2.2.1, (r6.2.2.2.2.2.2.2.2.2.2.1, (r6.2.2.2.2.2.2.2.2.2.2.2.1, (r6.2.2.2.2.2.2.2.2.2.2.2.2.1, (r6.2.2.2.2.2.2.2.2.2.2.2.2.2.1, (r6.2.2.2.2.2.2.2.2.2.2.2.2.2.2.1, ()))))))))))))))) h7) ∧
 ((decide (got2 ≤ o1.2.2.2.2.1)) = false →
 deque_Op_stolen.j1 Q ((o1.1, (3, (o1.2.2.1.1, (o1.2.2.1.2.1, (o1.2.2.2.1, (o1.2.2.2.2.1, (got2, (o1.2.2.2.2.2.2.1, (o1.2.2.2.2.2.2.2.1, (o1.2.2.2.2.2.2.2.2.1, (o1.2.2.2.2.2.2.2.2.2.1, (o1.2.2.2.2.2.2.2.2.2.2.1, (o1.2.2.2.2.2.2.2.2.2.2.2.1, (o1.2.2.2.2.2.2.2.2.2.2.2.2.1, (o1.2.2.2.2.2.2.2.2.2.2.2.2.2.1, (o1.2.2.2.2.2.2.2.2.2.2.2.2.2.2.1, ())))))))))))))))), (0, (0, (0, (0, (0, (0, (0, (0, (0, (0, (0, (0, (0, (false, (0, (0, ())))))))))))))))), ()) h3))) ∧
 ((decide (o1.2.1 = 1)) = false →
 (((decide (o1.2.1 = 3)) = true →
 deque_Op_stolen.j1 Q ((o1.1, (4, (o1.2.2.1.1, (o1.2.2.1.2.1, (o1.2.2.2.1, (o1.2.2.2.2.1, (o1.2.2.2.2.2.1, (got2, (o1.2.2.2.2.2.2.2.1, (o1.2.2.2.2.2.2.2.2.1, (o1.2.2.2.2.2.2.2.2.2.1, (o1.2.2.2.2.2.2.2.2.2.2.1, (o1.2.2.2.2.2.2.2.2.2.2.2.1, (o1.2.2.2.2.2.2.2.2.2.2.2.2.1, (o1.2.2.2.2.2.2.2.2.2.2.2.2.2.1, (o1.2.2.2.2.2.2.2.2.2.2.2.2.2.2.1, ())))))))))))))))), (0, (0, (0, (0, (0, (0, (0, (0, (0, (0, (0, (0, (0, (false, (0, (0, ())))))))))))))))), ()) h3) ∧
 ((decide (o1.2.1 = 3)) = false →
 (((decide (o1.2.1 = 4)) = true →
 (((decide (got2 < 1)) = true →
 c_deque_Op_over (o1.1, (12, ((o1.2.2.1.1, (o1.2.2.1.2.1, ())), (o1.2.2.2.1, (o1.2.2.2.2.1, (o1.2.2.2.2.2.1, (o1.2.2.2.2.2.2.1, (got2, (o1.2.2.2.2.2.2.2.2.1, (o1.2.2.2.2.2.2.2.2.2.1, (o1.2.2.2.2.2.2.2.2.2.2.1, (o1.2.2.2.2.2.2.2.2.2.2.2.1, (o1.2.2.2.2.2.2.2.2.2.2.2.2.1, (o1.2.2.2.2.2.2.2.2.2.2.2.2.2.1, (o1.2.2.2.2.2.2.2.2.2.2.2.2.2.2.1, ()))))))))))))))) 1 0 h3 fun r8 h9 =>
 Q (r8.1, (r8.2.1, ((r8.2.2.1.1, (r8.2.2.1.2.1, ())), (r8.2.2.2.1, (r8.2.2.2.2.1, (r8.2.2.2.2.2.1, (r8.2.2.2.2.2.2.1, (r8.2.2.2.2.2.2.2.1, (r8.2.2.2.2.2.2.2.2.1, (r8.2.2.2.2.2.2.2.2.2.1, (r8.2.2.2.2.2.2.2.2.2.2.1, (r8.2.2.2.2.2.2.2.2.2.2.2.1, (r8.2.2.2.2.2.2.2.2.2.2.2.2.1, (r8.2.2.2.2.2.2.2.2.2.2.2.2.2.1, (r8.2.2.2.2.2.2.2.2.2.2.2.2.2.2.1, ()))))))))))))))) h9) ∧
 ((decide (got2 < 1)) = false →
 deque_Op_stolen.j1 Q ((o1.1, (12, (o1.2.2.1.1, (o1.2.2.1.2.1, (o1.2.2.2.1, (o1.2.2.2.2.1, (o1.2.2.2.2.2.1, (o1.2.2.2.2.2.2.1, (got2, (o1.2.2.2.2.2.2.2.2.1, (o1.2.2.2.2.2.2.2.2.2.1, (o1.2.2.2.2.2.2.2.2.2.2.1, (o1.2.2.2.2.2.2.2.2.2.2.2.1, (o1.2.2.2.2.2.2.2.2.2.2.2.2.1, (o1.2.2.2.2.2.2.2.2.2.2.2.2.2.1, (o1.2.2.2.2.2.2.2.2.2.2.2.2.2.2.1, ())))))))))))))))), (0, (0, (0, (0, (0, (0, (0, (0, (0, (0, (0, (0, (0, (false, (0, (0, ())))))))))))))))), ()) h3))) ∧
 ((decide (o1.2.1 = 4)) = false →
 (((decide (o1.2.1 = 12)) = true →
 deque_Op_stolen.j1 Q ((o1.1, (13, (o1.2.2.1.1, (o1.2.2.1.2.1, (o1.2.2.2.1, (o1.2.2.2.2.1, (o1.2.2.2.2.2.1, (o1.2.2.2.2.2.2.1, (o1.2.2.2.2.2.2.2.1, (o1.2.2.2.2.2.2.2.2.1, (o1.2.2.2.2.2.2.2.2.2.1, (o1.2.2.2.2.2.2.2.2.2.2.1, (got2, (o1.2.2.2.2.2.2.2.2.2.2.2.2.1, (o1.2.2.2.2.2.2.2.2.2.2.2.2.2.1, (o1.2.2.2.2.2.2.2.2.2.2.2.2.2.2.1, ())))))))))))))))), (0, (0, (0, (0, (0, (0, (0, (0, (0, (0, (0, (0, (0, (false, (0, (0, ())))))))))))))))), ()) h3) ∧
 ((decide (o1.2.1 = 12)) = false →
 (((decide (o1.2.1 = 13)) = true →
 (((decide (got2 = 1)) = true →
 c_deque_Op_over (o1.1, (o1.2.1, ((o1.2.2.1.1, (o1.2.2.1.2.1, ())), (o1.2.2.2.1, (o1.2.2.2.2.1, (o1.2.2.2.2.2.1, (o1.2.2.2.2.2.2.1, (o1.2.2.2.2.2.2.2.1, (o1.2.2.2.2.2.2.2.2.1, (o1.2.2.2.2.2.2.2.2.2.1, (o1.2.2.2.2.2.2.2.2.2.2.1, (o1.2.2.2.2.2.2.2.2.2.2.2.1, (o1.2.2.2.2.2.2.2.2.2.2.2.2.1, (o1.2.2.2.2.2.2.2.2.2.2.2.2.2.1, (o1.2.2.2.2.2.2.2.2.2.2.2.2.2.2.1, ()))))))))))))))) 4 o1.2.2.2.2.2.2.2.2.2.2.2.1 h3 fun r10 h11 =>
 Q (r10.1, (r10.2.1, ((r10.2.2.1.1, (r10.2.2.1.2.1, ())), (r10.2.2.2.1, (r10.2.2.2.2.1, (r10.2.2.2.2.2.1, (r10.2.2.2.2.2.2.1, (r10.2.2.2.2.2.2.2.1, (r10.2.2.2.2.2.2.2.2.1, (r10.2.2.2.2.2.2.2.2.2.1, (r10.2.2.2.2.2.2.2.2.2.2.1, (r10.2.2.2.2.2.2.2.2.2.2.2.1, (r10.2.2.2.2.2.2.2.2.2.2.2.2.1, (r10.2.2.2.2.2.2.2.2.2.2.2.2.2.1, (r10.2.2.2.2.2.2.2.2.2.2.2.2.2.2.1, ()))))))))))))))) h11) ∧
 ((decide (got2 = 1)) = false →
 c_deque_Op_over (o1.1, (o1.2.1, ((o1.2.2.1.1, (o1.2.2.1.2.1, ())), (o1.2.2.2.1, (o1.2.2.2.2.1, (o1.2.2.2.2.2.1, (o1.2.2.2.2.2.2.1, (o1.2.2.2.2.2.2.2.1, (o1.2.2.2.2.2.2.2.2.1, (o1.2.2.2.2.2.2.2.2.2.1, (o1.2.2.2.2.2.2.2.2.2.2.1, (o1.2.2.2.2.2.2.2.2.2.2.2.1, (o1.2.2.2.2.2.2.2.2.2.2.2.2.1, (o1.2.2.2.2.2.2.2.2.2.2.2.2.2.1, (o1.2.2.2.2.2.2.2.2.2.2.2.2.2.2.1, ()))))))))))))))) 6 0 h3 fun r12 h13 =>
 Q (r12.1, (r12.2.1, ((r12.2.2.1.1, (r12.2.2.1.2.1, ())), (r12.2.2.2.1, (r12.2.2.2.2.1, (r12.2.2.2.2.2.1, (r12.2.2.2.2.2.2.1, (r12.2.2.2.2.2.2.2.1, (r12.2.2.2.2.2.2.2.2.1, (r12.2.2.2.2.2.2.2.2.2.1, (r12.2.2.2.2.2.2.2.2.2.2.1, (r12.2.2.2.2.2.2.2.2.2.2.2.1, (r12.2.2.2.2.2.2.2.2.2.2.2.2.1, (r12.2.2.2.2.2.2.2.2.2.2.2.2.2.1, (r12.2.2.2.2.2.2.2.2.2.2.2.2.2.2.1, ()))))))))))))))) h13))) ∧
 ((decide (o1.2.1 = 13)) = false →
 deque_Op_stolen.j1 Q ((o1.1, (o1.2.1, (o1.2.2.1.1, (o1.2.2.1.2.1, (o1.2.2.2.1, (o1.2.2.2.2.1, (o1.2.2.2.2.2.1, (o1.2.2.2.2.2.2.1, (o1.2.2.2.2.2.2.2.1, (o1.2.2.2.2.2.2.2.2.1, (o1.2.2.2.2.2.2.2.2.2.1, (o1.2.2.2.2.2.2.2.2.2.2.1, (o1.2.2.2.2.2.2.2.2.2.2.2.1, (o1.2.2.2.2.2.2.2.2.2.2.2.2.1, (o1.2.2.2.2.2.2.2.2.2.2.2.2.2.1, (o1.2.2.2.2.2.2.2.2.2.2.2.2.2.2.1, ())))))))))))))))), (0, (0, (0, (0, (0, (0, (0, (0, (0, (0, (0, (0, (0, (false, (0, (0, ())))))))))))))))), ()) h3))))))))))))
def deque_Op_stolen.mk : Mk := (.s (.r [0, 1]) (.j [.box 2 (.pair kI (.pair kI (.pair kI (.pair kI (.pair kI (.pair kI (.pair kI (.pair kI (.pair kI (.pair kI (.pair kI (.pair kI (.pair kI (.pair .bool kparkLot)))))))))))))), .box 4 (.pair kI (.pair kI (.pair kI (.pair kI (.pair kI (.pair kI (.pair kI (.pair kI (.pair kI (.pair kI (.pair kI (.pair kI (.pair kI (.pair .bool kparkLot))))))))))))))] (.s .d (.b (.s .d (.c .d (.s .d (.c (.s .d (.s .d (.c (.s .d .d) .d))) (.s .d (.c .d (.s .d (.c (.s .d (.s .d (.c (.s .d .d) .d))) (.s .d (.c .d (.s .d (.c (.s (.s .d (.c (.s .d .d) .d)) (.s .d .d)) .d)))))))))))))) (.s .d .d)))

def deque_Op_looked.M (c_deque_Op_over : Cq5) (o1 : Den kdequeOp) (got2 : Int) (h3 : Heap) (Q : Den kdequeOp → Heap → Prop) : Prop :=
 (((decide (o1.2.1 = 2)) = true →
 Q (o1.1, (1, ((o1.2.2.1.1, (o1.2.2.1.2.1, ())), (o1.2.2.2.1, (got2, (o1.2.2.2.2.2.1, (o1.2.2.2.2.2.2.1, (o1.2.2.2.2.2.2.2.1, (o1.2.2.2.2.2.2.2.2.1, (o1.2.2.2.2.2.2.2.2.2.1, (o1.2.2.2.2.2.2.2.2.2.2.1, (o1.2.2.2.2.2.2.2.2.2.2.2.1, (o1.2.2.2.2.2.2.2.2.2.2.2.2.1, (o1.2.2.2.2.2.2.2.2.2.2.2.2.2.1, (o1.2.2.2.2.2.2.2.2.2.2.2.2.2.2.1, ()))))))))))))))) h3) ∧
 ((decide (o1.2.1 = 2)) = false →
 (((decide (o1.2.2.2.2.1 < got2)) = true →
 c_deque_Op_over (o1.1, (o1.2.1, ((o1.2.2.1.1, (o1.2.2.1.2.1, ())), (o1.2.2.2.1, (o1.2.2.2.2.1, (o1.2.2.2.2.2.1, (o1.2.2.2.2.2.2.1, (o1.2.2.2.2.2.2.2.1, (o1.2.2.2.2.2.2.2.2.1, (o1.2.2.2.2.2.2.2.2.2.1, (o1.2.2.2.2.2.2.2.2.2.2.1, (o1.2.2.2.2.2.2.2.2.2.2.2.1, (o1.2.2.2.2.2.2.2.2.2.2.2.2.1, (o1.2.2.2.2.2.2.2.2.2.2.2.2.2.1, (o1.2.2.2.2.2.2.2.2.2.2.2.2.2.2.1, ()))))))))))))))) 7 0 h3 fun r4 h5 =>
 Q (r4.1, (r4.2.1, ((r4.2.2.1.1, (r4.2.2.1.2.1, ())), (r4.2.2.2.1, (r4.2.2.2.2.1, (r4.2.2.2.2.2.1, (r4.2.2.2.2.2.2.1, (r4.2.2.2.2.2.2.2.1, (r4.2.2.2.2.2.2.2.2.1, (r4.2.2.2.2.2.2.2.2.2.1, (r4.2.2.2.2.2.2.2.2.2.2.1, (r4.2.2.2.2.2.2.2.2.2.2.2.1, (r4.2.2.2.2.2.2.2.2.2.2.2.2.1, (r4.2.2.2.2.2.2.2.2.2.2.2.2.2.1, (r4.2.2.2.2.2.2.2.2.2.2.2.2.2.2.1, ()))))))))))))))) h5) ∧
 ((decide (o1.2.2.2.2.1 < got2)) = false →
 c_deque_Op_over (o1.1, (o1.2.1, ((o1.2.2.1.1, (o1.2.2.1.2.1, ())), (o1.2.2.2.1, (o1.2.2.2.2.1, (o1.2.2.2.2.2.1, (o1.2.2.2.2.2.2.1, (o1.2.2.2.2.2.2.2.1, (o1.2.2.2.2.2.2.2.2.1, (o1.2.2.2.2.2.2.2.2.2.1, (o1.2.2.2.2.2.2.2.2.2.2.1, (o1.2.2.2.2.2.2.2.2.2.2.2.1, (o1.2.2.2.2.2.2.2.2.2.2.2.2.1, (o1.2.2.2.2.2.2.2.2.2.2.2.2.2.1, (o1.2.2.2.2.2.2.2.2.2.2.2.2.2.2.1, ()))))))))))))))) 8 0 h3 fun r6 h7 =>
 Q (r6.1, (r6.2.1, ((r6.2.2.1.1, (r6.2.2.1.2.1, ())), (r6.2.2.2.1, (r6.2.2.2.2.1, (r6.2.2.2.2.2.1, (r6.2.2.2.2.2.2.1, (r6.2.2.2.2.2.2.2.1, (r6.2.2.2.2.2.2.2.2.1, (r6.2.2.2.2.2.2.2.2.2.1, (r6.2.2.2.2.2.2.2.2.2.2.1, (r6.2.2.2.2.2.2.2.2.2.2.2.1, (r6.2.2.2.2.2.2.2.2.2.2.2.2.1, (r6.2.2.2.2.2.2.2.2.2.2.2.2.2.1, (r6.2.2.2.2.2.2.2.2.2.2.2.2.2.2.1, ()))))))))))))))) h7))))
def deque_Op_looked.mk : Mk := (.s (.r [0, 1]) (.s (.s .d (.c (.s .d (.s .d .d)) .d)) (.s (.s .d (.c (.s .d .d) .d)) (.s .d .d))))

def deque_Look.M (c_deque_begin : Cq13) (d1 : Den kparkLot) (h2 : Heap) (Q : Den kdequeOp → Heap → Prop) : Prop :=
 c_deque_begin 4 2 (d1.1, (d1.2.1, ())) 0 h2 fun r3 h4 =>
 Q (r3.1, (r3.2.1, ((r3.2.2.1.1, (r3.2.2.1.2.1, ())), (r3.2.2.2.1, (r3.2.2.2.2.1, (r3.2.2.2.2.2.1, (r3.2.2.2.2.2.2.1, (r3.2.2.2.2.2.2.2.1, (r3.2.2.2.2.2.2.2.2.1, (r3.2.2.2.2.2.2.2.2.2.1, (r3.2.2.2.2.2.2.2.2.2.2.1, (r3.2.2.2.2.2.2.2.2.2.2.2.1, (r3.2.2.2.2.2.2.2.2.2.2.2.2.1, (r3.2.2.2.2.2.2.2.2.2.2.2.2.2.1, (r3.2.2.2.2.2.2.2.2.2.2.2.2.2.2.1, ()))))))))))))))) h4
def deque_Look.mk : Mk := (.s (.r [0, 1]) (.s .d .d))

def deque_Push.M (c_deque_begin : Cq13) (d1 : Den kparkLot) (v2 : Int) (h3 : Heap) (Q : Den kdequeOp → Heap → Prop) : Prop :=
 c_deque_begin 1 1 (d1.1, (d1.2.1, ())) v2 h3 fun r4 h5 =>
 Q (r4.1, (r4.2.1, ((r4.2.2.1.1, (r4.2.2.1.2.1, ())), (r4.2.2.2.1, (r4.2.2.2.2.1, (r4.2.2.2.2.2.1, (r4.2.2.2.2.2.2.1, (r4.2.2.2.2.2.2.2.1, (r4.2.2.2.2.2.2.2.2.1, (r4.2.2.2.2.2.2.2.2.2.1, (r4.2.2.2.2.2.2.2.2.2.2.1, (r4.2.2.2.2.2.2.2.2.2.2.2.1, (r4.2.2.2.2.2.2.2.2.2.2.2.2.1, (r4.2.2.2.2.2.2.2.2.2.2.2.2.2.1, (r4.2.2.2.2.2.2.2.2.2.2.2.2.2.2.1, ()))))))))))))))) h5
def deque_Push.mk : Mk := (.s (.r [0, 1]) (.s .d .d))

def deque_Pop.M (c_deque_begin : Cq13) (d1 : Den kparkLot) (h2 : Heap) (Q : Den kdequeOp → Heap → Prop) : Prop :=
 c_deque_begin 2 1 (d1.1, (d1.2.1, ())) 0 h2 fun r3 h4 =>
 Q (r3.1, (r3.2.1, ((r3.2.2.1.1, (r3.2.2.1.2.1, ())), (r3.2.2.2.1, (r3.2.2.2.2.1, (r3.2.2.2.2.2.1, (r3.2.2.2.2.2.2.1, (r3.2.2.2.2.2.2.2.1, (r3.2.2.2.2.2.2.2.2.1, (r3.2.2.2.2.2.2.2.2.2.1, (r3.2.2.2.2.2.2.2.2.2.2.1, (r3.2.2.2.2.2.2.2.2.2.2.2.1, (r3.2.2.2.2.2.2.2.2.2.2.2.2.1, (r3.2.2.2.2.2.2.2.2.2.2.2.2.2.1, (r3.2.2.2.2.2.2.2.2.2.2.2.2.2.2.1, ()))))))))))))))) h4
def deque_Pop.mk : Mk := (.s (.r [0, 1]) (.s .d .d))

def deque_begin.j1 (kind1 : Int) (at_2 : Int) (d3 : Den kparkLot) (v4 : Int) (Q : Den kdequeOp → Heap → Prop) (s6 : (Tq1 × Unit)) (h7 : Heap) : Prop :=
 Q (kind1, (at_2, ((d3.1, (d3.2.1, ())), (v4, (0, (0, (0, (0, (0, (0, (0, (0, (false, (0, (0, ()))))))))))))))) h7
def deque_begin.j2 (kind1 : Int) (at_2 : Int) (d3 : Den kparkLot) (v4 : Int) (Q : Den kdequeOp → Heap → Prop) (s8 : (Bool × Unit)) (h9 : Heap) : Prop :=
 ((s8.1 = true →
 Q (0, (0, ((0, (0, ())), (0, (0, (0, (0, (0, (0, (0, (0, (0, (false, (0, (0, ()))))))))))))))) h9) ∧
 (s8.1 = false →
 deque_begin.j1 kind1 at_2 d3 v4 Q ((0, (0, (0, (0, (0, (0, (0, (0, (0, (0, (0, (0, (0, (false, (0, (0, ())))))))))))))))), ()) h9))
def deque_begin.M  (kind1 : Int) (at_2 : Int) (d3 : Den kparkLot) (v4 : Int) (h5 : Heap) (Q : Den kdequeOp → Heap → Prop) : Prop :=
 (((decide (d3.2.1 < 1)) = true →
 deque_begin.j2 kind1 at_2 d3 v4 Q (true, ()) h5) ∧
 ((decide (d3.2.1 < 1)) = false →
 deque_begin.j2 kind1 at_2 d3 v4 Q ((decide ((4096 : Int) < d3.2.1)), ()) h5))
def deque_begin.mk : Mk := (.s (.r [0, 1]) (.j [.box 8 (.pair kI (.pair kI (.pair kI (.pair kI (.pair kI (.pair kI (.pair kI (.pair kI (.pair kI (.pair kI (.pair kI (.pair kI (.pair kI (.pair .bool kparkLot))))))))))))))] (.j [.slot 16 .bool] .d (.c (.s .d .d) .d)) (.s .d .d)))

def deque_place.j1 (a1 : Int) (Q : Int → Heap → Prop) (s5 : (Int × Unit)) (h6 : Heap) : Prop :=
 Q (w64 ((w64 (a1 + 1)) + s5.1)) h6
def deque_place.M  (a1 : Int) (c2 : Int) (i3 : Int) (h4 : Heap) (Q : Int → Heap → Prop) : Prop :=
 c2 ≠ 0 ∧
 (((decide ((Int.tmod i3 c2) < 0)) = true →
 deque_place.j1 a1 Q ((w64 ((Int.tmod i3 c2) + c2)), ()) h4) ∧
 ((decide ((Int.tmod i3 c2) < 0)) = false →
 deque_place.j1 a1 Q ((Int.tmod i3 c2), ()) h4))
def deque_place.mk : Mk := (.s .d (.s .d (.j [.slot 7 kI] (.s .d (.c .d .d)) (.s .d .d))))

def deque_Op_next.M  (o1 : Den kdequeOp) (h2 : Heap) (Q : Int → Heap → Prop) : Prop :=
 (((decide (o1.1 = 1)) = true →
 Q (w64 (o1.2.2.2.2.2.1 + 1)) h2) ∧
 ((decide (o1.1 = 1)) = false →
 (((decide (o1.2.2.2.2.2.2.2.2.2.2.1 = 0)) = true →
 Q o1.2.2.2.2.2.1 h2) ∧
 ((decide (o1.2.2.2.2.2.2.2.2.2.2.1 = 0)) = false →
 (((decide (o1.2.2.2.2.2.1 < o1.2.2.2.2.1)) = true →
 Q o1.2.2.2.2.1 h2) ∧
 ((decide (o1.2.2.2.2.2.1 < o1.2.2.2.2.1)) = false →
 Q (w64 (o1.2.2.2.2.1 + 1)) h2))))))
def deque_Op_next.mk : Mk := (.s (.r [0]) (.s (.b (.s .d (.c (.s .d .d) (.s .d (.c (.s .d .d) (.s .d (.c (.s .d .d) .d))))))) (.s .d .d)))

def cells_Arena_Add.M (c_cells_Arena_outside : Cq17) (c_cells_Arena_note : Cq3) (a1 : Option Addr) (addr2 : Int) (d3 : Int) (h4 : Heap) (Q : Den kparkLot → Heap → Prop) : Prop :=
 c_cells_Arena_outside a1 addr2 h4 fun r5 h6 =>
 ((r5 = true →
 Q (0, 20, ()) h6) ∧
 (r5 = false →
 deref a1 fun a7 =>
 ld (.sl : Kd) h6 (a7.add 2) fun t8 =>
 (0 ≤ addr2 ∧ addr2 < (t8.len : Int)) ∧
 deref t8.a fun a9 =>
 ld kI h6 (a9.add ((addr2 : Int).toNat * 1)) fun t10 =>
 (0 ≤ addr2 ∧ addr2 < (t8.len : Int)) ∧
 deref t8.a fun a11 =>
 st kI h6 (a11.add ((addr2 : Int).toNat * 1)) (w64 (t10 + d3)) fun h12 =>
 deref a1 fun a13 =>
 ld (.sl : Kd) h12 (a13.add 2) fun t14 =>
 (0 ≤ addr2 ∧ addr2 < (t14.len : Int)) ∧
 deref t14.a fun a15 =>
 ld kI h12 (a15.add ((addr2 : Int).toNat * 1)) fun t16 =>
 c_cells_Arena_note a1 3 addr2 d3 t16 true h12 fun r17 h18 =>
 deref a1 fun a19 =>
 ld (.sl : Kd) h18 (a19.add 2) fun t20 =>
 (0 ≤ addr2 ∧ addr2 < (t20.len : Int)) ∧
 deref t20.a fun a21 =>
 ld kI h18 (a21.add ((addr2 : Int).toNat * 1)) fun t22 =>
 Q (t22, 0, ()) h18))
def cells_Arena_Add.mk : Mk := (.s .d (.s (.s .d (.c (.s .d .d) .d)) (.s .d (.s .d (.s .d .d)))))

def cells_Arena_CAS.j1 (c_cells_Arena_note : Cq3) (a1 : Option Addr) (addr2 : Int) (old3 : Int) (next4 : Int) (Q : (Bool × (Int × Unit)) → Heap → Prop) (t11 : Int) (s12 : Unit) (h13 : Heap) : Prop :=
 c_cells_Arena_note a1 2 addr2 old3 next4 (decide (t11 = old3)) h13 fun r14 h15 =>
 Q ((decide (t11 = old3)), 0, ()) h15
def cells_Arena_CAS.M (c_cells_Arena_outside : Cq17) (c_cells_Arena_note : Cq3) (a1 : Option Addr) (addr2 : Int) (old3 : Int) (next4 : Int) (h5 : Heap) (Q : (Bool × (Int × Unit)) → Heap → Prop) : Prop :=
 c_cells_Arena_outside a1 addr2 h5 fun r6 h7 =>
 ((r6 = true →
 Q (false, 20, ()) h7) ∧
 (r6 = false →
 deref a1 fun a8 =>
 ld (.sl : Kd) h7 (a8.add 2) fun t9 =>
 (0 ≤ addr2 ∧ addr2 < (t9.len : Int)) ∧
 deref t9.a fun a10 =>
 ld kI h7 (a10.add ((addr2 : Int).toNat * 1)) fun t11 =>
 (((decide (t11 = old3)) = true →
 deref a1 fun a16 =>
 ld (.sl : Kd) h7 (a16.add 2) fun t17 =>
 (0 ≤ addr2 ∧ addr2 < (t17.len : Int)) ∧
 deref t17.a fun a18 =>
 st kI h7 (a18.add ((addr2 : Int).toNat * 1)) next4 fun h19 =>
 cells_Arena_CAS.j1 c_cells_Arena_note a1 addr2 old3 next4 Q t11 () h19) ∧
 ((decide (t11 = old3)) = false →
 cells_Arena_CAS.j1 c_cells_Arena_note a1 addr2 old3 next4 Q t11 () h7))))
def cells_Arena_CAS.mk : Mk := (.s .d (.s (.s .d (.c (.s .d .d) .d)) (.s .d (.j [] (.s .d (.c .d .d)) (.s .d (.s .d .d))))))

def cells_Arena_Load.M (c_cells_Arena_outside : Cq17) (c_cells_Arena_note : Cq3) (a1 : Option Addr) (addr2 : Int) (h3 : Heap) (Q : Den kparkLot → Heap → Prop) : Prop :=
 c_cells_Arena_outside a1 addr2 h3 fun r4 h5 =>
 ((r4 = true →
 Q (0, 20, ()) h5) ∧
 (r4 = false →
 deref a1 fun a6 =>
 ld (.sl : Kd) h5 (a6.add 2) fun t7 =>
 (0 ≤ addr2 ∧ addr2 < (t7.len : Int)) ∧
 deref t7.a fun a8 =>
 ld kI h5 (a8.add ((addr2 : Int).toNat * 1)) fun t9 =>
 c_cells_Arena_note a1 0 addr2 t9 0 true h5 fun r10 h11 =>
 Q (t9, 0, ()) h11))
def cells_Arena_Load.mk : Mk := (.s .d (.s (.s .d (.c (.s .d .d) .d)) (.s .d (.s .d (.s .d .d)))))

end Go.Mx
