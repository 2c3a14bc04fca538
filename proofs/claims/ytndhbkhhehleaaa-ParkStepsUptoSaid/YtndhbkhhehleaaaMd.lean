/-
  What the functions of this seat come to over abstract heaps: printed by a program of this workplace.
-/
import Derived.Test.YtndhbkhhehleaaaMxN
set_option linter.unusedVariables false
namespace Go.Mx
abbrev kparkLot : Kd := (.pair (.int .i64) (.pair (.int .i64) .nil))
abbrev kparkstate : Kd := (.pair kparkLot (.pair (.int .i64) (.pair (.int .i64) (.pair (.int .i64) (.pair (.int .i64) (.pair (.int .i64) kparkLot))))))
abbrev kdequeOp : Kd := (.pair (.int .i64) (.pair (.int .i64) (.pair kparkLot (.pair (.int .i64) (.pair (.int .i64) (.pair (.int .i64) (.pair (.int .i64) (.pair (.int .i64) (.pair (.int .i64) (.pair (.int .i64) (.pair (.int .i64) (.pair (.int .i64) (.pair .bool kparkLot)))))))))))))
abbrev kparkOp : Kd := (.pair kparkstate (.pair (.arr 64 kparkLot) (.pair kdequeOp .nil)))
abbrev kref9Op : Kd := (.pair (.int .i64) (.pair (.int .i64) (.pair (.int .i64) (.pair (.int .i64) (.pair kparkLot (.pair .sl (.pair (.int .i64) kparkLot)))))))
abbrev klaw9Move : Kd := (.pair (.int .i64) kparkLot)
abbrev kapiParkRun : Kd := (.pair .sl (.pair .sl (.pair .sl (.pair .sl (.pair (.int .i64) (.pair (.int .i64) (.pair (.int .i64) (.pair .bool (.pair .sl .nil)))))))))
abbrev klaw9Book : Kd := (.pair (.arr 8 (.int .i64)) (.pair (.arr 8 .bool) klaw9Move))
abbrev kapiAccess : Kd := (.pair (.int .i64) (.pair (.int .i64) (.pair (.int .i64) (.pair (.int .i64) (.pair (.int .i64) (.pair .bool .nil))))))
abbrev kcellsArena : Kd := (.pair kparkLot (.pair .sl (.pair .sl (.pair (.int .i64) (.pair .bool .nil)))))
abbrev kparkgame : Kd := (.pair .ptr (.pair kparkLot (.pair .sl (.pair .sl (.pair .sl (.pair kapiParkRun .nil))))))
abbrev kparkactor : Kd := (.pair (.int .i64) (.pair kparkOp (.pair kdequeOp (.pair .bool (.pair .bool (.pair .bool .nil))))))
-- @T p_cells_Arena 25

def law9_ParkSteps.j1 (go25 : (Bool × (Int × ((Int × (Int × (Int × (Int × (Int × (Int × (Int × (Int × (Int × ((Fin 64 → Den kparkLot) × (Int × (Int × (Int × (Int × (Int × (Int × (Int × (Int × (Int × (Int × (Int × (Int × (Int × (Bool × Den kparkLot)))))))))))))))))))))))) × Unit))) → Heap → Prop) (s23 : (Bool × (Int × ((Int × (Int × (Int × (Int × (Int × (Int × (Int × (Int × (Int × ((Fin 64 → Den kparkLot) × (Int × (Int × (Int × (Int × (Int × (Int × (Int × (Int × (Int × (Int × (Int × (Int × (Int × (Bool × Den kparkLot)))))))))))))))))))))))) × Unit)))) (s26 : (Bool × ((Int × (Int × (Int × (Int × (Int × (Int × (Int × (Int × (Int × ((Fin 64 → Den kparkLot) × (Int × (Int × (Int × (Int × (Int × (Int × (Int × (Int × (Int × (Int × (Int × (Int × (Int × (Bool × Den kparkLot)))))))))))))))))))))))) × Unit))) (h27 : Heap) : Prop :=
    go25 (s26.1, (w64 (s23.2.1 + 1)), (s26.2.1.1, (s26.2.1.2.1, (s26.2.1.2.2.1, (s26.2.1.2.2.2.1, (s26.2.1.2.2.2.2.1, (s26.2.1.2.2.2.2.2.1, (s26.2.1.2.2.2.2.2.2.1, (s26.2.1.2.2.2.2.2.2.2.1, (s26.2.1.2.2.2.2.2.2.2.2.1, (s26.2.1.2.2.2.2.2.2.2.2.2.1, (s26.2.1.2.2.2.2.2.2.2.2.2.2.1, (s26.2.1.2.2.2.2.2.2.2.2.2.2.2.1, (s26.2.1.2.2.2.2.2.2.2.2.2.2.2.2.1, (s26.2.1.2.2.2.2.2.2.2.2.2.2.2.2.2.1, (s26.2.1.2.2.2.2.2.2.2.2.2.2.2.2.2.2.1, (s26.2.1.2.2.2.2.2.2.2.2.2.2.2.2.2.2.2.1, (s26.2.1.2.2.2.2.2.2.2.2.2.2.2.2.2.2.2.2.1, (s26.2.1.2.2.2.2.2.2.2.2.2.2.2.2.2.2.2.2.2.1, (s26.2.1.2.2.2.2.2.2.2.2.2.2.2.2.2.2.2.2.2.2.1, (s26.2.1.2.2.2.2.2.2.2.2.2.2.2.2.2.2.2.2.2.2.2.1, (s26.2.1.2.2.2.2.2.2.2.2.2.2.2.2.2.2.2.2.2.2.2.2.1, (s26.2.1.2.2.2.2.2.2.2.2.2.2.2.2.2.2.2.2.2.2.2.2.2.1, (s26.2.1.2.2.2.2.2.2.2.2.2.2.2.2.2.2.2.2.2.2.2.2.2.2.1, (s26.2.1.2.2.2.2.2.2.2.2.2.2.2.2.2.2.2.2.2.2.2.2.2.2.2.1, (s26.2.1.2.2.2.2.2.2.2.2.2.2.2.2.2.2.2.2.2.2.2.2.2.2.2.2.1, (s26.2.1.2.2.2.2.2.2.2.2.2.2.2.2.2.2.2.2.2.2.2.2.2.2.2.2.2.1, ())))))))))))))))))))))))))), ()) h27
def law9_ParkSteps.j2 (Q : Bool → Heap → Prop) (go25 : (Bool × (Int × ((Int × (Int × (Int × (Int × (Int × (Int × (Int × (Int × (Int × ((Fin 64 → Den kparkLot) × (Int × (Int × (Int × (Int × (Int × (Int × (Int × (Int × (Int × (Int × (Int × (Int × (Int × (Bool × Den kparkLot)))))))))))))))))))))))) × Unit))) → Heap → Prop) (s23 : (Bool × (Int × ((Int × (Int × (Int × (Int × (Int × (Int × (Int × (Int × (Int × ((Fin 64 → Den kparkLot) × (Int × (Int × (Int × (Int × (Int × (Int × (Int × (Int × (Int × (Int × (Int × (Int × (Int × (Bool × Den kparkLot)))))))))))))))))))))))) × Unit)))) (r32 : Den kparkOp) (r44 : Bool) (s46 : (Bool × Unit)) (h47 : Heap) : Prop :=
    ((s46.1 = true →
    Q false h47) ∧
    (s46.1 = false →
    law9_ParkSteps.j1 go25 s23 (r44, (r32.1.1.1, (r32.1.1.2.1, (r32.1.2.1, (r32.1.2.2.1, (r32.1.2.2.2.1, (r32.1.2.2.2.2.1, (r32.1.2.2.2.2.2.1, (r32.1.2.2.2.2.2.2.1, (r32.1.2.2.2.2.2.2.2.1, (r32.2.1, (r32.2.2.1.1, (r32.2.2.1.2.1, (r32.2.2.1.2.2.1.1, (r32.2.2.1.2.2.1.2.1, (r32.2.2.1.2.2.2.1, (r32.2.2.1.2.2.2.2.1, (r32.2.2.1.2.2.2.2.2.1, (r32.2.2.1.2.2.2.2.2.2.1, (r32.2.2.1.2.2.2.2.2.2.2.1, (r32.2.2.1.2.2.2.2.2.2.2.2.1, (r32.2.2.1.2.2.2.2.2.2.2.2.2.1, (r32.2.2.1.2.2.2.2.2.2.2.2.2.2.1, (r32.2.2.1.2.2.2.2.2.2.2.2.2.2.2.1, (r32.2.2.1.2.2.2.2.2.2.2.2.2.2.2.2.1, (r32.2.2.1.2.2.2.2.2.2.2.2.2.2.2.2.2.1, (r32.2.2.1.2.2.2.2.2.2.2.2.2.2.2.2.2.2.1, ())))))))))))))))))))))))))), ()) h47))
def law9_ParkSteps.j3 (c_park_Parked : Den kparkOp → Heap → (Bool → Heap → Prop) → Prop) (Q : Bool → Heap → Prop) (s21 : (Sl × (Option Addr × (Int × ((Int × (Int × (Int × (Int × (Int × (Int × (Int × (Int × (Int × ((Fin 64 → Den kparkLot) × (Int × (Int × (Int × (Int × (Int × (Int × (Int × (Int × (Int × (Int × (Int × (Int × (Int × (Bool × Den kparkLot)))))))))))))))))))))))) × Unit))))) (go25 : (Bool × (Int × ((Int × (Int × (Int × (Int × (Int × (Int × (Int × (Int × (Int × ((Fin 64 → Den kparkLot) × (Int × (Int × (Int × (Int × (Int × (Int × (Int × (Int × (Int × (Int × (Int × (Int × (Int × (Bool × Den kparkLot)))))))))))))))))))))))) × Unit))) → Heap → Prop) (s23 : (Bool × (Int × ((Int × (Int × (Int × (Int × (Int × (Int × (Int × (Int × (Int × ((Fin 64 → Den kparkLot) × (Int × (Int × (Int × (Int × (Int × (Int × (Int × (Int × (Int × (Int × (Int × (Int × (Int × (Bool × Den kparkLot)))))))))))))))))))))))) × Unit)))) (r32 : Den kparkOp) (r40 : Den kparkLot) (s42 : Unit) (h43 : Heap) : Prop :=
    c_park_Parked (((r32.1.1.1, (r32.1.1.2.1, ())), (r32.1.2.1, (r32.1.2.2.1, (r32.1.2.2.2.1, (r32.1.2.2.2.2.1, (r32.1.2.2.2.2.2.1, (r32.1.2.2.2.2.2.2.1, (r32.1.2.2.2.2.2.2.2.1, ())))))))), (r32.2.1, ((r32.2.2.1.1, (r32.2.2.1.2.1, ((r32.2.2.1.2.2.1.1, (r32.2.2.1.2.2.1.2.1, ())), (r32.2.2.1.2.2.2.1, (r32.2.2.1.2.2.2.2.1, (r32.2.2.1.2.2.2.2.2.1, (r32.2.2.1.2.2.2.2.2.2.1, (r32.2.2.1.2.2.2.2.2.2.2.1, (r32.2.2.1.2.2.2.2.2.2.2.2.1, (r32.2.2.1.2.2.2.2.2.2.2.2.2.1, (r32.2.2.1.2.2.2.2.2.2.2.2.2.2.1, (r32.2.2.1.2.2.2.2.2.2.2.2.2.2.2.1, (r32.2.2.1.2.2.2.2.2.2.2.2.2.2.2.2.1, (r32.2.2.1.2.2.2.2.2.2.2.2.2.2.2.2.2.1, (r32.2.2.1.2.2.2.2.2.2.2.2.2.2.2.2.2.2.1, ()))))))))))))))), ()))) h43 fun r44 h45 =>
    (((decide (s21.2.2.1 ≤ (w64 (s23.2.1 + 1)))) = true →
    (((decide (r40.1 = 0)) = true →
    law9_ParkSteps.j2 Q go25 s23 r32 r44 ((!r44), ()) h45) ∧
    ((decide (r40.1 = 0)) = false →
    law9_ParkSteps.j2 Q go25 s23 r32 r44 (false, ()) h45))) ∧
    ((decide (s21.2.2.1 ≤ (w64 (s23.2.1 + 1)))) = false →
    law9_ParkSteps.j2 Q go25 s23 r32 r44 (false, ()) h45))
def law9_ParkSteps.j4 (c_park_Parked : Den kparkOp → Heap → (Bool → Heap → Prop) → Prop) (Q : Bool → Heap → Prop) (s21 : (Sl × (Option Addr × (Int × ((Int × (Int × (Int × (Int × (Int × (Int × (Int × (Int × (Int × ((Fin 64 → Den kparkLot) × (Int × (Int × (Int × (Int × (Int × (Int × (Int × (Int × (Int × (Int × (Int × (Int × (Int × (Bool × Den kparkLot)))))))))))))))))))))))) × Unit))))) (go25 : (Bool × (Int × ((Int × (Int × (Int × (Int × (Int × (Int × (Int × (Int × (Int × ((Fin 64 → Den kparkLot) × (Int × (Int × (Int × (Int × (Int × (Int × (Int × (Int × (Int × (Int × (Int × (Int × (Int × (Bool × Den kparkLot)))))))))))))))))))))))) × Unit))) → Heap → Prop) (s23 : (Bool × (Int × ((Int × (Int × (Int × (Int × (Int × (Int × (Int × (Int × (Int × ((Fin 64 → Den kparkLot) × (Int × (Int × (Int × (Int × (Int × (Int × (Int × (Int × (Int × (Int × (Int × (Int × (Int × (Bool × Den kparkLot)))))))))))))))))))))))) × Unit)))) (r32 : Den kparkOp) (r40 : Den kparkLot) (s48 : (Bool × Unit)) (h49 : Heap) : Prop :=
    ((s48.1 = true →
    Q false h49) ∧
    (s48.1 = false →
    law9_ParkSteps.j3 c_park_Parked Q s21 go25 s23 r32 r40 () h49))
def law9_ParkSteps.j5 (c_park_Answer : Den kparkOp → Heap → (Den kparkLot → Heap → Prop) → Prop) (c_park_Parked : Den kparkOp → Heap → (Bool → Heap → Prop) → Prop) (Q : Bool → Heap → Prop) (s21 : (Sl × (Option Addr × (Int × ((Int × (Int × (Int × (Int × (Int × (Int × (Int × (Int × (Int × ((Fin 64 → Den kparkLot) × (Int × (Int × (Int × (Int × (Int × (Int × (Int × (Int × (Int × (Int × (Int × (Int × (Int × (Bool × Den kparkLot)))))))))))))))))))))))) × Unit))))) (go25 : (Bool × (Int × ((Int × (Int × (Int × (Int × (Int × (Int × (Int × (Int × (Int × ((Fin 64 → Den kparkLot) × (Int × (Int × (Int × (Int × (Int × (Int × (Int × (Int × (Int × (Int × (Int × (Int × (Int × (Bool × Den kparkLot)))))))))))))))))))))))) × Unit))) → Heap → Prop) (s23 : (Bool × (Int × ((Int × (Int × (Int × (Int × (Int × (Int × (Int × (Int × (Int × ((Fin 64 → Den kparkLot) × (Int × (Int × (Int × (Int × (Int × (Int × (Int × (Int × (Int × (Int × (Int × (Int × (Int × (Bool × Den kparkLot)))))))))))))))))))))))) × Unit)))) (r32 : Den kparkOp) (s38 : Unit) (h39 : Heap) : Prop :=
    c_park_Answer (((r32.1.1.1, (r32.1.1.2.1, ())), (r32.1.2.1, (r32.1.2.2.1, (r32.1.2.2.2.1, (r32.1.2.2.2.2.1, (r32.1.2.2.2.2.2.1, (r32.1.2.2.2.2.2.2.1, (r32.1.2.2.2.2.2.2.2.1, ())))))))), (r32.2.1, ((r32.2.2.1.1, (r32.2.2.1.2.1, ((r32.2.2.1.2.2.1.1, (r32.2.2.1.2.2.1.2.1, ())), (r32.2.2.1.2.2.2.1, (r32.2.2.1.2.2.2.2.1, (r32.2.2.1.2.2.2.2.2.1, (r32.2.2.1.2.2.2.2.2.2.1, (r32.2.2.1.2.2.2.2.2.2.2.1, (r32.2.2.1.2.2.2.2.2.2.2.2.1, (r32.2.2.1.2.2.2.2.2.2.2.2.2.1, (r32.2.2.1.2.2.2.2.2.2.2.2.2.2.1, (r32.2.2.1.2.2.2.2.2.2.2.2.2.2.2.1, (r32.2.2.1.2.2.2.2.2.2.2.2.2.2.2.2.1, (r32.2.2.1.2.2.2.2.2.2.2.2.2.2.2.2.2.1, (r32.2.2.1.2.2.2.2.2.2.2.2.2.2.2.2.2.2.1, ()))))))))))))))), ()))) h39 fun r40 h41 =>
    ((s23.1 = true →
    c_park_Parked (((r32.1.1.1, (r32.1.1.2.1, ())), (r32.1.2.1, (r32.1.2.2.1, (r32.1.2.2.2.1, (r32.1.2.2.2.2.1, (r32.1.2.2.2.2.2.1, (r32.1.2.2.2.2.2.2.1, (r32.1.2.2.2.2.2.2.2.1, ())))))))), (r32.2.1, ((r32.2.2.1.1, (r32.2.2.1.2.1, ((r32.2.2.1.2.2.1.1, (r32.2.2.1.2.2.1.2.1, ())), (r32.2.2.1.2.2.2.1, (r32.2.2.1.2.2.2.2.1, (r32.2.2.1.2.2.2.2.2.1, (r32.2.2.1.2.2.2.2.2.2.1, (r32.2.2.1.2.2.2.2.2.2.2.1, (r32.2.2.1.2.2.2.2.2.2.2.2.1, (r32.2.2.1.2.2.2.2.2.2.2.2.2.1, (r32.2.2.1.2.2.2.2.2.2.2.2.2.2.1, (r32.2.2.1.2.2.2.2.2.2.2.2.2.2.2.1, (r32.2.2.1.2.2.2.2.2.2.2.2.2.2.2.2.1, (r32.2.2.1.2.2.2.2.2.2.2.2.2.2.2.2.2.1, (r32.2.2.1.2.2.2.2.2.2.2.2.2.2.2.2.2.2.1, ()))))))))))))))), ()))) h41 fun r50 h51 =>
    (((!r50) = true →
    law9_ParkSteps.j4 c_park_Parked Q s21 go25 s23 r32 r40 ((decide (r40.1 = 0)), ()) h51) ∧
    ((!r50) = false →
    law9_ParkSteps.j4 c_park_Parked Q s21 go25 s23 r32 r40 (false, ()) h51))) ∧
    (s23.1 = false →
    law9_ParkSteps.j4 c_park_Parked Q s21 go25 s23 r32 r40 (false, ()) h41))
def law9_ParkSteps.j6 (c_park_Answer : Den kparkOp → Heap → (Den kparkLot → Heap → Prop) → Prop) (c_cells_Arena_Watch : Option Addr → Bool → Heap → (Unit → Heap → Prop) → Prop) (c_cells_Arena_Store : Option Addr → Int → Int → Heap → (Int → Heap → Prop) → Prop) (c_park_Parked : Den kparkOp → Heap → (Bool → Heap → Prop) → Prop) (Q : Bool → Heap → Prop) (s21 : (Sl × (Option Addr × (Int × ((Int × (Int × (Int × (Int × (Int × (Int × (Int × (Int × (Int × ((Fin 64 → Den kparkLot) × (Int × (Int × (Int × (Int × (Int × (Int × (Int × (Int × (Int × (Int × (Int × (Int × (Int × (Bool × Den kparkLot)))))))))))))))))))))))) × Unit))))) (go25 : (Bool × (Int × ((Int × (Int × (Int × (Int × (Int × (Int × (Int × (Int × (Int × ((Fin 64 → Den kparkLot) × (Int × (Int × (Int × (Int × (Int × (Int × (Int × (Int × (Int × (Int × (Int × (Int × (Int × (Bool × Den kparkLot)))))))))))))))))))))))) × Unit))) → Heap → Prop) (s23 : (Bool × (Int × ((Int × (Int × (Int × (Int × (Int × (Int × (Int × (Int × (Int × ((Fin 64 → Den kparkLot) × (Int × (Int × (Int × (Int × (Int × (Int × (Int × (Int × (Int × (Int × (Int × (Int × (Int × (Bool × Den kparkLot)))))))))))))))))))))))) × Unit)))) (r32 : Den kparkOp) (s36 : Unit) (h37 : Heap) : Prop :=
    (((decide (s23.2.1 < (s21.1.len : Int))) = true →
    c_cells_Arena_Watch s21.2.1 false h37 fun r52 h53 =>
    (0 ≤ s23.2.1 ∧ s23.2.1 < (s21.1.len : Int)) ∧
    deref s21.1.a fun a54 =>
    (0 ≤ s23.2.1 ∧ s23.2.1 < (s21.1.len : Int)) ∧
    deref s21.1.a fun a55 =>
    ld ((.int .i64) : Kd) h53 ((a54.add ((s23.2.1 : Int).toNat * 2)).add 0) fun t56 =>
    ld ((.int .i64) : Kd) h53 ((a55.add ((s23.2.1 : Int).toNat * 2)).add 1) fun t57 =>
    c_cells_Arena_Store s21.2.1 t56 t57 h53 fun r58 h59 =>
    c_cells_Arena_Watch s21.2.1 true h59 fun r60 h61 =>
    law9_ParkSteps.j5 c_park_Answer c_park_Parked Q s21 go25 s23 r32 () h61) ∧
    ((decide (s23.2.1 < (s21.1.len : Int))) = false →
    law9_ParkSteps.j5 c_park_Answer c_park_Parked Q s21 go25 s23 r32 () h37))
def law9_ParkSteps.j7 (c_park_Answer : Den kparkOp → Heap → (Den kparkLot → Heap → Prop) → Prop) (c_cells_Arena_Watch : Option Addr → Bool → Heap → (Unit → Heap → Prop) → Prop) (c_cells_Arena_Store : Option Addr → Int → Int → Heap → (Int → Heap → Prop) → Prop) (c_park_Parked : Den kparkOp → Heap → (Bool → Heap → Prop) → Prop) (Q : Bool → Heap → Prop) (s21 : (Sl × (Option Addr × (Int × ((Int × (Int × (Int × (Int × (Int × (Int × (Int × (Int × (Int × ((Fin 64 → Den kparkLot) × (Int × (Int × (Int × (Int × (Int × (Int × (Int × (Int × (Int × (Int × (Int × (Int × (Int × (Bool × Den kparkLot)))))))))))))))))))))))) × Unit))))) (go25 : (Bool × (Int × ((Int × (Int × (Int × (Int × (Int × (Int × (Int × (Int × (Int × ((Fin 64 → Den kparkLot) × (Int × (Int × (Int × (Int × (Int × (Int × (Int × (Int × (Int × (Int × (Int × (Int × (Int × (Bool × Den kparkLot)))))))))))))))))))))))) × Unit))) → Heap → Prop) (s23 : (Bool × (Int × ((Int × (Int × (Int × (Int × (Int × (Int × (Int × (Int × (Int × ((Fin 64 → Den kparkLot) × (Int × (Int × (Int × (Int × (Int × (Int × (Int × (Int × (Int × (Int × (Int × (Int × (Int × (Bool × Den kparkLot)))))))))))))))))))))))) × Unit)))) (r32 : Den kparkOp) (s62 : (Bool × Unit)) (h63 : Heap) : Prop :=
    ((s62.1 = true →
    Q false h63) ∧
    (s62.1 = false →
    law9_ParkSteps.j6 c_park_Answer c_cells_Arena_Watch c_cells_Arena_Store c_park_Parked Q s21 go25 s23 r32 () h63))
def law9_ParkSteps.l8 (c_cells_Arena_Log : Option Addr → Heap → (Sl → Heap → Prop) → Prop) (c_park_Answer : Den kparkOp → Heap → (Den kparkLot → Heap → Prop) → Prop) (c_park_Step : Value → Den kparkOp → Heap → (Den kparkOp → Heap → Prop) → Prop) (c_cells_Arena_Watch : Option Addr → Bool → Heap → (Unit → Heap → Prop) → Prop) (c_cells_Arena_Store : Option Addr → Int → Int → Heap → (Int → Heap → Prop) → Prop) (c_park_Parked : Den kparkOp → Heap → (Bool → Heap → Prop) → Prop) (Q : Bool → Heap → Prop) (s21 : (Sl × (Option Addr × (Int × ((Int × (Int × (Int × (Int × (Int × (Int × (Int × (Int × (Int × ((Fin 64 → Den kparkLot) × (Int × (Int × (Int × (Int × (Int × (Int × (Int × (Int × (Int × (Int × (Int × (Int × (Int × (Bool × Den kparkLot)))))))))))))))))))))))) × Unit))))) (go25 : (Bool × (Int × ((Int × (Int × (Int × (Int × (Int × (Int × (Int × (Int × (Int × ((Fin 64 → Den kparkLot) × (Int × (Int × (Int × (Int × (Int × (Int × (Int × (Int × (Int × (Int × (Int × (Int × (Int × (Bool × Den kparkLot)))))))))))))))))))))))) × Unit))) → Heap → Prop) (s23 : (Bool × (Int × ((Int × (Int × (Int × (Int × (Int × (Int × (Int × (Int × (Int × ((Fin 64 → Den kparkLot) × (Int × (Int × (Int × (Int × (Int × (Int × (Int × (Int × (Int × (Int × (Int × (Int × (Int × (Bool × Den kparkLot)))))))))))))))))))))))) × Unit)))) (h24 : Heap) : Prop :=
    (((decide (s23.2.1 < (w64 (s21.2.2.1 + (s21.1.len : Int))))) = true →
    c_cells_Arena_Log s21.2.1 h24 fun r28 h29 =>
    c_park_Answer (((s23.2.2.1.1, (s23.2.2.1.2.1, ())), (s23.2.2.1.2.2.1, (s23.2.2.1.2.2.2.1, (s23.2.2.1.2.2.2.2.1, (s23.2.2.1.2.2.2.2.2.1, (s23.2.2.1.2.2.2.2.2.2.1, (s23.2.2.1.2.2.2.2.2.2.2.1, (s23.2.2.1.2.2.2.2.2.2.2.2.1, ())))))))), (s23.2.2.1.2.2.2.2.2.2.2.2.2.1, ((s23.2.2.1.2.2.2.2.2.2.2.2.2.2.1, (s23.2.2.1.2.2.2.2.2.2.2.2.2.2.2.1, ((s23.2.2.1.2.2.2.2.2.2.2.2.2.2.2.2.1, (s23.2.2.1.2.2.2.2.2.2.2.2.2.2.2.2.2.1, ())), (s23.2.2.1.2.2.2.2.2.2.2.2.2.2.2.2.2.2.1, (s23.2.2.1.2.2.2.2.2.2.2.2.2.2.2.2.2.2.2.1, (s23.2.2.1.2.2.2.2.2.2.2.2.2.2.2.2.2.2.2.2.1, (s23.2.2.1.2.2.2.2.2.2.2.2.2.2.2.2.2.2.2.2.2.1, (s23.2.2.1.2.2.2.2.2.2.2.2.2.2.2.2.2.2.2.2.2.2.1, (s23.2.2.1.2.2.2.2.2.2.2.2.2.2.2.2.2.2.2.2.2.2.2.1, (s23.2.2.1.2.2.2.2.2.2.2.2.2.2.2.2.2.2.2.2.2.2.2.2.1, (s23.2.2.1.2.2.2.2.2.2.2.2.2.2.2.2.2.2.2.2.2.2.2.2.2.1, (s23.2.2.1.2.2.2.2.2.2.2.2.2.2.2.2.2.2.2.2.2.2.2.2.2.2.1, (s23.2.2.1.2.2.2.2.2.2.2.2.2.2.2.2.2.2.2.2.2.2.2.2.2.2.2.1, (s23.2.2.1.2.2.2.2.2.2.2.2.2.2.2.2.2.2.2.2.2.2.2.2.2.2.2.2.1, (s23.2.2.1.2.2.2.2.2.2.2.2.2.2.2.2.2.2.2.2.2.2.2.2.2.2.2.2.2.1, ()))))))))))))))), ()))) h29 fun r30 h31 =>
    c_park_Step (Value.iface 25 (Kd.val (.ptr : Kd) s21.2.1)) (((s23.2.2.1.1, (s23.2.2.1.2.1, ())), (s23.2.2.1.2.2.1, (s23.2.2.1.2.2.2.1, (s23.2.2.1.2.2.2.2.1, (s23.2.2.1.2.2.2.2.2.1, (s23.2.2.1.2.2.2.2.2.2.1, (s23.2.2.1.2.2.2.2.2.2.2.1, (s23.2.2.1.2.2.2.2.2.2.2.2.1, ())))))))), (s23.2.2.1.2.2.2.2.2.2.2.2.2.1, ((s23.2.2.1.2.2.2.2.2.2.2.2.2.2.1, (s23.2.2.1.2.2.2.2.2.2.2.2.2.2.2.1, ((s23.2.2.1.2.2.2.2.2.2.2.2.2.2.2.2.1, (s23.2.2.1.2.2.2.2.2.2.2.2.2.2.2.2.2.1, ())), (s23.2.2.1.2.2.2.2.2.2.2.2.2.2.2.2.2.2.1, (s23.2.2.1.2.2.2.2.2.2.2.2.2.2.2.2.2.2.2.1, (s23.2.2.1.2.2.2.2.2.2.2.2.2.2.2.2.2.2.2.2.1, (s23.2.2.1.2.2.2.2.2.2.2.2.2.2.2.2.2.2.2.2.2.1, (s23.2.2.1.2.2.2.2.2.2.2.2.2.2.2.2.2.2.2.2.2.2.1, (s23.2.2.1.2.2.2.2.2.2.2.2.2.2.2.2.2.2.2.2.2.2.2.1, (s23.2.2.1.2.2.2.2.2.2.2.2.2.2.2.2.2.2.2.2.2.2.2.2.1, (s23.2.2.1.2.2.2.2.2.2.2.2.2.2.2.2.2.2.2.2.2.2.2.2.2.1, (s23.2.2.1.2.2.2.2.2.2.2.2.2.2.2.2.2.2.2.2.2.2.2.2.2.2.1, (s23.2.2.1.2.2.2.2.2.2.2.2.2.2.2.2.2.2.2.2.2.2.2.2.2.2.2.1, (s23.2.2.1.2.2.2.2.2.2.2.2.2.2.2.2.2.2.2.2.2.2.2.2.2.2.2.2.1, (s23.2.2.1.2.2.2.2.2.2.2.2.2.2.2.2.2.2.2.2.2.2.2.2.2.2.2.2.2.1, ()))))))))))))))), ()))) h31 fun r32 h33 =>
    c_cells_Arena_Log s21.2.1 h33 fun r34 h35 =>
    (((decide ((1 : Int) < (w64 ((r34.len : Int) - (r28.len : Int))))) = true →
    law9_ParkSteps.j7 c_park_Answer c_cells_Arena_Watch c_cells_Arena_Store c_park_Parked Q s21 go25 s23 r32 (true, ()) h35) ∧
    ((decide ((1 : Int) < (w64 ((r34.len : Int) - (r28.len : Int))))) = false →
    (((decide ((w64 ((r34.len : Int) - (r28.len : Int))) = 1)) = true →
    law9_ParkSteps.j7 c_park_Answer c_cells_Arena_Watch c_cells_Arena_Store c_park_Parked Q s21 go25 s23 r32 ((decide (r30.1 ≠ 0)), ()) h35) ∧
    ((decide ((w64 ((r34.len : Int) - (r28.len : Int))) = 1)) = false →
    law9_ParkSteps.j7 c_park_Answer c_cells_Arena_Watch c_cells_Arena_Store c_park_Parked Q s21 go25 s23 r32 (false, ()) h35))))) ∧
    ((decide (s23.2.1 < (w64 (s21.2.2.1 + (s21.1.len : Int))))) = false →
    c_park_Answer (((s23.2.2.1.1, (s23.2.2.1.2.1, ())), (s23.2.2.1.2.2.1, (s23.2.2.1.2.2.2.1, (s23.2.2.1.2.2.2.2.1, (s23.2.2.1.2.2.2.2.2.1, (s23.2.2.1.2.2.2.2.2.2.1, (s23.2.2.1.2.2.2.2.2.2.2.1, (s23.2.2.1.2.2.2.2.2.2.2.2.1, ())))))))), (s23.2.2.1.2.2.2.2.2.2.2.2.2.1, ((s23.2.2.1.2.2.2.2.2.2.2.2.2.2.1, (s23.2.2.1.2.2.2.2.2.2.2.2.2.2.2.1, ((s23.2.2.1.2.2.2.2.2.2.2.2.2.2.2.2.1, (s23.2.2.1.2.2.2.2.2.2.2.2.2.2.2.2.2.1, ())), (s23.2.2.1.2.2.2.2.2.2.2.2.2.2.2.2.2.2.1, (s23.2.2.1.2.2.2.2.2.2.2.2.2.2.2.2.2.2.2.1, (s23.2.2.1.2.2.2.2.2.2.2.2.2.2.2.2.2.2.2.2.1, (s23.2.2.1.2.2.2.2.2.2.2.2.2.2.2.2.2.2.2.2.2.1, (s23.2.2.1.2.2.2.2.2.2.2.2.2.2.2.2.2.2.2.2.2.2.1, (s23.2.2.1.2.2.2.2.2.2.2.2.2.2.2.2.2.2.2.2.2.2.2.1, (s23.2.2.1.2.2.2.2.2.2.2.2.2.2.2.2.2.2.2.2.2.2.2.2.1, (s23.2.2.1.2.2.2.2.2.2.2.2.2.2.2.2.2.2.2.2.2.2.2.2.2.1, (s23.2.2.1.2.2.2.2.2.2.2.2.2.2.2.2.2.2.2.2.2.2.2.2.2.2.1, (s23.2.2.1.2.2.2.2.2.2.2.2.2.2.2.2.2.2.2.2.2.2.2.2.2.2.2.1, (s23.2.2.1.2.2.2.2.2.2.2.2.2.2.2.2.2.2.2.2.2.2.2.2.2.2.2.2.1, (s23.2.2.1.2.2.2.2.2.2.2.2.2.2.2.2.2.2.2.2.2.2.2.2.2.2.2.2.2.1, ()))))))))))))))), ()))) h24 fun r64 h65 =>
    (((decide ((0 : Int) < s21.2.2.1)) = true →
    Q true h65) ∧
    ((decide ((0 : Int) < s21.2.2.1)) = false →
    Q (decide (r64.1 = 1)) h65))))
def law9_ParkSteps.k9 (c_cells_Arena_Log : Option Addr → Heap → (Sl → Heap → Prop) → Prop) (c_park_Answer : Den kparkOp → Heap → (Den kparkLot → Heap → Prop) → Prop) (c_park_Step : Value → Den kparkOp → Heap → (Den kparkOp → Heap → Prop) → Prop) (c_cells_Arena_Watch : Option Addr → Bool → Heap → (Unit → Heap → Prop) → Prop) (c_cells_Arena_Store : Option Addr → Int → Int → Heap → (Int → Heap → Prop) → Prop) (c_park_Parked : Den kparkOp → Heap → (Bool → Heap → Prop) → Prop) (Q : Bool → Heap → Prop) (s21 : (Sl × (Option Addr × (Int × ((Int × (Int × (Int × (Int × (Int × (Int × (Int × (Int × (Int × ((Fin 64 → Den kparkLot) × (Int × (Int × (Int × (Int × (Int × (Int × (Int × (Int × (Int × (Int × (Int × (Int × (Int × (Bool × Den kparkLot)))))))))))))))))))))))) × Unit))))) (h22 : Heap) : Prop :=
    Loop (law9_ParkSteps.l8 c_cells_Arena_Log c_park_Answer c_park_Step c_cells_Arena_Watch c_cells_Arena_Store c_park_Parked Q s21) (false, 0, (s21.2.2.2.1.1, (s21.2.2.2.1.2.1, (s21.2.2.2.1.2.2.1, (s21.2.2.2.1.2.2.2.1, (s21.2.2.2.1.2.2.2.2.1, (s21.2.2.2.1.2.2.2.2.2.1, (s21.2.2.2.1.2.2.2.2.2.2.1, (s21.2.2.2.1.2.2.2.2.2.2.2.1, (s21.2.2.2.1.2.2.2.2.2.2.2.2.1, (s21.2.2.2.1.2.2.2.2.2.2.2.2.2.1, (s21.2.2.2.1.2.2.2.2.2.2.2.2.2.2.1, (s21.2.2.2.1.2.2.2.2.2.2.2.2.2.2.2.1, (s21.2.2.2.1.2.2.2.2.2.2.2.2.2.2.2.2.1, (s21.2.2.2.1.2.2.2.2.2.2.2.2.2.2.2.2.2.1, (s21.2.2.2.1.2.2.2.2.2.2.2.2.2.2.2.2.2.2.1, (s21.2.2.2.1.2.2.2.2.2.2.2.2.2.2.2.2.2.2.2.1, (s21.2.2.2.1.2.2.2.2.2.2.2.2.2.2.2.2.2.2.2.2.1, (s21.2.2.2.1.2.2.2.2.2.2.2.2.2.2.2.2.2.2.2.2.2.1, (s21.2.2.2.1.2.2.2.2.2.2.2.2.2.2.2.2.2.2.2.2.2.2.1, (s21.2.2.2.1.2.2.2.2.2.2.2.2.2.2.2.2.2.2.2.2.2.2.2.1, (s21.2.2.2.1.2.2.2.2.2.2.2.2.2.2.2.2.2.2.2.2.2.2.2.2.1, (s21.2.2.2.1.2.2.2.2.2.2.2.2.2.2.2.2.2.2.2.2.2.2.2.2.2.1, (s21.2.2.2.1.2.2.2.2.2.2.2.2.2.2.2.2.2.2.2.2.2.2.2.2.2.2.1, (s21.2.2.2.1.2.2.2.2.2.2.2.2.2.2.2.2.2.2.2.2.2.2.2.2.2.2.2.1, (s21.2.2.2.1.2.2.2.2.2.2.2.2.2.2.2.2.2.2.2.2.2.2.2.2.2.2.2.2.1, (s21.2.2.2.1.2.2.2.2.2.2.2.2.2.2.2.2.2.2.2.2.2.2.2.2.2.2.2.2.2.1, ())))))))))))))))))))))))))), ()) h22
def law9_ParkSteps.j10 (c_cells_Arena_Log : Option Addr → Heap → (Sl → Heap → Prop) → Prop) (c_park_Answer : Den kparkOp → Heap → (Den kparkLot → Heap → Prop) → Prop) (c_park_Step : Value → Den kparkOp → Heap → (Den kparkOp → Heap → Prop) → Prop) (c_cells_Arena_Watch : Option Addr → Bool → Heap → (Unit → Heap → Prop) → Prop) (c_cells_Arena_Store : Option Addr → Int → Int → Heap → (Int → Heap → Prop) → Prop) (c_park_Parked : Den kparkOp → Heap → (Bool → Heap → Prop) → Prop) (Q : Bool → Heap → Prop) (s19 : (Int × (Sl × (Option Addr × (Int × ((Int × (Int × (Int × (Int × (Int × (Int × (Int × (Int × (Int × ((Fin 64 → Den kparkLot) × (Int × (Int × (Int × (Int × (Int × (Int × (Int × (Int × (Int × (Int × (Int × (Int × (Int × (Bool × Den kparkLot)))))))))))))))))))))))) × Unit)))))) (s66 : (Bool × Unit)) (h67 : Heap) : Prop :=
    ((s66.1 = true →
    law9_ParkSteps.k9 c_cells_Arena_Log c_park_Answer c_park_Step c_cells_Arena_Watch c_cells_Arena_Store c_park_Parked Q (s19.2.1, s19.2.2.1, 0, (s19.2.2.2.2.1.1, (s19.2.2.2.2.1.2.1, (s19.2.2.2.2.1.2.2.1, (s19.2.2.2.2.1.2.2.2.1, (s19.2.2.2.2.1.2.2.2.2.1, (s19.2.2.2.2.1.2.2.2.2.2.1, (s19.2.2.2.2.1.2.2.2.2.2.2.1, (s19.2.2.2.2.1.2.2.2.2.2.2.2.1, (s19.2.2.2.2.1.2.2.2.2.2.2.2.2.1, (s19.2.2.2.2.1.2.2.2.2.2.2.2.2.2.1, (s19.2.2.2.2.1.2.2.2.2.2.2.2.2.2.2.1, (s19.2.2.2.2.1.2.2.2.2.2.2.2.2.2.2.2.1, (s19.2.2.2.2.1.2.2.2.2.2.2.2.2.2.2.2.2.1, (s19.2.2.2.2.1.2.2.2.2.2.2.2.2.2.2.2.2.2.1, (s19.2.2.2.2.1.2.2.2.2.2.2.2.2.2.2.2.2.2.2.1, (s19.2.2.2.2.1.2.2.2.2.2.2.2.2.2.2.2.2.2.2.2.1, (s19.2.2.2.2.1.2.2.2.2.2.2.2.2.2.2.2.2.2.2.2.2.1, (s19.2.2.2.2.1.2.2.2.2.2.2.2.2.2.2.2.2.2.2.2.2.2.1, (s19.2.2.2.2.1.2.2.2.2.2.2.2.2.2.2.2.2.2.2.2.2.2.2.1, (s19.2.2.2.2.1.2.2.2.2.2.2.2.2.2.2.2.2.2.2.2.2.2.2.2.1, (s19.2.2.2.2.1.2.2.2.2.2.2.2.2.2.2.2.2.2.2.2.2.2.2.2.2.1, (s19.2.2.2.2.1.2.2.2.2.2.2.2.2.2.2.2.2.2.2.2.2.2.2.2.2.2.1, (s19.2.2.2.2.1.2.2.2.2.2.2.2.2.2.2.2.2.2.2.2.2.2.2.2.2.2.2.1, (s19.2.2.2.2.1.2.2.2.2.2.2.2.2.2.2.2.2.2.2.2.2.2.2.2.2.2.2.2.1, (s19.2.2.2.2.1.2.2.2.2.2.2.2.2.2.2.2.2.2.2.2.2.2.2.2.2.2.2.2.2.1, (s19.2.2.2.2.1.2.2.2.2.2.2.2.2.2.2.2.2.2.2.2.2.2.2.2.2.2.2.2.2.2.1, ())))))))))))))))))))))))))), ()) h67) ∧
    (s66.1 = false →
    law9_ParkSteps.k9 c_cells_Arena_Log c_park_Answer c_park_Step c_cells_Arena_Watch c_cells_Arena_Store c_park_Parked Q (s19.2.1, s19.2.2.1, s19.2.2.2.1, (s19.2.2.2.2.1.1, (s19.2.2.2.2.1.2.1, (s19.2.2.2.2.1.2.2.1, (s19.2.2.2.2.1.2.2.2.1, (s19.2.2.2.2.1.2.2.2.2.1, (s19.2.2.2.2.1.2.2.2.2.2.1, (s19.2.2.2.2.1.2.2.2.2.2.2.1, (s19.2.2.2.2.1.2.2.2.2.2.2.2.1, (s19.2.2.2.2.1.2.2.2.2.2.2.2.2.1, (s19.2.2.2.2.1.2.2.2.2.2.2.2.2.2.1, (s19.2.2.2.2.1.2.2.2.2.2.2.2.2.2.2.1, (s19.2.2.2.2.1.2.2.2.2.2.2.2.2.2.2.2.1, (s19.2.2.2.2.1.2.2.2.2.2.2.2.2.2.2.2.2.1, (s19.2.2.2.2.1.2.2.2.2.2.2.2.2.2.2.2.2.2.1, (s19.2.2.2.2.1.2.2.2.2.2.2.2.2.2.2.2.2.2.2.1, (s19.2.2.2.2.1.2.2.2.2.2.2.2.2.2.2.2.2.2.2.2.1, (s19.2.2.2.2.1.2.2.2.2.2.2.2.2.2.2.2.2.2.2.2.2.1, (s19.2.2.2.2.1.2.2.2.2.2.2.2.2.2.2.2.2.2.2.2.2.2.1, (s19.2.2.2.2.1.2.2.2.2.2.2.2.2.2.2.2.2.2.2.2.2.2.2.1, (s19.2.2.2.2.1.2.2.2.2.2.2.2.2.2.2.2.2.2.2.2.2.2.2.2.1, (s19.2.2.2.2.1.2.2.2.2.2.2.2.2.2.2.2.2.2.2.2.2.2.2.2.2.1, (s19.2.2.2.2.1.2.2.2.2.2.2.2.2.2.2.2.2.2.2.2.2.2.2.2.2.2.1, (s19.2.2.2.2.1.2.2.2.2.2.2.2.2.2.2.2.2.2.2.2.2.2.2.2.2.2.2.1, (s19.2.2.2.2.1.2.2.2.2.2.2.2.2.2.2.2.2.2.2.2.2.2.2.2.2.2.2.2.1, (s19.2.2.2.2.1.2.2.2.2.2.2.2.2.2.2.2.2.2.2.2.2.2.2.2.2.2.2.2.2.1, (s19.2.2.2.2.1.2.2.2.2.2.2.2.2.2.2.2.2.2.2.2.2.2.2.2.2.2.2.2.2.2.1, ())))))))))))))))))))))))))), ()) h67))
def law9_ParkSteps.k11 (c_cells_Arena_Log : Option Addr → Heap → (Sl → Heap → Prop) → Prop) (c_park_Answer : Den kparkOp → Heap → (Den kparkLot → Heap → Prop) → Prop) (c_park_Step : Value → Den kparkOp → Heap → (Den kparkOp → Heap → Prop) → Prop) (c_cells_Arena_Watch : Option Addr → Bool → Heap → (Unit → Heap → Prop) → Prop) (c_cells_Arena_Store : Option Addr → Int → Int → Heap → (Int → Heap → Prop) → Prop) (c_park_Parked : Den kparkOp → Heap → (Bool → Heap → Prop) → Prop) (Q : Bool → Heap → Prop) (s19 : (Int × (Sl × (Option Addr × (Int × ((Int × (Int × (Int × (Int × (Int × (Int × (Int × (Int × (Int × ((Fin 64 → Den kparkLot) × (Int × (Int × (Int × (Int × (Int × (Int × (Int × (Int × (Int × (Int × (Int × (Int × (Int × (Bool × Den kparkLot)))))))))))))))))))))))) × Unit)))))) (h20 : Heap) : Prop :=
    (((decide (s19.1 < 1)) = true →
    law9_ParkSteps.j10 c_cells_Arena_Log c_park_Answer c_park_Step c_cells_Arena_Watch c_cells_Arena_Store c_park_Parked Q s19 (true, ()) h20) ∧
    ((decide (s19.1 < 1)) = false →
    law9_ParkSteps.j10 c_cells_Arena_Log c_park_Answer c_park_Step c_cells_Arena_Watch c_cells_Arena_Store c_park_Parked Q s19 ((decide ((64 : Int) < s19.1)), ()) h20))
def law9_ParkSteps.k12 (c_law9_mod : Int → Int → Heap → (Int → Heap → Prop) → Prop) (c_law9_born : Den klaw9Move → Int → Int → Sl → Heap → ((Den kparkOp × (Den kref9Op × Unit)) → Heap → Prop) → Prop) (c_cells_Arena_Log : Option Addr → Heap → (Sl → Heap → Prop) → Prop) (c_park_Answer : Den kparkOp → Heap → (Den kparkLot → Heap → Prop) → Prop) (c_park_Step : Value → Den kparkOp → Heap → (Den kparkOp → Heap → Prop) → Prop) (c_cells_Arena_Watch : Option Addr → Bool → Heap → (Unit → Heap → Prop) → Prop) (c_cells_Arena_Store : Option Addr → Int → Int → Heap → (Int → Heap → Prop) → Prop) (c_park_Parked : Den kparkOp → Heap → (Bool → Heap → Prop) → Prop) (Q : Bool → Heap → Prop) (s13 : (Int × (Int × (Sl × (Int × (Int × (Sl × (Option Addr × Unit)))))))) (h14 : Heap) : Prop :=
    c_law9_mod s13.2.2.2.1 4 h14 fun r15 h16 =>
    c_law9_born (r15, (0, (s13.2.2.2.2.1, ()))) s13.1 s13.2.1 s13.2.2.1 h16 fun r17 h18 =>
    c_law9_mod s13.2.2.2.1 4 h18 fun r68 h69 =>
    (((decide (r68 = 1)) = true →
    law9_ParkSteps.k11 c_cells_Arena_Log c_park_Answer c_park_Step c_cells_Arena_Watch c_cells_Arena_Store c_park_Parked Q (s13.2.1, s13.2.2.2.2.2.1, s13.2.2.2.2.2.2.1, (w64 (s13.2.1 + 1)), (r17.1.1.1.1, (r17.1.1.1.2.1, (r17.1.1.2.1, (r17.1.1.2.2.1, (r17.1.1.2.2.2.1, (r17.1.1.2.2.2.2.1, (r17.1.1.2.2.2.2.2.1, (r17.1.1.2.2.2.2.2.2.1, (r17.1.1.2.2.2.2.2.2.2.1, (r17.1.2.1, (r17.1.2.2.1.1, (r17.1.2.2.1.2.1, (r17.1.2.2.1.2.2.1.1, (r17.1.2.2.1.2.2.1.2.1, (r17.1.2.2.1.2.2.2.1, (r17.1.2.2.1.2.2.2.2.1, (r17.1.2.2.1.2.2.2.2.2.1, (r17.1.2.2.1.2.2.2.2.2.2.1, (r17.1.2.2.1.2.2.2.2.2.2.2.1, (r17.1.2.2.1.2.2.2.2.2.2.2.2.1, (r17.1.2.2.1.2.2.2.2.2.2.2.2.2.1, (r17.1.2.2.1.2.2.2.2.2.2.2.2.2.2.1, (r17.1.2.2.1.2.2.2.2.2.2.2.2.2.2.2.1, (r17.1.2.2.1.2.2.2.2.2.2.2.2.2.2.2.2.1, (r17.1.2.2.1.2.2.2.2.2.2.2.2.2.2.2.2.2.1, (r17.1.2.2.1.2.2.2.2.2.2.2.2.2.2.2.2.2.2.1, ())))))))))))))))))))))))))), ()) h69) ∧
    ((decide (r68 = 1)) = false →
    (((decide (r68 = 2)) = true →
    law9_ParkSteps.k11 c_cells_Arena_Log c_park_Answer c_park_Step c_cells_Arena_Watch c_cells_Arena_Store c_park_Parked Q (s13.2.1, s13.2.2.2.2.2.1, s13.2.2.2.2.2.2.1, 1, (r17.1.1.1.1, (r17.1.1.1.2.1, (r17.1.1.2.1, (r17.1.1.2.2.1, (r17.1.1.2.2.2.1, (r17.1.1.2.2.2.2.1, (r17.1.1.2.2.2.2.2.1, (r17.1.1.2.2.2.2.2.2.1, (r17.1.1.2.2.2.2.2.2.2.1, (r17.1.2.1, (r17.1.2.2.1.1, (r17.1.2.2.1.2.1, (r17.1.2.2.1.2.2.1.1, (r17.1.2.2.1.2.2.1.2.1, (r17.1.2.2.1.2.2.2.1, (r17.1.2.2.1.2.2.2.2.1, (r17.1.2.2.1.2.2.2.2.2.1, (r17.1.2.2.1.2.2.2.2.2.2.1, (r17.1.2.2.1.2.2.2.2.2.2.2.1, (r17.1.2.2.1.2.2.2.2.2.2.2.2.1, (r17.1.2.2.1.2.2.2.2.2.2.2.2.2.1, (r17.1.2.2.1.2.2.2.2.2.2.2.2.2.2.1, (r17.1.2.2.1.2.2.2.2.2.2.2.2.2.2.2.1, (r17.1.2.2.1.2.2.2.2.2.2.2.2.2.2.2.2.1, (r17.1.2.2.1.2.2.2.2.2.2.2.2.2.2.2.2.2.1, (r17.1.2.2.1.2.2.2.2.2.2.2.2.2.2.2.2.2.2.1, ())))))))))))))))))))))))))), ()) h69) ∧
    ((decide (r68 = 2)) = false →
    (((decide (r68 = 3)) = true →
    law9_ParkSteps.k11 c_cells_Arena_Log c_park_Answer c_park_Step c_cells_Arena_Watch c_cells_Arena_Store c_park_Parked Q (s13.2.1, s13.2.2.2.2.2.1, s13.2.2.2.2.2.2.1, (w64 ((w64 (2 * s13.2.1)) - 1)), (r17.1.1.1.1, (r17.1.1.1.2.1, (r17.1.1.2.1, (r17.1.1.2.2.1, (r17.1.1.2.2.2.1, (r17.1.1.2.2.2.2.1, (r17.1.1.2.2.2.2.2.1, (r17.1.1.2.2.2.2.2.2.1, (r17.1.1.2.2.2.2.2.2.2.1, (r17.1.2.1, (r17.1.2.2.1.1, (r17.1.2.2.1.2.1, (r17.1.2.2.1.2.2.1.1, (r17.1.2.2.1.2.2.1.2.1, (r17.1.2.2.1.2.2.2.1, (r17.1.2.2.1.2.2.2.2.1, (r17.1.2.2.1.2.2.2.2.2.1, (r17.1.2.2.1.2.2.2.2.2.2.1, (r17.1.2.2.1.2.2.2.2.2.2.2.1, (r17.1.2.2.1.2.2.2.2.2.2.2.2.1, (r17.1.2.2.1.2.2.2.2.2.2.2.2.2.1, (r17.1.2.2.1.2.2.2.2.2.2.2.2.2.2.1, (r17.1.2.2.1.2.2.2.2.2.2.2.2.2.2.2.1, (r17.1.2.2.1.2.2.2.2.2.2.2.2.2.2.2.2.1, (r17.1.2.2.1.2.2.2.2.2.2.2.2.2.2.2.2.2.1, (r17.1.2.2.1.2.2.2.2.2.2.2.2.2.2.2.2.2.2.1, ())))))))))))))))))))))))))), ()) h69) ∧
    ((decide (r68 = 3)) = false →
    law9_ParkSteps.k11 c_cells_Arena_Log c_park_Answer c_park_Step c_cells_Arena_Watch c_cells_Arena_Store c_park_Parked Q (s13.2.1, s13.2.2.2.2.2.1, s13.2.2.2.2.2.2.1, (w64 ((w64 (2 * s13.2.1)) + 3)), (r17.1.1.1.1, (r17.1.1.1.2.1, (r17.1.1.2.1, (r17.1.1.2.2.1, (r17.1.1.2.2.2.1, (r17.1.1.2.2.2.2.1, (r17.1.1.2.2.2.2.2.1, (r17.1.1.2.2.2.2.2.2.1, (r17.1.1.2.2.2.2.2.2.2.1, (r17.1.2.1, (r17.1.2.2.1.1, (r17.1.2.2.1.2.1, (r17.1.2.2.1.2.2.1.1, (r17.1.2.2.1.2.2.1.2.1, (r17.1.2.2.1.2.2.2.1, (r17.1.2.2.1.2.2.2.2.1, (r17.1.2.2.1.2.2.2.2.2.1, (r17.1.2.2.1.2.2.2.2.2.2.1, (r17.1.2.2.1.2.2.2.2.2.2.2.1, (r17.1.2.2.1.2.2.2.2.2.2.2.2.1, (r17.1.2.2.1.2.2.2.2.2.2.2.2.2.1, (r17.1.2.2.1.2.2.2.2.2.2.2.2.2.2.1, (r17.1.2.2.1.2.2.2.2.2.2.2.2.2.2.2.1, (r17.1.2.2.1.2.2.2.2.2.2.2.2.2.2.2.2.1, (r17.1.2.2.1.2.2.2.2.2.2.2.2.2.2.2.2.2.1, (r17.1.2.2.1.2.2.2.2.2.2.2.2.2.2.2.2.2.2.1, ())))))))))))))))))))))))))), ()) h69))))))
def law9_ParkSteps.j13 (c_law9_mod : Int → Int → Heap → (Int → Heap → Prop) → Prop) (c_law9_born : Den klaw9Move → Int → Int → Sl → Heap → ((Den kparkOp × (Den kref9Op × Unit)) → Heap → Prop) → Prop) (c_cells_Arena_Log : Option Addr → Heap → (Sl → Heap → Prop) → Prop) (c_park_Answer : Den kparkOp → Heap → (Den kparkLot → Heap → Prop) → Prop) (c_park_Step : Value → Den kparkOp → Heap → (Den kparkOp → Heap → Prop) → Prop) (c_cells_Arena_Watch : Option Addr → Bool → Heap → (Unit → Heap → Prop) → Prop) (c_cells_Arena_Store : Option Addr → Int → Int → Heap → (Int → Heap → Prop) → Prop) (c_park_Parked : Den kparkOp → Heap → (Bool → Heap → Prop) → Prop) (Q : Bool → Heap → Prop) (s9 : (Sl × (Int × (Int × (Sl × (Int × (Int × (Sl × Unit)))))))) (r11 : (Option Addr × (Bool × Unit))) (s70 : (Bool × Unit)) (h71 : Heap) : Prop :=
    ((s70.1 = true →
    Q false h71) ∧
    (s70.1 = false →
    law9_ParkSteps.k12 c_law9_mod c_law9_born c_cells_Arena_Log c_park_Answer c_park_Step c_cells_Arena_Watch c_cells_Arena_Store c_park_Parked Q (s9.2.1, s9.2.2.1, s9.2.2.2.1, s9.2.2.2.2.1, s9.2.2.2.2.2.1, s9.2.2.2.2.2.2.1, r11.1, ()) h71))
def law9_ParkSteps.k14 (c_law9_arena : Int → Sl → Heap → ((Option Addr × (Bool × Unit)) → Heap → Prop) → Prop) (c_law9_mod : Int → Int → Heap → (Int → Heap → Prop) → Prop) (c_law9_alone : Int → Heap → (Bool → Heap → Prop) → Prop) (c_law9_born : Den klaw9Move → Int → Int → Sl → Heap → ((Den kparkOp × (Den kref9Op × Unit)) → Heap → Prop) → Prop) (c_cells_Arena_Log : Option Addr → Heap → (Sl → Heap → Prop) → Prop) (c_park_Answer : Den kparkOp → Heap → (Den kparkLot → Heap → Prop) → Prop) (c_park_Step : Value → Den kparkOp → Heap → (Den kparkOp → Heap → Prop) → Prop) (c_cells_Arena_Watch : Option Addr → Bool → Heap → (Unit → Heap → Prop) → Prop) (c_cells_Arena_Store : Option Addr → Int → Int → Heap → (Int → Heap → Prop) → Prop) (c_park_Parked : Den kparkOp → Heap → (Bool → Heap → Prop) → Prop) (Q : Bool → Heap → Prop) (s9 : (Sl × (Int × (Int × (Sl × (Int × (Int × (Sl × Unit)))))))) (h10 : Heap) : Prop :=
    c_law9_arena 4096 s9.1 h10 fun r11 h12 =>
    (((!r11.2.1) = true →
    law9_ParkSteps.j13 c_law9_mod c_law9_born c_cells_Arena_Log c_park_Answer c_park_Step c_cells_Arena_Watch c_cells_Arena_Store c_park_Parked Q s9 r11 (true, ()) h12) ∧
    ((!r11.2.1) = false →
    c_law9_mod s9.2.2.2.2.2.1 8 h12 fun r72 h73 =>
    c_law9_alone (w64 (1 + r72)) h73 fun r74 h75 =>
    law9_ParkSteps.j13 c_law9_mod c_law9_born c_cells_Arena_Log c_park_Answer c_park_Step c_cells_Arena_Watch c_cells_Arena_Store c_park_Parked Q s9 r11 ((!r74), ()) h75))
def law9_ParkSteps.M (c_law9_arena : Int → Sl → Heap → ((Option Addr × (Bool × Unit)) → Heap → Prop) → Prop) (c_law9_mod : Int → Int → Heap → (Int → Heap → Prop) → Prop) (c_law9_alone : Int → Heap → (Bool → Heap → Prop) → Prop) (c_law9_born : Den klaw9Move → Int → Int → Sl → Heap → ((Den kparkOp × (Den kref9Op × Unit)) → Heap → Prop) → Prop) (c_cells_Arena_Log : Option Addr → Heap → (Sl → Heap → Prop) → Prop) (c_park_Answer : Den kparkOp → Heap → (Den kparkLot → Heap → Prop) → Prop) (c_park_Step : Value → Den kparkOp → Heap → (Den kparkOp → Heap → Prop) → Prop) (c_cells_Arena_Watch : Option Addr → Bool → Heap → (Unit → Heap → Prop) → Prop) (c_cells_Arena_Store : Option Addr → Int → Int → Heap → (Int → Heap → Prop) → Prop) (c_park_Parked : Den kparkOp → Heap → (Bool → Heap → Prop) → Prop) (begin1 : Sl) (base2 : Int) (workers3 : Int) (ds4 : Sl) (kind5 : Int) (self6 : Int) (pokes7 : Sl) (h8 : Heap) (Q : Bool → Heap → Prop) : Prop :=
    (((decide ((4096 : Int) < (begin1.len : Int))) = true →
    (0 ≤ (4096 : Int) ∧ (4096 : Int) ≤ (begin1.cap : Int)) ∧
    law9_ParkSteps.k14 c_law9_arena c_law9_mod c_law9_alone c_law9_born c_cells_Arena_Log c_park_Answer c_park_Step c_cells_Arena_Watch c_cells_Arena_Store c_park_Parked Q ((begin1.cut 0 (((4096 : Int) : Int).toNat) 1), base2, workers3, ds4, kind5, self6, pokes7, ()) h8) ∧
    ((decide ((4096 : Int) < (begin1.len : Int))) = false →
    law9_ParkSteps.k14 c_law9_arena c_law9_mod c_law9_alone c_law9_born c_cells_Arena_Log c_park_Answer c_park_Step c_cells_Arena_Watch c_cells_Arena_Store c_park_Parked Q (begin1, base2, workers3, ds4, kind5, self6, pokes7, ()) h8))
def law9_ParkSteps.mk : Mk := (.s .d (.k [.slot 0 .sl, .slot 1 (.int .i64), .slot 2 (.int .i64), .slot 3 .sl, .slot 4 (.int .i64), .slot 5 (.int .i64), .slot 6 .sl] [] (.s .d (.c .d .d)) (.s .d (.k [.slot 1 (.int .i64), .slot 2 (.int .i64), .slot 3 .sl, .slot 4 (.int .i64), .slot 5 (.int .i64), .slot 6 .sl, .slot 15 .ptr] [] (.j [.slot 48 .bool] .d (.c (.s .d .d) .d)) (.s (.r [11, 12]) (.s .d (.k [.slot 2 (.int .i64), .slot 6 .sl, .slot 15 .ptr, .slot 19 (.int .i64), .box 17 (.pair (.int .i64) (.pair (.int .i64) (.pair (.int .i64) (.pair (.int .i64) (.pair (.int .i64) (.pair (.int .i64) (.pair (.int .i64) (.pair (.int .i64) (.pair (.int .i64) (.pair (.arr 64 kparkLot) (.pair (.int .i64) (.pair (.int .i64) (.pair (.int .i64) (.pair (.int .i64) (.pair (.int .i64) (.pair (.int .i64) (.pair (.int .i64) (.pair (.int .i64) (.pair (.int .i64) (.pair (.int .i64) (.pair (.int .i64) (.pair (.int .i64) (.pair (.int .i64) (.pair .bool kparkLot))))))))))))))))))))))))] [(17, 17, 0)] (.s .d (.b (.s .d (.c .d (.s .d (.c .d (.s .d (.c .d .d)))))))) (.k [.slot 6 .sl, .slot 15 .ptr, .slot 19 (.int .i64), .box 17 (.pair (.int .i64) (.pair (.int .i64) (.pair (.int .i64) (.pair (.int .i64) (.pair (.int .i64) (.pair (.int .i64) (.pair (.int .i64) (.pair (.int .i64) (.pair (.int .i64) (.pair (.arr 64 kparkLot) (.pair (.int .i64) (.pair (.int .i64) (.pair (.int .i64) (.pair (.int .i64) (.pair (.int .i64) (.pair (.int .i64) (.pair (.int .i64) (.pair (.int .i64) (.pair (.int .i64) (.pair (.int .i64) (.pair (.int .i64) (.pair (.int .i64) (.pair (.int .i64) (.pair .bool kparkLot))))))))))))))))))))))))] [(17, 17, 0)] (.j [.slot 81 .bool] .d (.c .d .d)) (.s .d (.s (.s .d (.b (.l [.slot 20 .bool, .slot 21 (.int .i64), .box 17 (.pair (.int .i64) (.pair (.int .i64) (.pair (.int .i64) (.pair (.int .i64) (.pair (.int .i64) (.pair (.int .i64) (.pair (.int .i64) (.pair (.int .i64) (.pair (.int .i64) (.pair (.arr 64 kparkLot) (.pair (.int .i64) (.pair (.int .i64) (.pair (.int .i64) (.pair (.int .i64) (.pair (.int .i64) (.pair (.int .i64) (.pair (.int .i64) (.pair (.int .i64) (.pair (.int .i64) (.pair (.int .i64) (.pair (.int .i64) (.pair (.int .i64) (.pair (.int .i64) (.pair .bool kparkLot))))))))))))))))))))))))] (.s (.s .d (.c .d .d)) (.j [.slot 20 .bool, .box 17 (.pair (.int .i64) (.pair (.int .i64) (.pair (.int .i64) (.pair (.int .i64) (.pair (.int .i64) (.pair (.int .i64) (.pair (.int .i64) (.pair (.int .i64) (.pair (.int .i64) (.pair (.arr 64 kparkLot) (.pair (.int .i64) (.pair (.int .i64) (.pair (.int .i64) (.pair (.int .i64) (.pair (.int .i64) (.pair (.int .i64) (.pair (.int .i64) (.pair (.int .i64) (.pair (.int .i64) (.pair (.int .i64) (.pair (.int .i64) (.pair (.int .i64) (.pair (.int .i64) (.pair .bool kparkLot))))))))))))))))))))))))] (.b (.s .d (.s .d (.s .d (.s .d (.j [] (.j [.slot 116 .bool] .d (.c (.s .d .d) .d)) (.j [] (.s .d (.c (.s .d (.s (.q [] [] [.p 0, .p 1, .p 2, .p 3, .p 4, .p 6, .p 7, .p 8, .p 9, .w 5 [5, 11], .w 10 [10, 11], .o 11]) .d)) .d)) (.s .d (.j [] (.j [.slot 151 .bool] .d (.c (.s .d .d) .d)) (.s .d (.j [.slot 165 .bool] .d (.c (.s .d .d) .d)))))))))))) .d))))) (.s .d (.s .d .d))))))))))))

def law9_arena.l1 (c_cells_Arena_Store : Option Addr → Int → Int → Heap → (Int → Heap → Prop) → Prop) (c_cells_Arena_Watch : Option Addr → Bool → Heap → (Unit → Heap → Prop) → Prop) (begin2 : Sl) (Q : (Option Addr × (Bool × Unit)) → Heap → Prop) (r4 : (Option Addr × (Int × Unit))) (go12 : (Int × Unit) → Heap → Prop) (s10 : (Int × Unit)) (h11 : Heap) : Prop :=
    (((decide (s10.1 < (begin2.len : Int))) = true →
    (0 ≤ s10.1 ∧ s10.1 < (begin2.len : Int)) ∧
    deref begin2.a fun a13 =>
    ld ((.int .i64) : Kd) h11 (a13.add ((s10.1 : Int).toNat * 1)) fun t14 =>
    c_cells_Arena_Store r4.1 s10.1 t14 h11 fun r15 h16 =>
    (((decide (r15 ≠ 0)) = true →
    Q (none, false, ()) h16) ∧
    ((decide (r15 ≠ 0)) = false →
    go12 ((w64 (s10.1 + 1)), ()) h16))) ∧
    ((decide (s10.1 < (begin2.len : Int))) = false →
    c_cells_Arena_Watch r4.1 true h11 fun r17 h18 =>
    Q (r4.1, true, ()) h18))
def law9_arena.j2 (c_cells_Arena_Store : Option Addr → Int → Int → Heap → (Int → Heap → Prop) → Prop) (c_cells_Arena_Watch : Option Addr → Bool → Heap → (Unit → Heap → Prop) → Prop) (begin2 : Sl) (Q : (Option Addr × (Bool × Unit)) → Heap → Prop) (r4 : (Option Addr × (Int × Unit))) (s8 : Unit) (h9 : Heap) : Prop :=
    Loop (law9_arena.l1 c_cells_Arena_Store c_cells_Arena_Watch begin2 Q r4) (0, ()) h9
def law9_arena.j3 (c_cells_Arena_Store : Option Addr → Int → Int → Heap → (Int → Heap → Prop) → Prop) (c_cells_Arena_Watch : Option Addr → Bool → Heap → (Unit → Heap → Prop) → Prop) (begin2 : Sl) (Q : (Option Addr × (Bool × Unit)) → Heap → Prop) (r4 : (Option Addr × (Int × Unit))) (s21 : (Bool × Unit)) (h22 : Heap) : Prop :=
    ((s21.1 = true →
    Q (none, false, ()) h22) ∧
    (s21.1 = false →
    law9_arena.j2 c_cells_Arena_Store c_cells_Arena_Watch begin2 Q r4 () h22))
def law9_arena.j4 (c_cells_Arena_Reserve : Option Addr → Int → Heap → (Den kparkLot → Heap → Prop) → Prop) (c_cells_Arena_Store : Option Addr → Int → Int → Heap → (Int → Heap → Prop) → Prop) (c_cells_Arena_Watch : Option Addr → Bool → Heap → (Unit → Heap → Prop) → Prop) (begin2 : Sl) (Q : (Option Addr × (Bool × Unit)) → Heap → Prop) (r4 : (Option Addr × (Int × Unit))) (s6 : Unit) (h7 : Heap) : Prop :=
    (((decide ((0 : Int) < (begin2.len : Int))) = true →
    c_cells_Arena_Reserve r4.1 (begin2.len : Int) h7 fun r19 h20 =>
    (((decide (r19.2.1 ≠ 0)) = true →
    law9_arena.j3 c_cells_Arena_Store c_cells_Arena_Watch begin2 Q r4 (true, ()) h20) ∧
    ((decide (r19.2.1 ≠ 0)) = false →
    law9_arena.j3 c_cells_Arena_Store c_cells_Arena_Watch begin2 Q r4 ((decide (r19.1 ≠ 0)), ()) h20))) ∧
    ((decide ((0 : Int) < (begin2.len : Int))) = false →
    law9_arena.j2 c_cells_Arena_Store c_cells_Arena_Watch begin2 Q r4 () h7))
def law9_arena.j5 (c_cells_Arena_Reserve : Option Addr → Int → Heap → (Den kparkLot → Heap → Prop) → Prop) (c_cells_Arena_Store : Option Addr → Int → Int → Heap → (Int → Heap → Prop) → Prop) (c_cells_Arena_Watch : Option Addr → Bool → Heap → (Unit → Heap → Prop) → Prop) (begin2 : Sl) (Q : (Option Addr × (Bool × Unit)) → Heap → Prop) (r4 : (Option Addr × (Int × Unit))) (s23 : (Bool × Unit)) (h24 : Heap) : Prop :=
    ((s23.1 = true →
    Q (none, false, ()) h24) ∧
    (s23.1 = false →
    law9_arena.j4 c_cells_Arena_Reserve c_cells_Arena_Store c_cells_Arena_Watch begin2 Q r4 () h24))
def law9_arena.M (c_cells_New : Int → Heap → ((Option Addr × (Int × Unit)) → Heap → Prop) → Prop) (c_cells_Arena_Reserve : Option Addr → Int → Heap → (Den kparkLot → Heap → Prop) → Prop) (c_cells_Arena_Store : Option Addr → Int → Int → Heap → (Int → Heap → Prop) → Prop) (c_cells_Arena_Watch : Option Addr → Bool → Heap → (Unit → Heap → Prop) → Prop) (size1 : Int) (begin2 : Sl) (h3 : Heap) (Q : (Option Addr × (Bool × Unit)) → Heap → Prop) : Prop :=
    c_cells_New size1 h3 fun r4 h5 =>
    (((decide (r4.2.1 ≠ 0)) = true →
    law9_arena.j5 c_cells_Arena_Reserve c_cells_Arena_Store c_cells_Arena_Watch begin2 Q r4 (true, ()) h5) ∧
    ((decide (r4.2.1 ≠ 0)) = false →
    law9_arena.j5 c_cells_Arena_Reserve c_cells_Arena_Store c_cells_Arena_Watch begin2 Q r4 ((Option.isNone r4.1), ()) h5))
def law9_arena.mk : Mk := (.s .d (.s .d (.j [] (.j [.slot 22 .bool] .d (.c (.s .d .d) .d)) (.j [] (.s .d (.c (.s .d (.j [.slot 38 .bool] .d (.c (.s .d .d) .d))) .d)) (.s (.s .d (.b (.l [.slot 10 (.int .i64)] (.s (.s .d (.c .d .d)) (.s (.b (.s .d (.s .d (.c (.s .d .d) .d)))) .d))))) (.s .d (.s .d .d)))))))

def law9_alone.l1 (c_park_Parked : Den kparkOp → Heap → (Bool → Heap → Prop) → Prop) (c_park_Step : Value → Den kparkOp → Heap → (Den kparkOp → Heap → Prop) → Prop) (c_park_Answer : Den kparkOp → Heap → (Den kparkLot → Heap → Prop) → Prop) (p1 : Int) (Q : Bool → Heap → Prop) (r7 : (Option Addr × (Int × Unit))) (s22 : (Int × ((Int × (Int × (Int × (Int × (Int × (Int × (Int × (Int × (Int × ((Fin 64 → Den kparkLot) × (Int × (Int × (Int × (Int × (Int × (Int × (Int × (Int × (Int × (Int × (Int × (Int × (Int × (Bool × Den kparkLot)))))))))))))))))))))))) × Unit))) (go35 : (Int × ((Int × (Int × (Int × (Int × (Int × (Int × (Int × (Int × (Int × ((Fin 64 → Den kparkLot) × (Int × (Int × (Int × (Int × (Int × (Int × (Int × (Int × (Int × (Int × (Int × (Int × (Int × (Bool × Den kparkLot)))))))))))))))))))))))) × Unit)) → Heap → Prop) (s33 : (Int × ((Int × (Int × (Int × (Int × (Int × (Int × (Int × (Int × (Int × ((Fin 64 → Den kparkLot) × (Int × (Int × (Int × (Int × (Int × (Int × (Int × (Int × (Int × (Int × (Int × (Int × (Int × (Bool × Den kparkLot)))))))))))))))))))))))) × Unit))) (h34 : Heap) : Prop :=
    (((decide (s33.1 < (w64 (p1 + 1)))) = true →
    c_park_Step (Value.iface 25 (Kd.val (.ptr : Kd) r7.1)) (((s33.2.1.1, (s33.2.1.2.1, ())), (s33.2.1.2.2.1, (s33.2.1.2.2.2.1, (s33.2.1.2.2.2.2.1, (s33.2.1.2.2.2.2.2.1, (s33.2.1.2.2.2.2.2.2.1, (s33.2.1.2.2.2.2.2.2.2.1, (s33.2.1.2.2.2.2.2.2.2.2.1, ())))))))), (s33.2.1.2.2.2.2.2.2.2.2.2.1, ((s33.2.1.2.2.2.2.2.2.2.2.2.2.1, (s33.2.1.2.2.2.2.2.2.2.2.2.2.2.1, ((s33.2.1.2.2.2.2.2.2.2.2.2.2.2.2.1, (s33.2.1.2.2.2.2.2.2.2.2.2.2.2.2.2.1, ())), (s33.2.1.2.2.2.2.2.2.2.2.2.2.2.2.2.2.1, (s33.2.1.2.2.2.2.2.2.2.2.2.2.2.2.2.2.2.1, (s33.2.1.2.2.2.2.2.2.2.2.2.2.2.2.2.2.2.2.1, (s33.2.1.2.2.2.2.2.2.2.2.2.2.2.2.2.2.2.2.2.1, (s33.2.1.2.2.2.2.2.2.2.2.2.2.2.2.2.2.2.2.2.2.1, (s33.2.1.2.2.2.2.2.2.2.2.2.2.2.2.2.2.2.2.2.2.2.1, (s33.2.1.2.2.2.2.2.2.2.2.2.2.2.2.2.2.2.2.2.2.2.2.1, (s33.2.1.2.2.2.2.2.2.2.2.2.2.2.2.2.2.2.2.2.2.2.2.2.1, (s33.2.1.2.2.2.2.2.2.2.2.2.2.2.2.2.2.2.2.2.2.2.2.2.2.1, (s33.2.1.2.2.2.2.2.2.2.2.2.2.2.2.2.2.2.2.2.2.2.2.2.2.2.1, (s33.2.1.2.2.2.2.2.2.2.2.2.2.2.2.2.2.2.2.2.2.2.2.2.2.2.2.1, (s33.2.1.2.2.2.2.2.2.2.2.2.2.2.2.2.2.2.2.2.2.2.2.2.2.2.2.2.1, ()))))))))))))))), ()))) h34 fun r36 h37 =>
    go35 ((w64 (s33.1 + 1)), (r36.1.1.1, (r36.1.1.2.1, (r36.1.2.1, (r36.1.2.2.1, (r36.1.2.2.2.1, (r36.1.2.2.2.2.1, (r36.1.2.2.2.2.2.1, (r36.1.2.2.2.2.2.2.1, (r36.1.2.2.2.2.2.2.2.1, (r36.2.1, (r36.2.2.1.1, (r36.2.2.1.2.1, (r36.2.2.1.2.2.1.1, (r36.2.2.1.2.2.1.2.1, (r36.2.2.1.2.2.2.1, (r36.2.2.1.2.2.2.2.1, (r36.2.2.1.2.2.2.2.2.1, (r36.2.2.1.2.2.2.2.2.2.1, (r36.2.2.1.2.2.2.2.2.2.2.1, (r36.2.2.1.2.2.2.2.2.2.2.2.1, (r36.2.2.1.2.2.2.2.2.2.2.2.2.1, (r36.2.2.1.2.2.2.2.2.2.2.2.2.2.1, (r36.2.2.1.2.2.2.2.2.2.2.2.2.2.2.1, (r36.2.2.1.2.2.2.2.2.2.2.2.2.2.2.2.1, (r36.2.2.1.2.2.2.2.2.2.2.2.2.2.2.2.2.1, (r36.2.2.1.2.2.2.2.2.2.2.2.2.2.2.2.2.2.1, ())))))))))))))))))))))))))), ()) h37) ∧
    ((decide (s33.1 < (w64 (p1 + 1)))) = false →
    c_park_Answer (((s33.2.1.1, (s33.2.1.2.1, ())), (s33.2.1.2.2.1, (s33.2.1.2.2.2.1, (s33.2.1.2.2.2.2.1, (s33.2.1.2.2.2.2.2.1, (s33.2.1.2.2.2.2.2.2.1, (s33.2.1.2.2.2.2.2.2.2.1, (s33.2.1.2.2.2.2.2.2.2.2.1, ())))))))), (s33.2.1.2.2.2.2.2.2.2.2.2.1, ((s33.2.1.2.2.2.2.2.2.2.2.2.2.1, (s33.2.1.2.2.2.2.2.2.2.2.2.2.2.1, ((s33.2.1.2.2.2.2.2.2.2.2.2.2.2.2.1, (s33.2.1.2.2.2.2.2.2.2.2.2.2.2.2.2.1, ())), (s33.2.1.2.2.2.2.2.2.2.2.2.2.2.2.2.2.1, (s33.2.1.2.2.2.2.2.2.2.2.2.2.2.2.2.2.2.1, (s33.2.1.2.2.2.2.2.2.2.2.2.2.2.2.2.2.2.2.1, (s33.2.1.2.2.2.2.2.2.2.2.2.2.2.2.2.2.2.2.2.1, (s33.2.1.2.2.2.2.2.2.2.2.2.2.2.2.2.2.2.2.2.2.1, (s33.2.1.2.2.2.2.2.2.2.2.2.2.2.2.2.2.2.2.2.2.2.1, (s33.2.1.2.2.2.2.2.2.2.2.2.2.2.2.2.2.2.2.2.2.2.2.1, (s33.2.1.2.2.2.2.2.2.2.2.2.2.2.2.2.2.2.2.2.2.2.2.2.1, (s33.2.1.2.2.2.2.2.2.2.2.2.2.2.2.2.2.2.2.2.2.2.2.2.2.1, (s33.2.1.2.2.2.2.2.2.2.2.2.2.2.2.2.2.2.2.2.2.2.2.2.2.2.1, (s33.2.1.2.2.2.2.2.2.2.2.2.2.2.2.2.2.2.2.2.2.2.2.2.2.2.2.1, (s33.2.1.2.2.2.2.2.2.2.2.2.2.2.2.2.2.2.2.2.2.2.2.2.2.2.2.2.1, ()))))))))))))))), ()))) h34 fun r38 h39 =>
    (((decide (p1 = 1)) = true →
    Q (decide (r38.1 = 19)) h39) ∧
    ((decide (p1 = 1)) = false →
    c_park_Step (Value.iface 25 (Kd.val (.ptr : Kd) r7.1)) (((s22.2.1.1, (s22.2.1.2.1, ())), (s22.2.1.2.2.1, (s22.2.1.2.2.2.1, (s22.2.1.2.2.2.2.1, (s22.2.1.2.2.2.2.2.1, (s22.2.1.2.2.2.2.2.2.1, (s22.2.1.2.2.2.2.2.2.2.1, (s22.2.1.2.2.2.2.2.2.2.2.1, ())))))))), (s22.2.1.2.2.2.2.2.2.2.2.2.1, ((s22.2.1.2.2.2.2.2.2.2.2.2.2.1, (s22.2.1.2.2.2.2.2.2.2.2.2.2.2.1, ((s22.2.1.2.2.2.2.2.2.2.2.2.2.2.2.1, (s22.2.1.2.2.2.2.2.2.2.2.2.2.2.2.2.1, ())), (s22.2.1.2.2.2.2.2.2.2.2.2.2.2.2.2.2.1, (s22.2.1.2.2.2.2.2.2.2.2.2.2.2.2.2.2.2.1, (s22.2.1.2.2.2.2.2.2.2.2.2.2.2.2.2.2.2.2.1, (s22.2.1.2.2.2.2.2.2.2.2.2.2.2.2.2.2.2.2.2.1, (s22.2.1.2.2.2.2.2.2.2.2.2.2.2.2.2.2.2.2.2.2.1, (s22.2.1.2.2.2.2.2.2.2.2.2.2.2.2.2.2.2.2.2.2.2.1, (s22.2.1.2.2.2.2.2.2.2.2.2.2.2.2.2.2.2.2.2.2.2.2.1, (s22.2.1.2.2.2.2.2.2.2.2.2.2.2.2.2.2.2.2.2.2.2.2.2.1, (s22.2.1.2.2.2.2.2.2.2.2.2.2.2.2.2.2.2.2.2.2.2.2.2.2.1, (s22.2.1.2.2.2.2.2.2.2.2.2.2.2.2.2.2.2.2.2.2.2.2.2.2.2.1, (s22.2.1.2.2.2.2.2.2.2.2.2.2.2.2.2.2.2.2.2.2.2.2.2.2.2.2.1, (s22.2.1.2.2.2.2.2.2.2.2.2.2.2.2.2.2.2.2.2.2.2.2.2.2.2.2.2.1, ()))))))))))))))), ()))) h39 fun r40 h41 =>
    c_park_Answer (((r40.1.1.1, (r40.1.1.2.1, ())), (r40.1.2.1, (r40.1.2.2.1, (r40.1.2.2.2.1, (r40.1.2.2.2.2.1, (r40.1.2.2.2.2.2.1, (r40.1.2.2.2.2.2.2.1, (r40.1.2.2.2.2.2.2.2.1, ())))))))), (r40.2.1, ((r40.2.2.1.1, (r40.2.2.1.2.1, ((r40.2.2.1.2.2.1.1, (r40.2.2.1.2.2.1.2.1, ())), (r40.2.2.1.2.2.2.1, (r40.2.2.1.2.2.2.2.1, (r40.2.2.1.2.2.2.2.2.1, (r40.2.2.1.2.2.2.2.2.2.1, (r40.2.2.1.2.2.2.2.2.2.2.1, (r40.2.2.1.2.2.2.2.2.2.2.2.1, (r40.2.2.1.2.2.2.2.2.2.2.2.2.1, (r40.2.2.1.2.2.2.2.2.2.2.2.2.2.1, (r40.2.2.1.2.2.2.2.2.2.2.2.2.2.2.1, (r40.2.2.1.2.2.2.2.2.2.2.2.2.2.2.2.1, (r40.2.2.1.2.2.2.2.2.2.2.2.2.2.2.2.2.1, (r40.2.2.1.2.2.2.2.2.2.2.2.2.2.2.2.2.2.1, ()))))))))))))))), ()))) h41 fun r42 h43 =>
    (((decide (r38.1 = 18)) = true →
    (((decide (r38.2.1 = (w64 (p1 - 1)))) = true →
    (((decide (r42.1 = 16)) = true →
    c_park_Parked (((r40.1.1.1, (r40.1.1.2.1, ())), (r40.1.2.1, (r40.1.2.2.1, (r40.1.2.2.2.1, (r40.1.2.2.2.2.1, (r40.1.2.2.2.2.2.1, (r40.1.2.2.2.2.2.2.1, (r40.1.2.2.2.2.2.2.2.1, ())))))))), (r40.2.1, ((r40.2.2.1.1, (r40.2.2.1.2.1, ((r40.2.2.1.2.2.1.1, (r40.2.2.1.2.2.1.2.1, ())), (r40.2.2.1.2.2.2.1, (r40.2.2.1.2.2.2.2.1, (r40.2.2.1.2.2.2.2.2.1, (r40.2.2.1.2.2.2.2.2.2.1, (r40.2.2.1.2.2.2.2.2.2.2.1, (r40.2.2.1.2.2.2.2.2.2.2.2.1, (r40.2.2.1.2.2.2.2.2.2.2.2.2.1, (r40.2.2.1.2.2.2.2.2.2.2.2.2.2.1, (r40.2.2.1.2.2.2.2.2.2.2.2.2.2.2.1, (r40.2.2.1.2.2.2.2.2.2.2.2.2.2.2.2.1, (r40.2.2.1.2.2.2.2.2.2.2.2.2.2.2.2.2.1, (r40.2.2.1.2.2.2.2.2.2.2.2.2.2.2.2.2.2.1, ()))))))))))))))), ()))) h43 fun r44 h45 =>
    Q (!r44) h45) ∧
    ((decide (r42.1 = 16)) = false →
    Q false h43))) ∧
    ((decide (r38.2.1 = (w64 (p1 - 1)))) = false →
    Q false h43))) ∧
    ((decide (r38.1 = 18)) = false →
    Q false h43))))))
def law9_alone.l2 (c_park_Parked : Den kparkOp → Heap → (Bool → Heap → Prop) → Prop) (c_park_Step : Value → Den kparkOp → Heap → (Den kparkOp → Heap → Prop) → Prop) (c_park_Wake : Den kparkLot → Int → Heap → (Den kparkOp → Heap → Prop) → Prop) (c_park_Answer : Den kparkOp → Heap → (Den kparkLot → Heap → Prop) → Prop) (p1 : Int) (Q : Bool → Heap → Prop) (r7 : (Option Addr × (Int × Unit))) (r9 : (Den kparkLot × (Int × Unit))) (go24 : (Int × ((Int × (Int × (Int × (Int × (Int × (Int × (Int × (Int × (Int × ((Fin 64 → Den kparkLot) × (Int × (Int × (Int × (Int × (Int × (Int × (Int × (Int × (Int × (Int × (Int × (Int × (Int × (Bool × Den kparkLot)))))))))))))))))))))))) × Unit)) → Heap → Prop) (s22 : (Int × ((Int × (Int × (Int × (Int × (Int × (Int × (Int × (Int × (Int × ((Fin 64 → Den kparkLot) × (Int × (Int × (Int × (Int × (Int × (Int × (Int × (Int × (Int × (Int × (Int × (Int × (Int × (Bool × Den kparkLot)))))))))))))))))))))))) × Unit))) (h23 : Heap) : Prop :=
    (((decide (s22.1 < (w64 ((w64 (2 * p1)) + 1)))) = true →
    c_park_Parked (((s22.2.1.1, (s22.2.1.2.1, ())), (s22.2.1.2.2.1, (s22.2.1.2.2.2.1, (s22.2.1.2.2.2.2.1, (s22.2.1.2.2.2.2.2.1, (s22.2.1.2.2.2.2.2.2.1, (s22.2.1.2.2.2.2.2.2.2.1, (s22.2.1.2.2.2.2.2.2.2.2.1, ())))))))), (s22.2.1.2.2.2.2.2.2.2.2.2.1, ((s22.2.1.2.2.2.2.2.2.2.2.2.2.1, (s22.2.1.2.2.2.2.2.2.2.2.2.2.2.1, ((s22.2.1.2.2.2.2.2.2.2.2.2.2.2.2.1, (s22.2.1.2.2.2.2.2.2.2.2.2.2.2.2.2.1, ())), (s22.2.1.2.2.2.2.2.2.2.2.2.2.2.2.2.2.1, (s22.2.1.2.2.2.2.2.2.2.2.2.2.2.2.2.2.2.1, (s22.2.1.2.2.2.2.2.2.2.2.2.2.2.2.2.2.2.2.1, (s22.2.1.2.2.2.2.2.2.2.2.2.2.2.2.2.2.2.2.2.1, (s22.2.1.2.2.2.2.2.2.2.2.2.2.2.2.2.2.2.2.2.2.1, (s22.2.1.2.2.2.2.2.2.2.2.2.2.2.2.2.2.2.2.2.2.2.1, (s22.2.1.2.2.2.2.2.2.2.2.2.2.2.2.2.2.2.2.2.2.2.2.1, (s22.2.1.2.2.2.2.2.2.2.2.2.2.2.2.2.2.2.2.2.2.2.2.2.1, (s22.2.1.2.2.2.2.2.2.2.2.2.2.2.2.2.2.2.2.2.2.2.2.2.2.1, (s22.2.1.2.2.2.2.2.2.2.2.2.2.2.2.2.2.2.2.2.2.2.2.2.2.2.1, (s22.2.1.2.2.2.2.2.2.2.2.2.2.2.2.2.2.2.2.2.2.2.2.2.2.2.2.1, (s22.2.1.2.2.2.2.2.2.2.2.2.2.2.2.2.2.2.2.2.2.2.2.2.2.2.2.2.1, ()))))))))))))))), ()))) h23 fun r25 h26 =>
    ((r25 = true →
    Q false h26) ∧
    (r25 = false →
    c_park_Step (Value.iface 25 (Kd.val (.ptr : Kd) r7.1)) (((s22.2.1.1, (s22.2.1.2.1, ())), (s22.2.1.2.2.1, (s22.2.1.2.2.2.1, (s22.2.1.2.2.2.2.1, (s22.2.1.2.2.2.2.2.1, (s22.2.1.2.2.2.2.2.2.1, (s22.2.1.2.2.2.2.2.2.2.1, (s22.2.1.2.2.2.2.2.2.2.2.1, ())))))))), (s22.2.1.2.2.2.2.2.2.2.2.2.1, ((s22.2.1.2.2.2.2.2.2.2.2.2.2.1, (s22.2.1.2.2.2.2.2.2.2.2.2.2.2.1, ((s22.2.1.2.2.2.2.2.2.2.2.2.2.2.2.1, (s22.2.1.2.2.2.2.2.2.2.2.2.2.2.2.2.1, ())), (s22.2.1.2.2.2.2.2.2.2.2.2.2.2.2.2.2.1, (s22.2.1.2.2.2.2.2.2.2.2.2.2.2.2.2.2.2.1, (s22.2.1.2.2.2.2.2.2.2.2.2.2.2.2.2.2.2.2.1, (s22.2.1.2.2.2.2.2.2.2.2.2.2.2.2.2.2.2.2.2.1, (s22.2.1.2.2.2.2.2.2.2.2.2.2.2.2.2.2.2.2.2.2.1, (s22.2.1.2.2.2.2.2.2.2.2.2.2.2.2.2.2.2.2.2.2.2.1, (s22.2.1.2.2.2.2.2.2.2.2.2.2.2.2.2.2.2.2.2.2.2.2.1, (s22.2.1.2.2.2.2.2.2.2.2.2.2.2.2.2.2.2.2.2.2.2.2.2.1, (s22.2.1.2.2.2.2.2.2.2.2.2.2.2.2.2.2.2.2.2.2.2.2.2.2.1, (s22.2.1.2.2.2.2.2.2.2.2.2.2.2.2.2.2.2.2.2.2.2.2.2.2.2.1, (s22.2.1.2.2.2.2.2.2.2.2.2.2.2.2.2.2.2.2.2.2.2.2.2.2.2.2.1, (s22.2.1.2.2.2.2.2.2.2.2.2.2.2.2.2.2.2.2.2.2.2.2.2.2.2.2.2.1, ()))))))))))))))), ()))) h26 fun r27 h28 =>
    go24 ((w64 (s22.1 + 1)), (r27.1.1.1, (r27.1.1.2.1, (r27.1.2.1, (r27.1.2.2.1, (r27.1.2.2.2.1, (r27.1.2.2.2.2.1, (r27.1.2.2.2.2.2.1, (r27.1.2.2.2.2.2.2.1, (r27.1.2.2.2.2.2.2.2.1, (r27.2.1, (r27.2.2.1.1, (r27.2.2.1.2.1, (r27.2.2.1.2.2.1.1, (r27.2.2.1.2.2.1.2.1, (r27.2.2.1.2.2.2.1, (r27.2.2.1.2.2.2.2.1, (r27.2.2.1.2.2.2.2.2.1, (r27.2.2.1.2.2.2.2.2.2.1, (r27.2.2.1.2.2.2.2.2.2.2.1, (r27.2.2.1.2.2.2.2.2.2.2.2.1, (r27.2.2.1.2.2.2.2.2.2.2.2.2.1, (r27.2.2.1.2.2.2.2.2.2.2.2.2.2.1, (r27.2.2.1.2.2.2.2.2.2.2.2.2.2.2.1, (r27.2.2.1.2.2.2.2.2.2.2.2.2.2.2.2.1, (r27.2.2.1.2.2.2.2.2.2.2.2.2.2.2.2.2.1, (r27.2.2.1.2.2.2.2.2.2.2.2.2.2.2.2.2.2.1, ())))))))))))))))))))))))))), ()) h28))) ∧
    ((decide (s22.1 < (w64 ((w64 (2 * p1)) + 1)))) = false →
    c_park_Parked (((s22.2.1.1, (s22.2.1.2.1, ())), (s22.2.1.2.2.1, (s22.2.1.2.2.2.1, (s22.2.1.2.2.2.2.1, (s22.2.1.2.2.2.2.2.1, (s22.2.1.2.2.2.2.2.2.1, (s22.2.1.2.2.2.2.2.2.2.1, (s22.2.1.2.2.2.2.2.2.2.2.1, ())))))))), (s22.2.1.2.2.2.2.2.2.2.2.2.1, ((s22.2.1.2.2.2.2.2.2.2.2.2.2.1, (s22.2.1.2.2.2.2.2.2.2.2.2.2.2.1, ((s22.2.1.2.2.2.2.2.2.2.2.2.2.2.2.1, (s22.2.1.2.2.2.2.2.2.2.2.2.2.2.2.2.1, ())), (s22.2.1.2.2.2.2.2.2.2.2.2.2.2.2.2.2.1, (s22.2.1.2.2.2.2.2.2.2.2.2.2.2.2.2.2.2.1, (s22.2.1.2.2.2.2.2.2.2.2.2.2.2.2.2.2.2.2.1, (s22.2.1.2.2.2.2.2.2.2.2.2.2.2.2.2.2.2.2.2.1, (s22.2.1.2.2.2.2.2.2.2.2.2.2.2.2.2.2.2.2.2.2.1, (s22.2.1.2.2.2.2.2.2.2.2.2.2.2.2.2.2.2.2.2.2.2.1, (s22.2.1.2.2.2.2.2.2.2.2.2.2.2.2.2.2.2.2.2.2.2.2.1, (s22.2.1.2.2.2.2.2.2.2.2.2.2.2.2.2.2.2.2.2.2.2.2.2.1, (s22.2.1.2.2.2.2.2.2.2.2.2.2.2.2.2.2.2.2.2.2.2.2.2.2.1, (s22.2.1.2.2.2.2.2.2.2.2.2.2.2.2.2.2.2.2.2.2.2.2.2.2.2.1, (s22.2.1.2.2.2.2.2.2.2.2.2.2.2.2.2.2.2.2.2.2.2.2.2.2.2.2.1, (s22.2.1.2.2.2.2.2.2.2.2.2.2.2.2.2.2.2.2.2.2.2.2.2.2.2.2.2.1, ()))))))))))))))), ()))) h23 fun r29 h30 =>
    (((!r29) = true →
    Q false h30) ∧
    ((!r29) = false →
    c_park_Wake (r9.1.1, (r9.1.2.1, ())) 0 h30 fun r31 h32 =>
    Loop (law9_alone.l1 c_park_Parked c_park_Step c_park_Answer p1 Q r7 s22) (0, (r31.1.1.1, (r31.1.1.2.1, (r31.1.2.1, (r31.1.2.2.1, (r31.1.2.2.2.1, (r31.1.2.2.2.2.1, (r31.1.2.2.2.2.2.1, (r31.1.2.2.2.2.2.2.1, (r31.1.2.2.2.2.2.2.2.1, (r31.2.1, (r31.2.2.1.1, (r31.2.2.1.2.1, (r31.2.2.1.2.2.1.1, (r31.2.2.1.2.2.1.2.1, (r31.2.2.1.2.2.2.1, (r31.2.2.1.2.2.2.2.1, (r31.2.2.1.2.2.2.2.2.1, (r31.2.2.1.2.2.2.2.2.2.1, (r31.2.2.1.2.2.2.2.2.2.2.1, (r31.2.2.1.2.2.2.2.2.2.2.2.1, (r31.2.2.1.2.2.2.2.2.2.2.2.2.1, (r31.2.2.1.2.2.2.2.2.2.2.2.2.2.1, (r31.2.2.1.2.2.2.2.2.2.2.2.2.2.2.1, (r31.2.2.1.2.2.2.2.2.2.2.2.2.2.2.2.1, (r31.2.2.1.2.2.2.2.2.2.2.2.2.2.2.2.2.1, (r31.2.2.1.2.2.2.2.2.2.2.2.2.2.2.2.2.2.1, ())))))))))))))))))))))))))), ()) h32))))
def law9_alone.l3 (c_deque_New : Value → Int → Int → Heap → ((Den kparkLot × (Int × Unit)) → Heap → Prop) → Prop) (c_park_Rest : Den kparkLot → Int → Sl → Heap → (Den kparkOp → Heap → Prop) → Prop) (c_park_Parked : Den kparkOp → Heap → (Bool → Heap → Prop) → Prop) (c_park_Step : Value → Den kparkOp → Heap → (Den kparkOp → Heap → Prop) → Prop) (c_park_Wake : Den kparkLot → Int → Heap → (Den kparkOp → Heap → Prop) → Prop) (c_park_Answer : Den kparkOp → Heap → (Den kparkLot → Heap → Prop) → Prop) (p1 : Int) (Q : Bool → Heap → Prop) (r7 : (Option Addr × (Int × Unit))) (r9 : (Den kparkLot × (Int × Unit))) (go13 : (Sl × (Int × Unit)) → Heap → Prop) (s11 : (Sl × (Int × Unit))) (h12 : Heap) : Prop :=
    (((decide (s11.2.1 < p1)) = true →
    c_deque_New (Value.iface 25 (Kd.val (.ptr : Kd) r7.1)) 1 1 h12 fun r14 h15 =>
    (((decide (r14.2.1 ≠ 0)) = true →
    Q false h15) ∧
    ((decide (r14.2.1 ≠ 0)) = false →
    new h15 (([(r14.1.1, (r14.1.2.1, ()))] : List (Den kparkLot)).flatMap (Kd.cells kparkLot)) fun p16 h17 =>
    appendM 2 16 h17 s11.1 ⟨some p16, 1, 1⟩ fun t18 h19 =>
    go13 (t18, (w64 (s11.2.1 + 1)), ()) h19))) ∧
    ((decide (s11.2.1 < p1)) = false →
    c_park_Rest (r9.1.1, (r9.1.2.1, ())) (w64 (p1 - 1)) s11.1 h12 fun r20 h21 =>
    Loop (law9_alone.l2 c_park_Parked c_park_Step c_park_Wake c_park_Answer p1 Q r7 r9) (0, (r20.1.1.1, (r20.1.1.2.1, (r20.1.2.1, (r20.1.2.2.1, (r20.1.2.2.2.1, (r20.1.2.2.2.2.1, (r20.1.2.2.2.2.2.1, (r20.1.2.2.2.2.2.2.1, (r20.1.2.2.2.2.2.2.2.1, (r20.2.1, (r20.2.2.1.1, (r20.2.2.1.2.1, (r20.2.2.1.2.2.1.1, (r20.2.2.1.2.2.1.2.1, (r20.2.2.1.2.2.2.1, (r20.2.2.1.2.2.2.2.1, (r20.2.2.1.2.2.2.2.2.1, (r20.2.2.1.2.2.2.2.2.2.1, (r20.2.2.1.2.2.2.2.2.2.2.1, (r20.2.2.1.2.2.2.2.2.2.2.2.1, (r20.2.2.1.2.2.2.2.2.2.2.2.2.1, (r20.2.2.1.2.2.2.2.2.2.2.2.2.2.1, (r20.2.2.1.2.2.2.2.2.2.2.2.2.2.2.1, (r20.2.2.1.2.2.2.2.2.2.2.2.2.2.2.2.1, (r20.2.2.1.2.2.2.2.2.2.2.2.2.2.2.2.2.1, (r20.2.2.1.2.2.2.2.2.2.2.2.2.2.2.2.2.2.1, ())))))))))))))))))))))))))), ()) h21))
def law9_alone.M (c_park_Cells : Int → Heap → (Int → Heap → Prop) → Prop) (c_deque_Cells : Int → Int → Heap → (Int → Heap → Prop) → Prop) (c_cells_New : Int → Heap → ((Option Addr × (Int × Unit)) → Heap → Prop) → Prop) (c_park_New : Value → Int → Heap → ((Den kparkLot × (Int × Unit)) → Heap → Prop) → Prop) (c_deque_New : Value → Int → Int → Heap → ((Den kparkLot × (Int × Unit)) → Heap → Prop) → Prop) (c_park_Rest : Den kparkLot → Int → Sl → Heap → (Den kparkOp → Heap → Prop) → Prop) (c_park_Parked : Den kparkOp → Heap → (Bool → Heap → Prop) → Prop) (c_park_Step : Value → Den kparkOp → Heap → (Den kparkOp → Heap → Prop) → Prop) (c_park_Wake : Den kparkLot → Int → Heap → (Den kparkOp → Heap → Prop) → Prop) (c_park_Answer : Den kparkOp → Heap → (Den kparkLot → Heap → Prop) → Prop) (p1 : Int) (h2 : Heap) (Q : Bool → Heap → Prop) : Prop :=
    c_park_Cells p1 h2 fun r3 h4 =>
    c_deque_Cells 1 1 h4 fun r5 h6 =>
    c_cells_New (w64 (r3 + (w64 (p1 * r5)))) h6 fun r7 h8 =>
    (((decide (r7.2.1 ≠ 0)) = true →
    Q false h8) ∧
    ((decide (r7.2.1 ≠ 0)) = false →
    c_park_New (Value.iface 25 (Kd.val (.ptr : Kd) r7.1)) p1 h8 fun r9 h10 =>
    (((decide (r9.2.1 ≠ 0)) = true →
    Q false h10) ∧
    ((decide (r9.2.1 ≠ 0)) = false →
    Loop (law9_alone.l3 c_deque_New c_park_Rest c_park_Parked c_park_Step c_park_Wake c_park_Answer p1 Q r7 r9) (⟨none, 0, 0⟩, 0, ()) h10))))
def law9_alone.mk : Mk := (.s .d (.s .d (.s (.s .d (.c (.s .d .d) .d)) (.s (.r [7]) (.s (.s .d (.c (.s .d .d) .d)) (.s .d (.s (.s .d (.b (.l [.slot 7 .sl, .slot 8 (.int .i64)] (.s (.s .d (.c .d .d)) (.s (.b (.s (.r [6]) (.s (.s .d (.c (.s .d .d) .d)) .d))) .d))))) (.s (.r [5]) (.s (.s .d (.b (.l [.slot 12 (.int .i64), .box 11 (.pair (.int .i64) (.pair (.int .i64) (.pair (.int .i64) (.pair (.int .i64) (.pair (.int .i64) (.pair (.int .i64) (.pair (.int .i64) (.pair (.int .i64) (.pair (.int .i64) (.pair (.arr 64 kparkLot) (.pair (.int .i64) (.pair (.int .i64) (.pair (.int .i64) (.pair (.int .i64) (.pair (.int .i64) (.pair (.int .i64) (.pair (.int .i64) (.pair (.int .i64) (.pair (.int .i64) (.pair (.int .i64) (.pair (.int .i64) (.pair (.int .i64) (.pair (.int .i64) (.pair .bool kparkLot))))))))))))))))))))))))] (.s (.s .d (.c .d .d)) (.s (.b (.s (.s .d (.c (.s .d .d) .d)) .d)) .d))))) (.s (.s .d (.c (.s .d .d) .d)) (.s (.r [2]) (.s (.s .d (.b (.l [.slot 14 (.int .i64), .box 13 (.pair (.int .i64) (.pair (.int .i64) (.pair (.int .i64) (.pair (.int .i64) (.pair (.int .i64) (.pair (.int .i64) (.pair (.int .i64) (.pair (.int .i64) (.pair (.int .i64) (.pair (.arr 64 kparkLot) (.pair (.int .i64) (.pair (.int .i64) (.pair (.int .i64) (.pair (.int .i64) (.pair (.int .i64) (.pair (.int .i64) (.pair (.int .i64) (.pair (.int .i64) (.pair (.int .i64) (.pair (.int .i64) (.pair (.int .i64) (.pair (.int .i64) (.pair (.int .i64) (.pair .bool kparkLot))))))))))))))))))))))))] (.s (.s .d (.c .d .d)) (.s (.b .d) .d))))) (.s .d (.s (.s .d (.c (.s .d .d) .d)) (.s .d (.s .d (.s .d .d)))))))))))))))))

def law9_mod.j1 (Q : Int → Heap → Prop) (s4 : (Int × Unit)) (h5 : Heap) : Prop :=
    Q s4.1 h5
def law9_mod.M  (x1 : Int) (n2 : Int) (h3 : Heap) (Q : Int → Heap → Prop) : Prop :=
    n2 ≠ 0 ∧
    (((decide ((Int.tmod x1 n2) < 0)) = true →
    law9_mod.j1 Q ((w64 ((Int.tmod x1 n2) + n2)), ()) h3) ∧
    ((decide ((Int.tmod x1 n2) < 0)) = false →
    law9_mod.j1 Q ((Int.tmod x1 n2), ()) h3))
def law9_mod.mk : Mk := (.s .d (.s .d (.j [.slot 5 (.int .i64)] (.s .d (.c .d .d)) (.s .d .d))))

def law9_born.l1 (c_ref9_Rest : Den kparkLot → Int → Sl → Heap → (Den kref9Op → Heap → Prop) → Prop) (v1 : Den klaw9Move) (base2 : Int) (workers3 : Int) (Q : (Den kparkOp × (Den kref9Op × Unit)) → Heap → Prop) (s6 : (Sl × (Sl × (Int × Unit)))) (t27 : Sl) (r29 : Den kparkOp) (go35 : (Int × Unit) → Heap → Prop) (s33 : (Int × Unit)) (h34 : Heap) : Prop :=
    (((decide (s33.1 < (t27.len : Int))) = true →
    (0 ≤ s33.1 ∧ s33.1 < (t27.len : Int)) ∧
    deref t27.a fun a36 =>
    st kparkLot h34 (a36.add ((s33.1 : Int).toNat * 2)) ((-1), ((-1), ())) fun h37 =>
    go35 ((w64 (s33.1 + 1)), ()) h37) ∧
    ((decide (s33.1 < (t27.len : Int))) = false →
    c_ref9_Rest (base2, (workers3, ())) v1.2.2.1 s6.2.1 h34 fun r38 h39 =>
    Q ((((r29.1.1.1, (r29.1.1.2.1, ())), (r29.1.2.1, (r29.1.2.2.1, (r29.1.2.2.2.1, (r29.1.2.2.2.2.1, (r29.1.2.2.2.2.2.1, (r29.1.2.2.2.2.2.2.1, (r29.1.2.2.2.2.2.2.2.1, ())))))))), (r29.2.1, ((r29.2.2.1.1, (r29.2.2.1.2.1, ((r29.2.2.1.2.2.1.1, (r29.2.2.1.2.2.1.2.1, ())), (r29.2.2.1.2.2.2.1, (r29.2.2.1.2.2.2.2.1, (r29.2.2.1.2.2.2.2.2.1, (r29.2.2.1.2.2.2.2.2.2.1, (r29.2.2.1.2.2.2.2.2.2.2.1, (r29.2.2.1.2.2.2.2.2.2.2.2.1, (r29.2.2.1.2.2.2.2.2.2.2.2.2.1, (r29.2.2.1.2.2.2.2.2.2.2.2.2.2.1, (r29.2.2.1.2.2.2.2.2.2.2.2.2.2.2.1, (r29.2.2.1.2.2.2.2.2.2.2.2.2.2.2.2.1, (r29.2.2.1.2.2.2.2.2.2.2.2.2.2.2.2.2.1, (r29.2.2.1.2.2.2.2.2.2.2.2.2.2.2.2.2.2.1, ()))))))))))))))), ()))), (r38.1, (r38.2.1, (r38.2.2.1, (r38.2.2.2.1, ((r38.2.2.2.2.1.1, (r38.2.2.2.2.1.2.1, ())), (r38.2.2.2.2.2.1, (r38.2.2.2.2.2.2.1, (r38.2.2.2.2.2.2.2.1, (r38.2.2.2.2.2.2.2.2.1, ()))))))))), ()) h39))
def law9_born.j2 (c_ref9_Rest : Den kparkLot → Int → Sl → Heap → (Den kref9Op → Heap → Prop) → Prop) (v1 : Den klaw9Move) (base2 : Int) (workers3 : Int) (Q : (Den kparkOp × (Den kref9Op × Unit)) → Heap → Prop) (s6 : (Sl × (Sl × (Int × Unit)))) (t27 : Sl) (r29 : Den kparkOp) (s31 : ((Int × (Int × (Int × (Int × (Int × (Int × (Int × (Int × (Int × ((Fin 64 → Den kparkLot) × (Int × (Int × (Int × (Int × (Int × (Int × (Int × (Int × (Int × (Int × (Int × (Int × (Int × (Bool × Den kparkLot)))))))))))))))))))))))) × ((Int × (Int × (Int × (Int × (Int × (Int × (Sl × Den klaw9Move))))))) × Unit))) (h32 : Heap) : Prop :=
    Loop (law9_born.l1 c_ref9_Rest v1 base2 workers3 Q s6 t27 r29) (0, ()) h32
def law9_born.j3 (c_ref9_Rest : Den kparkLot → Int → Sl → Heap → (Den kref9Op → Heap → Prop) → Prop) (v1 : Den klaw9Move) (base2 : Int) (workers3 : Int) (Q : (Den kparkOp × (Den kref9Op × Unit)) → Heap → Prop) (s6 : (Sl × (Sl × (Int × Unit)))) (t27 : Sl) (r29 : Den kparkOp) (s40 : (Bool × Unit)) (h41 : Heap) : Prop :=
    ((s40.1 = true →
    c_ref9_Rest (base2, (workers3, ())) v1.2.2.1 s6.2.1 h41 fun r42 h43 =>
    Q ((((0, (0, ())), (0, (0, (0, (0, (0, (0, (0, ())))))))), ((fun _ => (0, (0, ()))), ((0, (0, ((0, (0, ())), (0, (0, (0, (0, (0, (0, (0, (0, (0, (false, (0, (0, ()))))))))))))))), ()))), (r42.1, (r42.2.1, (r42.2.2.1, (r42.2.2.2.1, ((r42.2.2.2.2.1.1, (r42.2.2.2.2.1.2.1, ())), (r42.2.2.2.2.2.1, (r42.2.2.2.2.2.2.1, (r42.2.2.2.2.2.2.2.1, (r42.2.2.2.2.2.2.2.2.1, ()))))))))), ()) h43) ∧
    (s40.1 = false →
    law9_born.j2 c_ref9_Rest v1 base2 workers3 Q s6 t27 r29 ((0, (0, (0, (0, (0, (0, (0, (0, (0, ((fun _ => (0, (0, ()))), (0, (0, (0, (0, (0, (0, (0, (0, (0, (0, (0, (0, (0, (false, (0, (0, ())))))))))))))))))))))))))), (0, (0, (0, (0, (0, (0, (Sl.none, (0, (0, (0, ())))))))))), ()) h41))
def law9_born.l4 (c_park_Rest : Den kparkLot → Int → Sl → Heap → (Den kparkOp → Heap → Prop) → Prop) (c_ref9_Rest : Den kparkLot → Int → Sl → Heap → (Den kref9Op → Heap → Prop) → Prop) (v1 : Den klaw9Move) (base2 : Int) (workers3 : Int) (ds4 : Sl) (Q : (Den kparkOp × (Den kref9Op × Unit)) → Heap → Prop) (go8 : (Sl × (Sl × (Int × Unit))) → Heap → Prop) (s6 : (Sl × (Sl × (Int × Unit)))) (h7 : Heap) : Prop :=
    (((decide (s6.2.2.1 < (ds4.len : Int))) = true →
    (0 ≤ s6.2.2.1 ∧ s6.2.2.1 < (ds4.len : Int)) ∧
    deref ds4.a fun a9 =>
    (0 ≤ s6.2.2.1 ∧ s6.2.2.1 < (ds4.len : Int)) ∧
    deref ds4.a fun a10 =>
    ld ((.int .i64) : Kd) h7 ((a9.add ((s6.2.2.1 : Int).toNat * 2)).add 0) fun t11 =>
    ld ((.int .i64) : Kd) h7 ((a10.add ((s6.2.2.1 : Int).toNat * 2)).add 1) fun t12 =>
    new h7 (([(t11, (t12, ()))] : List (Den kparkLot)).flatMap (Kd.cells kparkLot)) fun p13 h14 =>
    appendM 2 16 h14 s6.1 ⟨some p13, 1, 1⟩ fun t15 h16 =>
    (0 ≤ s6.2.2.1 ∧ s6.2.2.1 < (ds4.len : Int)) ∧
    deref ds4.a fun a17 =>
    (0 ≤ s6.2.2.1 ∧ s6.2.2.1 < (ds4.len : Int)) ∧
    deref ds4.a fun a18 =>
    ld ((.int .i64) : Kd) h16 ((a17.add ((s6.2.2.1 : Int).toNat * 2)).add 0) fun t19 =>
    ld ((.int .i64) : Kd) h16 ((a18.add ((s6.2.2.1 : Int).toNat * 2)).add 1) fun t20 =>
    new h16 (([(t19, (t20, ()))] : List (Den kparkLot)).flatMap (Kd.cells kparkLot)) fun p21 h22 =>
    appendM 2 16 h22 s6.2.1 ⟨some p21, 1, 1⟩ fun t23 h24 =>
    go8 (t15, t23, (w64 (s6.2.2.1 + 1)), ()) h24) ∧
    ((decide (s6.2.2.1 < (ds4.len : Int))) = false →
    new h7 (([(77, (78, ()))] : List (Den kparkLot)).flatMap (Kd.cells kparkLot)) fun p25 h26 =>
    appendM 2 16 h26 s6.1 ⟨some p25, 1, 1⟩ fun t27 h28 =>
    (0 ≤ (s6.1.len : Int) ∧ (s6.1.len : Int) ≤ (t27.cap : Int)) ∧
    c_park_Rest (base2, (workers3, ())) v1.2.2.1 (t27.cut 0 (((s6.1.len : Int) : Int).toNat) 2) h28 fun r29 h30 =>
    (0 ≤ (s6.1.len : Int) ∧ (s6.1.len : Int) < (t27.len : Int)) ∧
    deref t27.a fun a44 =>
    ld ((.int .i64) : Kd) h30 ((a44.add (((s6.1.len : Int) : Int).toNat * 2)).add 0) fun t45 =>
    (((decide (t45 ≠ 77)) = true →
    law9_born.j3 c_ref9_Rest v1 base2 workers3 Q s6 t27 r29 (true, ()) h30) ∧
    ((decide (t45 ≠ 77)) = false →
    (0 ≤ (s6.1.len : Int) ∧ (s6.1.len : Int) < (t27.len : Int)) ∧
    deref t27.a fun a46 =>
    ld ((.int .i64) : Kd) h30 ((a46.add (((s6.1.len : Int) : Int).toNat * 2)).add 1) fun t47 =>
    law9_born.j3 c_ref9_Rest v1 base2 workers3 Q s6 t27 r29 ((decide (t47 ≠ 78)), ()) h30))))
def law9_born.M (c_park_Rest : Den kparkLot → Int → Sl → Heap → (Den kparkOp → Heap → Prop) → Prop) (c_ref9_Rest : Den kparkLot → Int → Sl → Heap → (Den kref9Op → Heap → Prop) → Prop) (c_park_Wake : Den kparkLot → Int → Heap → (Den kparkOp → Heap → Prop) → Prop) (c_ref9_Wake : Den kparkLot → Int → Heap → (Den kref9Op → Heap → Prop) → Prop) (c_park_Peek : Den kparkLot → Heap → (Den kparkOp → Heap → Prop) → Prop) (c_ref9_Peek : Den kparkLot → Heap → (Den kref9Op → Heap → Prop) → Prop) (c_park_Finish : Den kparkLot → Int → Heap → (Den kparkOp → Heap → Prop) → Prop) (c_ref9_Finish : Den kparkLot → Int → Heap → (Den kref9Op → Heap → Prop) → Prop) (c_ref9_Dead : Heap → (Den kref9Op → Heap → Prop) → Prop) (v1 : Den klaw9Move) (base2 : Int) (workers3 : Int) (ds4 : Sl) (h5 : Heap) (Q : (Den kparkOp × (Den kref9Op × Unit)) → Heap → Prop) : Prop :=
    (((decide (v1.1 = 0)) = true →
    Loop (law9_born.l4 c_park_Rest c_ref9_Rest v1 base2 workers3 ds4 Q) (⟨none, 0, 0⟩, ⟨none, 0, 0⟩, 0, ()) h5) ∧
    ((decide (v1.1 = 0)) = false →
    (((decide (v1.1 = 1)) = true →
    c_park_Wake (base2, (workers3, ())) v1.2.2.1 h5 fun r48 h49 =>
    c_ref9_Wake (base2, (workers3, ())) v1.2.2.1 h49 fun r50 h51 =>
    Q ((((r48.1.1.1, (r48.1.1.2.1, ())), (r48.1.2.1, (r48.1.2.2.1, (r48.1.2.2.2.1, (r48.1.2.2.2.2.1, (r48.1.2.2.2.2.2.1, (r48.1.2.2.2.2.2.2.1, (r48.1.2.2.2.2.2.2.2.1, ())))))))), (r48.2.1, ((r48.2.2.1.1, (r48.2.2.1.2.1, ((r48.2.2.1.2.2.1.1, (r48.2.2.1.2.2.1.2.1, ())), (r48.2.2.1.2.2.2.1, (r48.2.2.1.2.2.2.2.1, (r48.2.2.1.2.2.2.2.2.1, (r48.2.2.1.2.2.2.2.2.2.1, (r48.2.2.1.2.2.2.2.2.2.2.1, (r48.2.2.1.2.2.2.2.2.2.2.2.1, (r48.2.2.1.2.2.2.2.2.2.2.2.2.1, (r48.2.2.1.2.2.2.2.2.2.2.2.2.2.1, (r48.2.2.1.2.2.2.2.2.2.2.2.2.2.2.1, (r48.2.2.1.2.2.2.2.2.2.2.2.2.2.2.2.1, (r48.2.2.1.2.2.2.2.2.2.2.2.2.2.2.2.2.1, (r48.2.2.1.2.2.2.2.2.2.2.2.2.2.2.2.2.2.1, ()))))))))))))))), ()))), (r50.1, (r50.2.1, (r50.2.2.1, (r50.2.2.2.1, ((r50.2.2.2.2.1.1, (r50.2.2.2.2.1.2.1, ())), (r50.2.2.2.2.2.1, (r50.2.2.2.2.2.2.1, (r50.2.2.2.2.2.2.2.1, (r50.2.2.2.2.2.2.2.2.1, ()))))))))), ()) h51) ∧
    ((decide (v1.1 = 1)) = false →
    (((decide (v1.1 = 2)) = true →
    c_park_Peek (base2, (workers3, ())) h5 fun r52 h53 =>
    c_ref9_Peek (base2, (workers3, ())) h53 fun r54 h55 =>
    Q ((((r52.1.1.1, (r52.1.1.2.1, ())), (r52.1.2.1, (r52.1.2.2.1, (r52.1.2.2.2.1, (r52.1.2.2.2.2.1, (r52.1.2.2.2.2.2.1, (r52.1.2.2.2.2.2.2.1, (r52.1.2.2.2.2.2.2.2.1, ())))))))), (r52.2.1, ((r52.2.2.1.1, (r52.2.2.1.2.1, ((r52.2.2.1.2.2.1.1, (r52.2.2.1.2.2.1.2.1, ())), (r52.2.2.1.2.2.2.1, (r52.2.2.1.2.2.2.2.1, (r52.2.2.1.2.2.2.2.2.1, (r52.2.2.1.2.2.2.2.2.2.1, (r52.2.2.1.2.2.2.2.2.2.2.1, (r52.2.2.1.2.2.2.2.2.2.2.2.1, (r52.2.2.1.2.2.2.2.2.2.2.2.2.1, (r52.2.2.1.2.2.2.2.2.2.2.2.2.2.1, (r52.2.2.1.2.2.2.2.2.2.2.2.2.2.2.1, (r52.2.2.1.2.2.2.2.2.2.2.2.2.2.2.2.1, (r52.2.2.1.2.2.2.2.2.2.2.2.2.2.2.2.2.1, (r52.2.2.1.2.2.2.2.2.2.2.2.2.2.2.2.2.2.1, ()))))))))))))))), ()))), (r54.1, (r54.2.1, (r54.2.2.1, (r54.2.2.2.1, ((r54.2.2.2.2.1.1, (r54.2.2.2.2.1.2.1, ())), (r54.2.2.2.2.2.1, (r54.2.2.2.2.2.2.1, (r54.2.2.2.2.2.2.2.1, (r54.2.2.2.2.2.2.2.2.1, ()))))))))), ()) h55) ∧
    ((decide (v1.1 = 2)) = false →
    (((decide (v1.1 = 3)) = true →
    c_park_Finish (base2, (workers3, ())) v1.2.2.1 h5 fun r56 h57 =>
    c_ref9_Finish (base2, (workers3, ())) v1.2.2.1 h57 fun r58 h59 =>
    Q ((((r56.1.1.1, (r56.1.1.2.1, ())), (r56.1.2.1, (r56.1.2.2.1, (r56.1.2.2.2.1, (r56.1.2.2.2.2.1, (r56.1.2.2.2.2.2.1, (r56.1.2.2.2.2.2.2.1, (r56.1.2.2.2.2.2.2.2.1, ())))))))), (r56.2.1, ((r56.2.2.1.1, (r56.2.2.1.2.1, ((r56.2.2.1.2.2.1.1, (r56.2.2.1.2.2.1.2.1, ())), (r56.2.2.1.2.2.2.1, (r56.2.2.1.2.2.2.2.1, (r56.2.2.1.2.2.2.2.2.1, (r56.2.2.1.2.2.2.2.2.2.1, (r56.2.2.1.2.2.2.2.2.2.2.1, (r56.2.2.1.2.2.2.2.2.2.2.2.1, (r56.2.2.1.2.2.2.2.2.2.2.2.2.1, (r56.2.2.1.2.2.2.2.2.2.2.2.2.2.1, (r56.2.2.1.2.2.2.2.2.2.2.2.2.2.2.1, (r56.2.2.1.2.2.2.2.2.2.2.2.2.2.2.2.1, (r56.2.2.1.2.2.2.2.2.2.2.2.2.2.2.2.2.1, (r56.2.2.1.2.2.2.2.2.2.2.2.2.2.2.2.2.2.1, ()))))))))))))))), ()))), (r58.1, (r58.2.1, (r58.2.2.1, (r58.2.2.2.1, ((r58.2.2.2.2.1.1, (r58.2.2.2.2.1.2.1, ())), (r58.2.2.2.2.2.1, (r58.2.2.2.2.2.2.1, (r58.2.2.2.2.2.2.2.1, (r58.2.2.2.2.2.2.2.2.1, ()))))))))), ()) h59) ∧
    ((decide (v1.1 = 3)) = false →
    c_ref9_Dead  h5 fun r60 h61 =>
    Q ((((0, (0, ())), (0, (0, (0, (0, (0, (0, (0, ())))))))), ((fun _ => (0, (0, ()))), ((0, (0, ((0, (0, ())), (0, (0, (0, (0, (0, (0, (0, (0, (0, (false, (0, (0, ()))))))))))))))), ()))), (r60.1, (r60.2.1, (r60.2.2.1, (r60.2.2.2.1, ((r60.2.2.2.2.1.1, (r60.2.2.2.2.1.2.1, ())), (r60.2.2.2.2.2.1, (r60.2.2.2.2.2.2.1, (r60.2.2.2.2.2.2.2.1, (r60.2.2.2.2.2.2.2.2.1, ()))))))))), ()) h61))))))))
def law9_born.mk : Mk := (.s (.r [0, 1, 2]) (.s (.r [3]) (.s (.r [3]) (.s (.s .d (.b (.s .d (.c (.s .d (.s .d (.s (.s .d (.b (.l [.slot 12 .sl, .slot 13 .sl, .slot 14 (.int .i64)] (.s (.s .d (.c .d .d)) (.s (.b (.s (.q [] [] [.p 0, .p 1, .p 2, .p 3, .p 4, .p 6, .p 7, .p 8, .p 9, .w 5 [5, 11, 12, 13, 14], .w 10 [10, 11, 12, 13, 14], .p 11, .o 12, .o 13, .p 14]) (.q [] [] [.p 0, .p 1, .p 2, .p 3, .p 4, .p 6, .p 7, .p 8, .p 9, .w 5 [5, 11, 12, 13, 14], .w 10 [10, 11, 12, 13, 14], .p 11, .o 12, .o 13, .p 14]))) .d))))) (.s .d (.s .d (.s (.q [7] [16] [.p 1, .p 3, .p 4, .p 5, .w 0 [0, 6, 8], .w 2 [2, 6, 8], .o 6, .a 7, .o 8]) (.j [.box 8 (.pair (.int .i64) (.pair (.int .i64) (.pair (.int .i64) (.pair (.int .i64) (.pair (.int .i64) (.pair (.int .i64) (.pair (.int .i64) (.pair (.int .i64) (.pair (.int .i64) (.pair (.arr 64 kparkLot) (.pair (.int .i64) (.pair (.int .i64) (.pair (.int .i64) (.pair (.int .i64) (.pair (.int .i64) (.pair (.int .i64) (.pair (.int .i64) (.pair (.int .i64) (.pair (.int .i64) (.pair (.int .i64) (.pair (.int .i64) (.pair (.int .i64) (.pair (.int .i64) (.pair .bool kparkLot)))))))))))))))))))))))), .box 9 (.pair (.int .i64) (.pair (.int .i64) (.pair (.int .i64) (.pair (.int .i64) (.pair (.int .i64) (.pair (.int .i64) (.pair .sl klaw9Move)))))))] (.j [.slot 88 .bool] .d (.c (.s .d .d) .d)) (.s (.s .d (.b (.l [.slot 17 (.int .i64)] (.s (.s .d (.c .d .d)) (.s (.b .d) .d))))) (.s (.q [] [8, 9] [.p 2, .p 4, .w 0 [0, 6, 7], .w 1 [1, 5, 6, 7], .w 3 [3, 5, 6, 7], .o 5, .o 6, .o 7]) .d))))))))) (.s .d (.c (.s (.q [] [8, 9] [.p 1, .p 5, .w 0 [0, 3, 7, 8, 9], .w 2 [2, 3, 7, 8, 9], .w 4 [4, 7, 8, 9], .w 6 [6, 7, 8, 9], .o 3, .o 7, .o 8, .o 9]) .d) (.s .d (.c (.s (.q [] [8, 9] [.w 0 [0, 1, 3, 4, 5], .w 2 [2, 3, 4, 5], .o 1, .o 3, .o 4, .o 5]) .d) (.s .d (.c (.s (.q [] [8, 9] [.p 1, .p 5, .w 0 [0, 3, 7, 8, 9], .w 2 [2, 3, 7, 8, 9], .w 4 [4, 7, 8, 9], .w 6 [6, 7, 8, 9], .o 3, .o 7, .o 8, .o 9]) .d) .d)))))))))) (.s .d .d)))))

def cells_Arena_Log.M  (a1 : Option Addr) (h2 : Heap) (Q : Sl → Heap → Prop) : Prop :=
    (((Option.isNone a1) = true →
    Q ⟨none, 0, 0⟩ h2) ∧
    ((Option.isNone a1) = false →
    deref a1 fun a3 =>
    ld (.sl : Kd) h2 (a3.add 3) fun t4 =>
    makeM kapiAccess 48 h2 (t4.len : Int) (t4.len : Int) fun s5 h6 =>
    deref a1 fun a7 =>
    ld (.sl : Kd) h6 (a7.add 3) fun t8 =>
    copyM 6 h6 s5 t8 fun n9 h10 =>
    Q s5 h10))
def cells_Arena_Log.mk : Mk := (.s .d (.s (.s .d (.c (.s .d .d) .d)) (.s .d (.s .d (.s .d .d)))))

def park_Answer.M  (o1 : Den kparkOp) (h2 : Heap) (Q : Den kparkLot → Heap → Prop) : Prop :=
    (((decide (o1.1.2.2.1 = 0)) = true →
    Q (1, 0, ()) h2) ∧
    ((decide (o1.1.2.2.1 = 0)) = false →
    (((decide (o1.1.2.2.2.1 ≠ 0)) = true →
    Q (0, 0, ()) h2) ∧
    ((decide (o1.1.2.2.2.1 ≠ 0)) = false →
    Q (o1.1.2.2.2.2.2.2.1, o1.1.2.2.2.2.2.2.2.1, ()) h2))))
def park_Answer.mk : Mk := (.s (.r [0]) (.s (.b (.s .d (.c (.s .d .d) (.s .d (.c (.s .d .d) .d))))) (.s (.q [] [] [.p 0, .p 1, .p 3, .p 4, .w 2 [2, 6, 7], .p 6, .w 5 [5, 7], .p 7]) .d)))

def park_Step.k1 (Q : Den kparkOp → Heap → Prop) (s27 : (Option Addr × ((Int × (Int × (Int × (Int × (Int × (Int × (Int × (Int × (Int × ((Fin 64 → Den kparkLot) × (Int × (Int × (Int × (Int × (Int × (Int × (Int × (Int × (Int × (Int × (Int × (Int × (Int × (Bool × Den kparkLot)))))))))))))))))))))))) × Unit))) (h28 : Heap) : Prop :=
    deref s27.1 fun a29 =>
    ld kparkOp h28 a29 fun t30 =>
    Q (((t30.1.1.1, (t30.1.1.2.1, ())), (t30.1.2.1, (t30.1.2.2.1, (t30.1.2.2.2.1, (t30.1.2.2.2.2.1, (t30.1.2.2.2.2.2.1, (t30.1.2.2.2.2.2.2.1, (t30.1.2.2.2.2.2.2.2.1, ())))))))), (t30.2.1, ((t30.2.2.1.1, (t30.2.2.1.2.1, ((t30.2.2.1.2.2.1.1, (t30.2.2.1.2.2.1.2.1, ())), (t30.2.2.1.2.2.2.1, (t30.2.2.1.2.2.2.2.1, (t30.2.2.1.2.2.2.2.2.1, (t30.2.2.1.2.2.2.2.2.2.1, (t30.2.2.1.2.2.2.2.2.2.2.1, (t30.2.2.1.2.2.2.2.2.2.2.2.1, (t30.2.2.1.2.2.2.2.2.2.2.2.2.1, (t30.2.2.1.2.2.2.2.2.2.2.2.2.2.1, (t30.2.2.1.2.2.2.2.2.2.2.2.2.2.2.1, (t30.2.2.1.2.2.2.2.2.2.2.2.2.2.2.2.1, (t30.2.2.1.2.2.2.2.2.2.2.2.2.2.2.2.2.1, (t30.2.2.1.2.2.2.2.2.2.2.2.2.2.2.2.2.2.1, ()))))))))))))))), ()))) h28
def park_Step.k2 (c_park_state_over : Option Addr → Int → Int → Heap → (Unit → Heap → Prop) → Prop) (c_park_Op_looked : Den kparkOp → Value → Heap → (Den kparkOp → Heap → Prop) → Prop) (c_park_state_access : Option Addr → Value → Heap → (Den kparkLot → Heap → Prop) → Prop) (c_park_Op_rested : Den kparkOp → Int → Heap → (Den kparkOp → Heap → Prop) → Prop) (c_park_state_woken : Option Addr → Int → Heap → (Unit → Heap → Prop) → Prop) (c_park_state_finished : Option Addr → Int → Heap → (Unit → Heap → Prop) → Prop) (Q : Den kparkOp → Heap → Prop) (s6 : (Value × (Option Addr × ((Int × (Int × (Int × (Int × (Int × (Int × (Int × (Int × (Int × ((Fin 64 → Den kparkLot) × (Int × (Int × (Int × (Int × (Int × (Int × (Int × (Int × (Int × (Int × (Int × (Int × (Int × (Bool × Den kparkLot)))))))))))))))))))))))) × Unit)))) (h7 : Heap) : Prop :=
    isI s6.1 ∧
    (((isNilI s6.1) = true →
    deref s6.2.1 fun a8 =>
    c_park_state_over (some (a8.add 0)) 1 0 h7 fun r9 h10 =>
    deref s6.2.1 fun a11 =>
    ld kparkOp h10 a11 fun t12 =>
    Q (((t12.1.1.1, (t12.1.1.2.1, ())), (t12.1.2.1, (t12.1.2.2.1, (t12.1.2.2.2.1, (t12.1.2.2.2.2.1, (t12.1.2.2.2.2.2.1, (t12.1.2.2.2.2.2.2.1, (t12.1.2.2.2.2.2.2.2.1, ())))))))), (t12.2.1, ((t12.2.2.1.1, (t12.2.2.1.2.1, ((t12.2.2.1.2.2.1.1, (t12.2.2.1.2.2.1.2.1, ())), (t12.2.2.1.2.2.2.1, (t12.2.2.1.2.2.2.2.1, (t12.2.2.1.2.2.2.2.2.1, (t12.2.2.1.2.2.2.2.2.2.1, (t12.2.2.1.2.2.2.2.2.2.2.1, (t12.2.2.1.2.2.2.2.2.2.2.2.1, (t12.2.2.1.2.2.2.2.2.2.2.2.2.1, (t12.2.2.1.2.2.2.2.2.2.2.2.2.2.1, (t12.2.2.1.2.2.2.2.2.2.2.2.2.2.2.1, (t12.2.2.1.2.2.2.2.2.2.2.2.2.2.2.2.1, (t12.2.2.1.2.2.2.2.2.2.2.2.2.2.2.2.2.1, (t12.2.2.1.2.2.2.2.2.2.2.2.2.2.2.2.2.2.1, ()))))))))))))))), ()))) h10) ∧
    ((isNilI s6.1) = false →
    deref s6.2.1 fun a13 =>
    ld ((.int .i64) : Kd) h7 ((a13.add 0).add 4) fun t14 =>
    (((decide (t14 = 4)) = true →
    deref s6.2.1 fun a15 =>
    ld kparkOp h7 a15 fun t16 =>
    c_park_Op_looked t16 s6.1 h7 fun r17 h18 =>
    Q (((r17.1.1.1, (r17.1.1.2.1, ())), (r17.1.2.1, (r17.1.2.2.1, (r17.1.2.2.2.1, (r17.1.2.2.2.2.1, (r17.1.2.2.2.2.2.1, (r17.1.2.2.2.2.2.2.1, (r17.1.2.2.2.2.2.2.2.1, ())))))))), (r17.2.1, ((r17.2.2.1.1, (r17.2.2.1.2.1, ((r17.2.2.1.2.2.1.1, (r17.2.2.1.2.2.1.2.1, ())), (r17.2.2.1.2.2.2.1, (r17.2.2.1.2.2.2.2.1, (r17.2.2.1.2.2.2.2.2.1, (r17.2.2.1.2.2.2.2.2.2.1, (r17.2.2.1.2.2.2.2.2.2.2.1, (r17.2.2.1.2.2.2.2.2.2.2.2.1, (r17.2.2.1.2.2.2.2.2.2.2.2.2.1, (r17.2.2.1.2.2.2.2.2.2.2.2.2.2.1, (r17.2.2.1.2.2.2.2.2.2.2.2.2.2.2.1, (r17.2.2.1.2.2.2.2.2.2.2.2.2.2.2.2.1, (r17.2.2.1.2.2.2.2.2.2.2.2.2.2.2.2.2.1, (r17.2.2.1.2.2.2.2.2.2.2.2.2.2.2.2.2.2.1, ()))))))))))))))), ()))) h18) ∧
    ((decide (t14 = 4)) = false →
    deref s6.2.1 fun a19 =>
    c_park_state_access (some (a19.add 0)) s6.1 h7 fun r20 h21 =>
    (((decide (r20.2.1 ≠ 0)) = true →
    deref s6.2.1 fun a22 =>
    c_park_state_over (some (a22.add 0)) 1 0 h21 fun r23 h24 =>
    deref s6.2.1 fun a25 =>
    ld kparkOp h24 a25 fun t26 =>
    Q (((t26.1.1.1, (t26.1.1.2.1, ())), (t26.1.2.1, (t26.1.2.2.1, (t26.1.2.2.2.1, (t26.1.2.2.2.2.1, (t26.1.2.2.2.2.2.1, (t26.1.2.2.2.2.2.2.1, (t26.1.2.2.2.2.2.2.2.1, ())))))))), (t26.2.1, ((t26.2.2.1.1, (t26.2.2.1.2.1, ((t26.2.2.1.2.2.1.1, (t26.2.2.1.2.2.1.2.1, ())), (t26.2.2.1.2.2.2.1, (t26.2.2.1.2.2.2.2.1, (t26.2.2.1.2.2.2.2.2.1, (t26.2.2.1.2.2.2.2.2.2.1, (t26.2.2.1.2.2.2.2.2.2.2.1, (t26.2.2.1.2.2.2.2.2.2.2.2.1, (t26.2.2.1.2.2.2.2.2.2.2.2.2.1, (t26.2.2.1.2.2.2.2.2.2.2.2.2.2.1, (t26.2.2.1.2.2.2.2.2.2.2.2.2.2.2.1, (t26.2.2.1.2.2.2.2.2.2.2.2.2.2.2.2.1, (t26.2.2.1.2.2.2.2.2.2.2.2.2.2.2.2.2.1, (t26.2.2.1.2.2.2.2.2.2.2.2.2.2.2.2.2.2.1, ()))))))))))))))), ()))) h24) ∧
    ((decide (r20.2.1 ≠ 0)) = false →
    deref s6.2.1 fun a31 =>
    ld ((.int .i64) : Kd) h21 ((a31.add 0).add 3) fun t32 =>
    (((decide (t32 = 1)) = true →
    deref s6.2.1 fun a33 =>
    ld kparkOp h21 a33 fun t34 =>
    c_park_Op_rested t34 r20.1 h21 fun r35 h36 =>
    Q (((r35.1.1.1, (r35.1.1.2.1, ())), (r35.1.2.1, (r35.1.2.2.1, (r35.1.2.2.2.1, (r35.1.2.2.2.2.1, (r35.1.2.2.2.2.2.1, (r35.1.2.2.2.2.2.2.1, (r35.1.2.2.2.2.2.2.2.1, ())))))))), (r35.2.1, ((r35.2.2.1.1, (r35.2.2.1.2.1, ((r35.2.2.1.2.2.1.1, (r35.2.2.1.2.2.1.2.1, ())), (r35.2.2.1.2.2.2.1, (r35.2.2.1.2.2.2.2.1, (r35.2.2.1.2.2.2.2.2.1, (r35.2.2.1.2.2.2.2.2.2.1, (r35.2.2.1.2.2.2.2.2.2.2.1, (r35.2.2.1.2.2.2.2.2.2.2.2.1, (r35.2.2.1.2.2.2.2.2.2.2.2.2.1, (r35.2.2.1.2.2.2.2.2.2.2.2.2.2.1, (r35.2.2.1.2.2.2.2.2.2.2.2.2.2.2.1, (r35.2.2.1.2.2.2.2.2.2.2.2.2.2.2.2.1, (r35.2.2.1.2.2.2.2.2.2.2.2.2.2.2.2.2.1, (r35.2.2.1.2.2.2.2.2.2.2.2.2.2.2.2.2.2.1, ()))))))))))))))), ()))) h36) ∧
    ((decide (t32 = 1)) = false →
    (((decide (t32 = 2)) = true →
    deref s6.2.1 fun a37 =>
    c_park_state_woken (some (a37.add 0)) r20.1 h21 fun r38 h39 =>
    park_Step.k1 Q (s6.2.1, (s6.2.2.1.1, (s6.2.2.1.2.1, (s6.2.2.1.2.2.1, (s6.2.2.1.2.2.2.1, (s6.2.2.1.2.2.2.2.1, (s6.2.2.1.2.2.2.2.2.1, (s6.2.2.1.2.2.2.2.2.2.1, (s6.2.2.1.2.2.2.2.2.2.2.1, (s6.2.2.1.2.2.2.2.2.2.2.2.1, (s6.2.2.1.2.2.2.2.2.2.2.2.2.1, (s6.2.2.1.2.2.2.2.2.2.2.2.2.2.1, (s6.2.2.1.2.2.2.2.2.2.2.2.2.2.2.1, (s6.2.2.1.2.2.2.2.2.2.2.2.2.2.2.2.1, (s6.2.2.1.2.2.2.2.2.2.2.2.2.2.2.2.2.1, (s6.2.2.1.2.2.2.2.2.2.2.2.2.2.2.2.2.2.1, (s6.2.2.1.2.2.2.2.2.2.2.2.2.2.2.2.2.2.2.1, (s6.2.2.1.2.2.2.2.2.2.2.2.2.2.2.2.2.2.2.2.1, (s6.2.2.1.2.2.2.2.2.2.2.2.2.2.2.2.2.2.2.2.2.1, (s6.2.2.1.2.2.2.2.2.2.2.2.2.2.2.2.2.2.2.2.2.2.1, (s6.2.2.1.2.2.2.2.2.2.2.2.2.2.2.2.2.2.2.2.2.2.2.1, (s6.2.2.1.2.2.2.2.2.2.2.2.2.2.2.2.2.2.2.2.2.2.2.2.1, (s6.2.2.1.2.2.2.2.2.2.2.2.2.2.2.2.2.2.2.2.2.2.2.2.2.1, (s6.2.2.1.2.2.2.2.2.2.2.2.2.2.2.2.2.2.2.2.2.2.2.2.2.2.1, (s6.2.2.1.2.2.2.2.2.2.2.2.2.2.2.2.2.2.2.2.2.2.2.2.2.2.2.1, (s6.2.2.1.2.2.2.2.2.2.2.2.2.2.2.2.2.2.2.2.2.2.2.2.2.2.2.2.1, (s6.2.2.1.2.2.2.2.2.2.2.2.2.2.2.2.2.2.2.2.2.2.2.2.2.2.2.2.2.1, ())))))))))))))))))))))))))), ()) h39) ∧
    ((decide (t32 = 2)) = false →
    (((decide (t32 = 3)) = true →
    deref s6.2.1 fun a40 =>
    c_park_state_over (some (a40.add 0)) 16 0 h21 fun r41 h42 =>
    (((decide (r20.1 = 1)) = true →
    deref s6.2.1 fun a43 =>
    st ((.int .i64) : Kd) h42 ((a43.add 0).add 7) 17 fun h44 =>
    park_Step.k1 Q (s6.2.1, (s6.2.2.1.1, (s6.2.2.1.2.1, (s6.2.2.1.2.2.1, (s6.2.2.1.2.2.2.1, (s6.2.2.1.2.2.2.2.1, (s6.2.2.1.2.2.2.2.2.1, (s6.2.2.1.2.2.2.2.2.2.1, (s6.2.2.1.2.2.2.2.2.2.2.1, (s6.2.2.1.2.2.2.2.2.2.2.2.1, (s6.2.2.1.2.2.2.2.2.2.2.2.2.1, (s6.2.2.1.2.2.2.2.2.2.2.2.2.2.1, (s6.2.2.1.2.2.2.2.2.2.2.2.2.2.2.1, (s6.2.2.1.2.2.2.2.2.2.2.2.2.2.2.2.1, (s6.2.2.1.2.2.2.2.2.2.2.2.2.2.2.2.2.1, (s6.2.2.1.2.2.2.2.2.2.2.2.2.2.2.2.2.2.1, (s6.2.2.1.2.2.2.2.2.2.2.2.2.2.2.2.2.2.2.1, (s6.2.2.1.2.2.2.2.2.2.2.2.2.2.2.2.2.2.2.2.1, (s6.2.2.1.2.2.2.2.2.2.2.2.2.2.2.2.2.2.2.2.2.1, (s6.2.2.1.2.2.2.2.2.2.2.2.2.2.2.2.2.2.2.2.2.2.1, (s6.2.2.1.2.2.2.2.2.2.2.2.2.2.2.2.2.2.2.2.2.2.2.1, (s6.2.2.1.2.2.2.2.2.2.2.2.2.2.2.2.2.2.2.2.2.2.2.2.1, (s6.2.2.1.2.2.2.2.2.2.2.2.2.2.2.2.2.2.2.2.2.2.2.2.2.1, (s6.2.2.1.2.2.2.2.2.2.2.2.2.2.2.2.2.2.2.2.2.2.2.2.2.2.1, (s6.2.2.1.2.2.2.2.2.2.2.2.2.2.2.2.2.2.2.2.2.2.2.2.2.2.2.1, (s6.2.2.1.2.2.2.2.2.2.2.2.2.2.2.2.2.2.2.2.2.2.2.2.2.2.2.2.1, (s6.2.2.1.2.2.2.2.2.2.2.2.2.2.2.2.2.2.2.2.2.2.2.2.2.2.2.2.2.1, ())))))))))))))))))))))))))), ()) h44) ∧
    ((decide (r20.1 = 1)) = false →
    park_Step.k1 Q (s6.2.1, (s6.2.2.1.1, (s6.2.2.1.2.1, (s6.2.2.1.2.2.1, (s6.2.2.1.2.2.2.1, (s6.2.2.1.2.2.2.2.1, (s6.2.2.1.2.2.2.2.2.1, (s6.2.2.1.2.2.2.2.2.2.1, (s6.2.2.1.2.2.2.2.2.2.2.1, (s6.2.2.1.2.2.2.2.2.2.2.2.1, (s6.2.2.1.2.2.2.2.2.2.2.2.2.1, (s6.2.2.1.2.2.2.2.2.2.2.2.2.2.1, (s6.2.2.1.2.2.2.2.2.2.2.2.2.2.2.1, (s6.2.2.1.2.2.2.2.2.2.2.2.2.2.2.2.1, (s6.2.2.1.2.2.2.2.2.2.2.2.2.2.2.2.2.1, (s6.2.2.1.2.2.2.2.2.2.2.2.2.2.2.2.2.2.1, (s6.2.2.1.2.2.2.2.2.2.2.2.2.2.2.2.2.2.2.1, (s6.2.2.1.2.2.2.2.2.2.2.2.2.2.2.2.2.2.2.2.1, (s6.2.2.1.2.2.2.2.2.2.2.2.2.2.2.2.2.2.2.2.2.1, (s6.2.2.1.2.2.2.2.2.2.2.2.2.2.2.2.2.2.2.2.2.2.1, (s6.2.2.1.2.2.2.2.2.2.2.2.2.2.2.2.2.2.2.2.2.2.2.1, (s6.2.2.1.2.2.2.2.2.2.2.2.2.2.2.2.2.2.2.2.2.2.2.2.1, (s6.2.2.1.2.2.2.2.2.2.2.2.2.2.2.2.2.2.2.2.2.2.2.2.2.1, (s6.2.2.1.2.2.2.2.2.2.2.2.2.2.2.2.2.2.2.2.2.2.2.2.2.2.1, (s6.2.2.1.2.2.2.2.2.2.2.2.2.2.2.2.2.2.2.2.2.2.2.2.2.2.2.1, (s6.2.2.1.2.2.2.2.2.2.2.2.2.2.2.2.2.2.2.2.2.2.2.2.2.2.2.2.1, (s6.2.2.1.2.2.2.2.2.2.2.2.2.2.2.2.2.2.2.2.2.2.2.2.2.2.2.2.2.1, ())))))))))))))))))))))))))), ()) h42))) ∧
    ((decide (t32 = 3)) = false →
    deref s6.2.1 fun a45 =>
    c_park_state_finished (some (a45.add 0)) r20.1 h21 fun r46 h47 =>
    park_Step.k1 Q (s6.2.1, (s6.2.2.1.1, (s6.2.2.1.2.1, (s6.2.2.1.2.2.1, (s6.2.2.1.2.2.2.1, (s6.2.2.1.2.2.2.2.1, (s6.2.2.1.2.2.2.2.2.1, (s6.2.2.1.2.2.2.2.2.2.1, (s6.2.2.1.2.2.2.2.2.2.2.1, (s6.2.2.1.2.2.2.2.2.2.2.2.1, (s6.2.2.1.2.2.2.2.2.2.2.2.2.1, (s6.2.2.1.2.2.2.2.2.2.2.2.2.2.1, (s6.2.2.1.2.2.2.2.2.2.2.2.2.2.2.1, (s6.2.2.1.2.2.2.2.2.2.2.2.2.2.2.2.1, (s6.2.2.1.2.2.2.2.2.2.2.2.2.2.2.2.2.1, (s6.2.2.1.2.2.2.2.2.2.2.2.2.2.2.2.2.2.1, (s6.2.2.1.2.2.2.2.2.2.2.2.2.2.2.2.2.2.2.1, (s6.2.2.1.2.2.2.2.2.2.2.2.2.2.2.2.2.2.2.2.1, (s6.2.2.1.2.2.2.2.2.2.2.2.2.2.2.2.2.2.2.2.2.1, (s6.2.2.1.2.2.2.2.2.2.2.2.2.2.2.2.2.2.2.2.2.2.1, (s6.2.2.1.2.2.2.2.2.2.2.2.2.2.2.2.2.2.2.2.2.2.2.1, (s6.2.2.1.2.2.2.2.2.2.2.2.2.2.2.2.2.2.2.2.2.2.2.2.1, (s6.2.2.1.2.2.2.2.2.2.2.2.2.2.2.2.2.2.2.2.2.2.2.2.2.1, (s6.2.2.1.2.2.2.2.2.2.2.2.2.2.2.2.2.2.2.2.2.2.2.2.2.2.1, (s6.2.2.1.2.2.2.2.2.2.2.2.2.2.2.2.2.2.2.2.2.2.2.2.2.2.2.1, (s6.2.2.1.2.2.2.2.2.2.2.2.2.2.2.2.2.2.2.2.2.2.2.2.2.2.2.2.1, (s6.2.2.1.2.2.2.2.2.2.2.2.2.2.2.2.2.2.2.2.2.2.2.2.2.2.2.2.2.1, ())))))))))))))))))))))))))), ()) h47))))))))))))
def park_Step.j3 (c_park_state_over : Option Addr → Int → Int → Heap → (Unit → Heap → Prop) → Prop) (c_park_Op_looked : Den kparkOp → Value → Heap → (Den kparkOp → Heap → Prop) → Prop) (c_park_state_access : Option Addr → Value → Heap → (Den kparkLot → Heap → Prop) → Prop) (c_park_Op_rested : Den kparkOp → Int → Heap → (Den kparkOp → Heap → Prop) → Prop) (c_park_state_woken : Option Addr → Int → Heap → (Unit → Heap → Prop) → Prop) (c_park_state_finished : Option Addr → Int → Heap → (Unit → Heap → Prop) → Prop) (m1 : Value) (Q : Den kparkOp → Heap → Prop) (p4 : Addr) (s48 : (Bool × Unit)) (h49 : Heap) : Prop :=
    ((s48.1 = true →
    ld kparkOp h49 p4 fun t50 =>
    Q (((t50.1.1.1, (t50.1.1.2.1, ())), (t50.1.2.1, (t50.1.2.2.1, (t50.1.2.2.2.1, (t50.1.2.2.2.2.1, (t50.1.2.2.2.2.2.1, (t50.1.2.2.2.2.2.2.1, (t50.1.2.2.2.2.2.2.2.1, ())))))))), (t50.2.1, ((t50.2.2.1.1, (t50.2.2.1.2.1, ((t50.2.2.1.2.2.1.1, (t50.2.2.1.2.2.1.2.1, ())), (t50.2.2.1.2.2.2.1, (t50.2.2.1.2.2.2.2.1, (t50.2.2.1.2.2.2.2.2.1, (t50.2.2.1.2.2.2.2.2.2.1, (t50.2.2.1.2.2.2.2.2.2.2.1, (t50.2.2.1.2.2.2.2.2.2.2.2.1, (t50.2.2.1.2.2.2.2.2.2.2.2.2.1, (t50.2.2.1.2.2.2.2.2.2.2.2.2.2.1, (t50.2.2.1.2.2.2.2.2.2.2.2.2.2.2.1, (t50.2.2.1.2.2.2.2.2.2.2.2.2.2.2.2.1, (t50.2.2.1.2.2.2.2.2.2.2.2.2.2.2.2.2.1, (t50.2.2.1.2.2.2.2.2.2.2.2.2.2.2.2.2.2.1, ()))))))))))))))), ()))) h49) ∧
    (s48.1 = false →
    park_Step.k2 c_park_state_over c_park_Op_looked c_park_state_access c_park_Op_rested c_park_state_woken c_park_state_finished Q (m1, (some p4), (0, (0, (0, (0, (0, (0, (0, (0, (0, ((fun _ => (0, (0, ()))), (0, (0, (0, (0, (0, (0, (0, (0, (0, (0, (0, (0, (0, (false, (0, (0, ())))))))))))))))))))))))))), ()) h49))
def park_Step.M (c_park_state_over : Option Addr → Int → Int → Heap → (Unit → Heap → Prop) → Prop) (c_park_Op_looked : Den kparkOp → Value → Heap → (Den kparkOp → Heap → Prop) → Prop) (c_park_state_access : Option Addr → Value → Heap → (Den kparkLot → Heap → Prop) → Prop) (c_park_Op_rested : Den kparkOp → Int → Heap → (Den kparkOp → Heap → Prop) → Prop) (c_park_state_woken : Option Addr → Int → Heap → (Unit → Heap → Prop) → Prop) (c_park_state_finished : Option Addr → Int → Heap → (Unit → Heap → Prop) → Prop) (m1 : Value) (o2 : Den kparkOp) (h3 : Heap) (Q : Den kparkOp → Heap → Prop) : Prop :=
    new h3 (kparkOp.cells o2) fun p4 h5 =>
    ld ((.int .i64) : Kd) h5 ((p4.add 0).add 3) fun t51 =>
    (((decide (t51 = 0)) = true →
    park_Step.j3 c_park_state_over c_park_Op_looked c_park_state_access c_park_Op_rested c_park_state_woken c_park_state_finished m1 Q p4 (true, ()) h5) ∧
    ((decide (t51 = 0)) = false →
    ld ((.int .i64) : Kd) h5 ((p4.add 0).add 4) fun t52 =>
    park_Step.j3 c_park_state_over c_park_Op_looked c_park_state_access c_park_Op_rested c_park_state_woken c_park_state_finished m1 Q p4 ((decide (t52 = 0)), ()) h5))
def park_Step.mk : Mk := (.s (.r [1]) (.k [.slot 0 .iface, .slot 3 .ptr, .box 4 (.pair (.int .i64) (.pair (.int .i64) (.pair (.int .i64) (.pair (.int .i64) (.pair (.int .i64) (.pair (.int .i64) (.pair (.int .i64) (.pair (.int .i64) (.pair (.int .i64) (.pair (.arr 64 kparkLot) (.pair (.int .i64) (.pair (.int .i64) (.pair (.int .i64) (.pair (.int .i64) (.pair (.int .i64) (.pair (.int .i64) (.pair (.int .i64) (.pair (.int .i64) (.pair (.int .i64) (.pair (.int .i64) (.pair (.int .i64) (.pair (.int .i64) (.pair (.int .i64) (.pair .bool kparkLot))))))))))))))))))))))))] [(4, 4, 0)] (.j [.slot 16 .bool] .d (.c (.s .d .d) .d)) (.s (.s .d (.c (.s .d (.s .d .d)) .d)) (.s (.s .d (.c (.s .d .d) .d)) (.s .d (.s (.s .d (.c (.s .d (.s .d .d)) .d)) (.k [.slot 3 .ptr, .box 4 (.pair (.int .i64) (.pair (.int .i64) (.pair (.int .i64) (.pair (.int .i64) (.pair (.int .i64) (.pair (.int .i64) (.pair (.int .i64) (.pair (.int .i64) (.pair (.int .i64) (.pair (.arr 64 kparkLot) (.pair (.int .i64) (.pair (.int .i64) (.pair (.int .i64) (.pair (.int .i64) (.pair (.int .i64) (.pair (.int .i64) (.pair (.int .i64) (.pair (.int .i64) (.pair (.int .i64) (.pair (.int .i64) (.pair (.int .i64) (.pair (.int .i64) (.pair (.int .i64) (.pair .bool kparkLot))))))))))))))))))))))))] [(4, 4, 0)] (.s .d (.b (.s .d (.c (.s .d .d) (.s .d (.c .d (.s .d (.c (.s .d (.s .d (.c .d .d))) .d)))))))) (.s .d .d))))))))

def cells_Arena_Watch.M  (a1 : Option Addr) (on2 : Bool) (h3 : Heap) (Q : Unit → Heap → Prop) : Prop :=
    (((Option.isSome a1) = true →
    deref a1 fun a4 =>
    st (.bool : Kd) h3 (a4.add 5) on2 fun h5 =>
    Q () h5) ∧
    ((Option.isSome a1) = false →
    Q () h3))
def cells_Arena_Watch.mk : Mk := (.s .d (.c .d .d))

def cells_Arena_Store.M (c_cells_Arena_outside : Option Addr → Int → Heap → (Bool → Heap → Prop) → Prop) (c_cells_Arena_note : Option Addr → Int → Int → Int → Int → Bool → Heap → (Unit → Heap → Prop) → Prop) (a1 : Option Addr) (addr2 : Int) (v3 : Int) (h4 : Heap) (Q : Int → Heap → Prop) : Prop :=
    c_cells_Arena_outside a1 addr2 h4 fun r5 h6 =>
    ((r5 = true →
    Q 20 h6) ∧
    (r5 = false →
    deref a1 fun a7 =>
    ld (.sl : Kd) h6 (a7.add 2) fun t8 =>
    (0 ≤ addr2 ∧ addr2 < (t8.len : Int)) ∧
    deref t8.a fun a9 =>
    st ((.int .i64) : Kd) h6 (a9.add ((addr2 : Int).toNat * 1)) v3 fun h10 =>
    c_cells_Arena_note a1 1 addr2 v3 0 true h10 fun r11 h12 =>
    Q 0 h12))
def cells_Arena_Store.mk : Mk := (.s .d (.s (.s .d (.c (.s .d .d) .d)) (.s .d (.s .d (.s .d .d)))))

def park_Parked.M  (o1 : Den kparkOp) (h2 : Heap) (Q : Bool → Heap → Prop) : Prop :=
    (((decide (o1.1.2.2.1 = 1)) = true →
    Q (decide (o1.1.2.2.2.1 = 5)) h2) ∧
    ((decide (o1.1.2.2.1 = 1)) = false →
    Q false h2))
def park_Parked.mk : Mk := (.s (.r [0]) (.s .d .d))

def cells_New.M (c_cells_good : Int → Heap → (Bool → Heap → Prop) → Prop) (size1 : Int) (h2 : Heap) (Q : (Option Addr × (Int × Unit)) → Heap → Prop) : Prop :=
    c_cells_good size1 h2 fun r3 h4 =>
    (((!r3) = true →
    Q (none, 3, ()) h4) ∧
    ((!r3) = false →
    new h4 (kcellsArena.cells ((size1, (0, ())), (Sl.none, (Sl.none, (0, (false, ())))))) fun p5 h6 =>
    Q ((some p5), 0, ()) h6))
def cells_New.mk : Mk := (.s .d (.s (.s .d (.c (.s .d .d) .d)) (.s .d .d)))

def cells_Arena_Reserve.j1 (c_cells_ledger_refuse : Option Addr → Int → Heap → (Int → Heap → Prop) → Prop) (c_cells_ledger_take : Option Addr → Int → Heap → (Int → Heap → Prop) → Prop) (c_cells_Arena_note : Option Addr → Int → Int → Int → Int → Bool → Heap → (Unit → Heap → Prop) → Prop) (a1 : Option Addr) (n2 : Int) (Q : Den kparkLot → Heap → Prop) (s4 : (Option Addr × Unit)) (h5 : Heap) : Prop :=
    c_cells_ledger_refuse s4.1 n2 h5 fun r6 h7 =>
    (((decide (r6 ≠ 0)) = true →
    Q (0, r6, ()) h7) ∧
    ((decide (r6 ≠ 0)) = false →
    c_cells_ledger_take s4.1 n2 h7 fun r8 h9 =>
    deref a1 fun a10 =>
    ld (.sl : Kd) h9 (a10.add 2) fun t11 =>
    appendZM ((.int .i64) : Kd) 8 h9 t11 n2 fun t12 h13 =>
    deref a1 fun a14 =>
    st (.sl : Kd) h13 (a14.add 2) t12 fun h15 =>
    c_cells_Arena_note a1 4 r8 n2 0 true h15 fun r16 h17 =>
    Q (r8, 0, ()) h17))
def cells_Arena_Reserve.M (c_cells_ledger_refuse : Option Addr → Int → Heap → (Int → Heap → Prop) → Prop) (c_cells_ledger_take : Option Addr → Int → Heap → (Int → Heap → Prop) → Prop) (c_cells_Arena_note : Option Addr → Int → Int → Int → Int → Bool → Heap → (Unit → Heap → Prop) → Prop) (a1 : Option Addr) (n2 : Int) (h3 : Heap) (Q : Den kparkLot → Heap → Prop) : Prop :=
    (((Option.isSome a1) = true →
    deref a1 fun a18 =>
    cells_Arena_Reserve.j1 c_cells_ledger_refuse c_cells_ledger_take c_cells_Arena_note a1 n2 Q ((some (a18.add 0)), ()) h3) ∧
    ((Option.isSome a1) = false →
    cells_Arena_Reserve.j1 c_cells_ledger_refuse c_cells_ledger_take c_cells_Arena_note a1 n2 Q (none, ()) h3))
def cells_Arena_Reserve.mk : Mk := (.s .d (.s .d (.j [.slot 6 .ptr] (.s .d (.c .d .d)) (.s (.s .d (.s .d (.c (.s .d .d) .d))) (.s .d (.s .d (.s .d (.s .d .d))))))))

def park_Cells.j1 (workers1 : Int) (Q : Int → Heap → Prop) (s3 : Unit) (h4 : Heap) : Prop :=
    Q (w64 (2 + workers1)) h4
def park_Cells.j2 (workers1 : Int) (Q : Int → Heap → Prop) (s5 : (Bool × Unit)) (h6 : Heap) : Prop :=
    ((s5.1 = true →
    Q 0 h6) ∧
    (s5.1 = false →
    park_Cells.j1 workers1 Q () h6))
def park_Cells.M  (workers1 : Int) (h2 : Heap) (Q : Int → Heap → Prop) : Prop :=
    (((decide (workers1 < 1)) = true →
    park_Cells.j2 workers1 Q (true, ()) h2) ∧
    ((decide (workers1 < 1)) = false →
    park_Cells.j2 workers1 Q ((decide ((64 : Int) < workers1)), ()) h2))
def park_Cells.mk : Mk := (.s .d (.j [] (.j [.slot 8 .bool] .d (.c (.s .d .d) .d)) (.s .d .d)))

def deque_Cells.l1 (most2 : Int) (Q : Int → Heap → Prop) (go8 : Den kparkLot → Heap → Prop) (s6 : Den kparkLot) (h7 : Heap) : Prop :=
    (((decide (s6.2.1 < most2)) = true →
    go8 ((w64 (s6.1 + (w64 (1 + (if most2 < (w64 (2 * s6.2.1)) then most2 else (w64 (2 * s6.2.1))))))), (if most2 < (w64 (2 * s6.2.1)) then most2 else (w64 (2 * s6.2.1))), ()) h7) ∧
    ((decide (s6.2.1 < most2)) = false →
    Q s6.1 h7))
def deque_Cells.M (c_deque_capsOK : Int → Int → Heap → (Bool → Heap → Prop) → Prop) (low1 : Int) (most2 : Int) (h3 : Heap) (Q : Int → Heap → Prop) : Prop :=
    c_deque_capsOK low1 most2 h3 fun r4 h5 =>
    (((!r4) = true →
    Q 0 h5) ∧
    ((!r4) = false →
    Loop (deque_Cells.l1 most2 Q) ((w64 (4 + low1)), low1, ()) h5))
def deque_Cells.mk : Mk := (.s .d (.s (.s .d (.c (.s .d .d) .d)) (.s .d (.s (.s .d (.b (.l [.slot 5 (.int .i64), .slot 6 (.int .i64)] (.s (.s .d (.c .d .d)) (.b (.s .d .d)))))) (.s .d .d)))))

def park_New.M (c_park_Cells : Int → Heap → (Int → Heap → Prop) → Prop) (c_inv_Reserve : Value → Int → Heap → (Den kparkLot → Heap → Prop) → Prop) (c_nil : Value → Prop) (m1 : Value) (workers2 : Int) (h3 : Heap) (Q : (Den kparkLot × (Int × Unit)) → Heap → Prop) : Prop :=
    isI m1 ∧
    (((isNilI m1) = true →
    Q ((0, (0, ())), 1, ()) h3) ∧
    ((isNilI m1) = false →
    c_park_Cells workers2 h3 fun r4 h5 =>
    (((decide (r4 = 0)) = true →
    Q ((0, (0, ())), 3, ()) h5) ∧
    ((decide (r4 = 0)) = false →
    c_nil (Value.func (.method "Reserve") (List.toArray [Kd.val (.iface : Kd) m1]) (List.toArray [])) ∧
    c_park_Cells workers2 h5 fun r6 h7 =>
    c_inv_Reserve m1 r6 h7 fun r8 h9 =>
    (((decide (r8.2.1 ≠ 0)) = true →
    Q ((0, (0, ())), r8.2.1, ()) h9) ∧
    ((decide (r8.2.1 ≠ 0)) = false →
    Q ((r8.1, (workers2, ())), 0, ()) h9))))))
def park_New.mk : Mk := (.s (.r [0]) (.s (.s .d (.c (.s .d .d) .d)) (.s (.s .d (.c (.s .d .d) .d)) (.s (.q [] [] [.p 0, .p 1, .p 3, .p 4, .p 5, .o 2, .o 6, .p 7, .p 8, .p 9, .p 10, .p 11]) (.s (.s .d (.c (.s .d .d) .d)) (.s .d .d))))))

def deque_New.M (c_deque_capsOK : Int → Int → Heap → (Bool → Heap → Prop) → Prop) (c_inv_Reserve : Value → Int → Heap → (Den kparkLot → Heap → Prop) → Prop) (c_inv_Store : Value → Int → Int → Heap → (Int → Heap → Prop) → Prop) (m1 : Value) (low2 : Int) (most3 : Int) (h4 : Heap) (Q : (Den kparkLot × (Int × Unit)) → Heap → Prop) : Prop :=
    isI m1 ∧
    (((isNilI m1) = true →
    Q ((0, (0, ())), 1, ()) h4) ∧
    ((isNilI m1) = false →
    c_deque_capsOK low2 most3 h4 fun r5 h6 =>
    (((!r5) = true →
    Q ((0, (0, ())), 30, ()) h6) ∧
    ((!r5) = false →
    c_inv_Reserve m1 (w64 (4 + low2)) h6 fun r7 h8 =>
    (((decide (r7.2.1 ≠ 0)) = true →
    Q ((0, (0, ())), r7.2.1, ()) h8) ∧
    ((decide (r7.2.1 ≠ 0)) = false →
    c_inv_Store m1 (w64 (r7.1 + 2)) (w64 (r7.1 + 3)) h8 fun r9 h10 =>
    (((decide (r9 ≠ 0)) = true →
    Q ((0, (0, ())), r9, ()) h10) ∧
    ((decide (r9 ≠ 0)) = false →
    c_inv_Store m1 (w64 (r7.1 + 3)) low2 h10 fun r11 h12 =>
    (((decide (r11 ≠ 0)) = true →
    Q ((0, (0, ())), r11, ()) h12) ∧
    ((decide (r11 ≠ 0)) = false →
    Q ((r7.1, (most3, ())), 0, ()) h12))))))))))
def deque_New.mk : Mk := (.s (.r [0]) (.s (.s .d (.c (.s .d .d) .d)) (.s (.s .d (.c (.s .d .d) .d)) (.s .d (.s (.s .d (.c (.s .d .d) .d)) (.s (.s .d (.s .d (.c (.s .d .d) .d))) (.s (.s .d (.s .d (.c (.s .d .d) .d))) (.s .d .d))))))))

def park_Rest.j1 (go9 : (Int × ((Int × (Int × (Int × (Int × (Int × (Int × (Int × (Int × (Int × ((Fin 64 → Den kparkLot) × (Int × (Int × (Int × (Int × (Int × (Int × (Int × (Int × (Int × (Int × (Int × (Int × (Int × (Bool × Den kparkLot)))))))))))))))))))))))) × ((Int × (Int × (Int × (Int × (Int × (Int × (Int × (Int × (Int × ((Fin 64 → Den kparkLot) × (Int × (Int × (Int × (Int × (Int × (Int × (Int × (Int × (Int × (Int × (Int × (Int × (Int × (Bool × Den kparkLot)))))))))))))))))))))))) × Unit))) → Heap → Prop) (s7 : (Int × ((Int × (Int × (Int × (Int × (Int × (Int × (Int × (Int × (Int × ((Fin 64 → Den kparkLot) × (Int × (Int × (Int × (Int × (Int × (Int × (Int × (Int × (Int × (Int × (Int × (Int × (Int × (Bool × Den kparkLot)))))))))))))))))))))))) × ((Int × (Int × (Int × (Int × (Int × (Int × (Int × (Int × (Int × ((Fin 64 → Den kparkLot) × (Int × (Int × (Int × (Int × (Int × (Int × (Int × (Int × (Int × (Int × (Int × (Int × (Int × (Bool × Den kparkLot)))))))))))))))))))))))) × Unit)))) (s10 : ((Int × (Int × (Int × (Int × (Int × (Int × (Int × (Int × (Int × ((Fin 64 → Den kparkLot) × (Int × (Int × (Int × (Int × (Int × (Int × (Int × (Int × (Int × (Int × (Int × (Int × (Int × (Bool × Den kparkLot)))))))))))))))))))))))) × ((Int × (Int × (Int × (Int × (Int × (Int × (Int × (Int × (Int × ((Fin 64 → Den kparkLot) × (Int × (Int × (Int × (Int × (Int × (Int × (Int × (Int × (Int × (Int × (Int × (Int × (Int × (Bool × Den kparkLot)))))))))))))))))))))))) × Unit))) (h11 : Heap) : Prop :=
    go9 ((w64 (s7.1 + 1)), (s10.1.1, (s10.1.2.1, (s10.1.2.2.1, (s10.1.2.2.2.1, (s10.1.2.2.2.2.1, (s10.1.2.2.2.2.2.1, (s10.1.2.2.2.2.2.2.1, (s10.1.2.2.2.2.2.2.2.1, (s10.1.2.2.2.2.2.2.2.2.1, (s10.1.2.2.2.2.2.2.2.2.2.1, (s10.1.2.2.2.2.2.2.2.2.2.2.1, (s10.1.2.2.2.2.2.2.2.2.2.2.2.1, (s10.1.2.2.2.2.2.2.2.2.2.2.2.2.1, (s10.1.2.2.2.2.2.2.2.2.2.2.2.2.2.1, (s10.1.2.2.2.2.2.2.2.2.2.2.2.2.2.2.1, (s10.1.2.2.2.2.2.2.2.2.2.2.2.2.2.2.2.1, (s10.1.2.2.2.2.2.2.2.2.2.2.2.2.2.2.2.2.1, (s10.1.2.2.2.2.2.2.2.2.2.2.2.2.2.2.2.2.2.1, (s10.1.2.2.2.2.2.2.2.2.2.2.2.2.2.2.2.2.2.2.1, (s10.1.2.2.2.2.2.2.2.2.2.2.2.2.2.2.2.2.2.2.2.1, (s10.1.2.2.2.2.2.2.2.2.2.2.2.2.2.2.2.2.2.2.2.2.1, (s10.1.2.2.2.2.2.2.2.2.2.2.2.2.2.2.2.2.2.2.2.2.2.1, (s10.1.2.2.2.2.2.2.2.2.2.2.2.2.2.2.2.2.2.2.2.2.2.2.1, (s10.1.2.2.2.2.2.2.2.2.2.2.2.2.2.2.2.2.2.2.2.2.2.2.2.1, (s10.1.2.2.2.2.2.2.2.2.2.2.2.2.2.2.2.2.2.2.2.2.2.2.2.2.1, (s10.1.2.2.2.2.2.2.2.2.2.2.2.2.2.2.2.2.2.2.2.2.2.2.2.2.2.1, ())))))))))))))))))))))))))), (s10.2.1.1, (s10.2.1.2.1, (s10.2.1.2.2.1, (s10.2.1.2.2.2.1, (s10.2.1.2.2.2.2.1, (s10.2.1.2.2.2.2.2.1, (s10.2.1.2.2.2.2.2.2.1, (s10.2.1.2.2.2.2.2.2.2.1, (s10.2.1.2.2.2.2.2.2.2.2.1, (s10.2.1.2.2.2.2.2.2.2.2.2.1, (s10.2.1.2.2.2.2.2.2.2.2.2.2.1, (s10.2.1.2.2.2.2.2.2.2.2.2.2.2.1, (s10.2.1.2.2.2.2.2.2.2.2.2.2.2.2.1, (s10.2.1.2.2.2.2.2.2.2.2.2.2.2.2.2.1, (s10.2.1.2.2.2.2.2.2.2.2.2.2.2.2.2.2.1, (s10.2.1.2.2.2.2.2.2.2.2.2.2.2.2.2.2.2.1, (s10.2.1.2.2.2.2.2.2.2.2.2.2.2.2.2.2.2.2.1, (s10.2.1.2.2.2.2.2.2.2.2.2.2.2.2.2.2.2.2.2.1, (s10.2.1.2.2.2.2.2.2.2.2.2.2.2.2.2.2.2.2.2.2.1, (s10.2.1.2.2.2.2.2.2.2.2.2.2.2.2.2.2.2.2.2.2.2.1, (s10.2.1.2.2.2.2.2.2.2.2.2.2.2.2.2.2.2.2.2.2.2.2.1, (s10.2.1.2.2.2.2.2.2.2.2.2.2.2.2.2.2.2.2.2.2.2.2.2.1, (s10.2.1.2.2.2.2.2.2.2.2.2.2.2.2.2.2.2.2.2.2.2.2.2.2.1, (s10.2.1.2.2.2.2.2.2.2.2.2.2.2.2.2.2.2.2.2.2.2.2.2.2.2.1, (s10.2.1.2.2.2.2.2.2.2.2.2.2.2.2.2.2.2.2.2.2.2.2.2.2.2.2.1, (s10.2.1.2.2.2.2.2.2.2.2.2.2.2.2.2.2.2.2.2.2.2.2.2.2.2.2.2.1, ())))))))))))))))))))))))))), ()) h11
def park_Rest.j2 (go9 : (Int × ((Int × (Int × (Int × (Int × (Int × (Int × (Int × (Int × (Int × ((Fin 64 → Den kparkLot) × (Int × (Int × (Int × (Int × (Int × (Int × (Int × (Int × (Int × (Int × (Int × (Int × (Int × (Bool × Den kparkLot)))))))))))))))))))))))) × ((Int × (Int × (Int × (Int × (Int × (Int × (Int × (Int × (Int × ((Fin 64 → Den kparkLot) × (Int × (Int × (Int × (Int × (Int × (Int × (Int × (Int × (Int × (Int × (Int × (Int × (Int × (Bool × Den kparkLot)))))))))))))))))))))))) × Unit))) → Heap → Prop) (s7 : (Int × ((Int × (Int × (Int × (Int × (Int × (Int × (Int × (Int × (Int × ((Fin 64 → Den kparkLot) × (Int × (Int × (Int × (Int × (Int × (Int × (Int × (Int × (Int × (Int × (Int × (Int × (Int × (Bool × Den kparkLot)))))))))))))))))))))))) × ((Int × (Int × (Int × (Int × (Int × (Int × (Int × (Int × (Int × ((Fin 64 → Den kparkLot) × (Int × (Int × (Int × (Int × (Int × (Int × (Int × (Int × (Int × (Int × (Int × (Int × (Int × (Bool × Den kparkLot)))))))))))))))))))))))) × Unit)))) (t13 : Den kparkLot) (s14 : ((Int × (Int × (Int × (Int × (Int × (Int × (Int × (Int × (Int × ((Fin 64 → Den kparkLot) × (Int × (Int × (Int × (Int × (Int × (Int × (Int × (Int × (Int × (Int × (Int × (Int × (Int × (Bool × Den kparkLot)))))))))))))))))))))))) × Unit)) (h15 : Heap) : Prop :=
    (0 ≤ s7.1 ∧ s7.1 < (64 : Int)) ∧
    park_Rest.j1 go9 s7 ((s14.1.1, (s14.1.2.1, (s14.1.2.2.1, (s14.1.2.2.2.1, (s14.1.2.2.2.2.1, (s14.1.2.2.2.2.2.1, (s14.1.2.2.2.2.2.2.1, (s14.1.2.2.2.2.2.2.2.1, (s14.1.2.2.2.2.2.2.2.2.1, (s14.1.2.2.2.2.2.2.2.2.2.1, (s14.1.2.2.2.2.2.2.2.2.2.2.1, (s14.1.2.2.2.2.2.2.2.2.2.2.2.1, (s14.1.2.2.2.2.2.2.2.2.2.2.2.2.1, (s14.1.2.2.2.2.2.2.2.2.2.2.2.2.2.1, (s14.1.2.2.2.2.2.2.2.2.2.2.2.2.2.2.1, (s14.1.2.2.2.2.2.2.2.2.2.2.2.2.2.2.2.1, (s14.1.2.2.2.2.2.2.2.2.2.2.2.2.2.2.2.2.1, (s14.1.2.2.2.2.2.2.2.2.2.2.2.2.2.2.2.2.2.1, (s14.1.2.2.2.2.2.2.2.2.2.2.2.2.2.2.2.2.2.2.1, (s14.1.2.2.2.2.2.2.2.2.2.2.2.2.2.2.2.2.2.2.2.1, (s14.1.2.2.2.2.2.2.2.2.2.2.2.2.2.2.2.2.2.2.2.2.1, (s14.1.2.2.2.2.2.2.2.2.2.2.2.2.2.2.2.2.2.2.2.2.2.1, (s14.1.2.2.2.2.2.2.2.2.2.2.2.2.2.2.2.2.2.2.2.2.2.2.1, (s14.1.2.2.2.2.2.2.2.2.2.2.2.2.2.2.2.2.2.2.2.2.2.2.2.1, (s14.1.2.2.2.2.2.2.2.2.2.2.2.2.2.2.2.2.2.2.2.2.2.2.2.2.1, (s14.1.2.2.2.2.2.2.2.2.2.2.2.2.2.2.2.2.2.2.2.2.2.2.2.2.2.1, ())))))))))))))))))))))))))), (s7.2.2.1.1, (s7.2.2.1.2.1, (s7.2.2.1.2.2.1, (s7.2.2.1.2.2.2.1, (s7.2.2.1.2.2.2.2.1, (s7.2.2.1.2.2.2.2.2.1, (s7.2.2.1.2.2.2.2.2.2.1, (s7.2.2.1.2.2.2.2.2.2.2.1, (s7.2.2.1.2.2.2.2.2.2.2.2.1, ((aset (n := 64) (a := kparkLot) s7.2.2.1.2.2.2.2.2.2.2.2.2.1 (s7.1 : Int).toNat (t13.1, (t13.2.1, ()))), (s7.2.2.1.2.2.2.2.2.2.2.2.2.2.1, (s7.2.2.1.2.2.2.2.2.2.2.2.2.2.2.1, (s7.2.2.1.2.2.2.2.2.2.2.2.2.2.2.2.1, (s7.2.2.1.2.2.2.2.2.2.2.2.2.2.2.2.2.1, (s7.2.2.1.2.2.2.2.2.2.2.2.2.2.2.2.2.2.1, (s7.2.2.1.2.2.2.2.2.2.2.2.2.2.2.2.2.2.2.1, (s7.2.2.1.2.2.2.2.2.2.2.2.2.2.2.2.2.2.2.2.1, (s7.2.2.1.2.2.2.2.2.2.2.2.2.2.2.2.2.2.2.2.2.1, (s7.2.2.1.2.2.2.2.2.2.2.2.2.2.2.2.2.2.2.2.2.2.1, (s7.2.2.1.2.2.2.2.2.2.2.2.2.2.2.2.2.2.2.2.2.2.2.1, (s7.2.2.1.2.2.2.2.2.2.2.2.2.2.2.2.2.2.2.2.2.2.2.2.1, (s7.2.2.1.2.2.2.2.2.2.2.2.2.2.2.2.2.2.2.2.2.2.2.2.2.1, (s7.2.2.1.2.2.2.2.2.2.2.2.2.2.2.2.2.2.2.2.2.2.2.2.2.2.1, (s7.2.2.1.2.2.2.2.2.2.2.2.2.2.2.2.2.2.2.2.2.2.2.2.2.2.2.1, (s7.2.2.1.2.2.2.2.2.2.2.2.2.2.2.2.2.2.2.2.2.2.2.2.2.2.2.2.1, (s7.2.2.1.2.2.2.2.2.2.2.2.2.2.2.2.2.2.2.2.2.2.2.2.2.2.2.2.2.1, ())))))))))))))))))))))))))), ()) h15
def park_Rest.j3 (Q : Den kparkOp → Heap → Prop) (go9 : (Int × ((Int × (Int × (Int × (Int × (Int × (Int × (Int × (Int × (Int × ((Fin 64 → Den kparkLot) × (Int × (Int × (Int × (Int × (Int × (Int × (Int × (Int × (Int × (Int × (Int × (Int × (Int × (Bool × Den kparkLot)))))))))))))))))))))))) × ((Int × (Int × (Int × (Int × (Int × (Int × (Int × (Int × (Int × ((Fin 64 → Den kparkLot) × (Int × (Int × (Int × (Int × (Int × (Int × (Int × (Int × (Int × (Int × (Int × (Int × (Int × (Bool × Den kparkLot)))))))))))))))))))))))) × Unit))) → Heap → Prop) (s7 : (Int × ((Int × (Int × (Int × (Int × (Int × (Int × (Int × (Int × (Int × ((Fin 64 → Den kparkLot) × (Int × (Int × (Int × (Int × (Int × (Int × (Int × (Int × (Int × (Int × (Int × (Int × (Int × (Bool × Den kparkLot)))))))))))))))))))))))) × ((Int × (Int × (Int × (Int × (Int × (Int × (Int × (Int × (Int × ((Fin 64 → Den kparkLot) × (Int × (Int × (Int × (Int × (Int × (Int × (Int × (Int × (Int × (Int × (Int × (Int × (Int × (Bool × Den kparkLot)))))))))))))))))))))))) × Unit)))) (t13 : Den kparkLot) (s16 : (Bool × Unit)) (h17 : Heap) : Prop :=
    ((s16.1 = true →
    Q (((0, (0, ())), (0, (0, (0, (0, (0, (0, (0, ())))))))), ((fun _ => (0, (0, ()))), ((0, (0, ((0, (0, ())), (0, (0, (0, (0, (0, (0, (0, (0, (0, (false, (0, (0, ()))))))))))))))), ()))) h17) ∧
    (s16.1 = false →
    park_Rest.j2 go9 s7 t13 ((s7.2.1.1, (s7.2.1.2.1, (s7.2.1.2.2.1, (s7.2.1.2.2.2.1, (s7.2.1.2.2.2.2.1, (s7.2.1.2.2.2.2.2.1, (s7.2.1.2.2.2.2.2.2.1, (s7.2.1.2.2.2.2.2.2.2.1, (s7.2.1.2.2.2.2.2.2.2.2.1, (s7.2.1.2.2.2.2.2.2.2.2.2.1, (s7.2.1.2.2.2.2.2.2.2.2.2.2.1, (s7.2.1.2.2.2.2.2.2.2.2.2.2.2.1, (s7.2.1.2.2.2.2.2.2.2.2.2.2.2.2.1, (s7.2.1.2.2.2.2.2.2.2.2.2.2.2.2.2.1, (s7.2.1.2.2.2.2.2.2.2.2.2.2.2.2.2.2.1, (s7.2.1.2.2.2.2.2.2.2.2.2.2.2.2.2.2.2.1, (s7.2.1.2.2.2.2.2.2.2.2.2.2.2.2.2.2.2.2.1, (s7.2.1.2.2.2.2.2.2.2.2.2.2.2.2.2.2.2.2.2.1, (s7.2.1.2.2.2.2.2.2.2.2.2.2.2.2.2.2.2.2.2.2.1, (s7.2.1.2.2.2.2.2.2.2.2.2.2.2.2.2.2.2.2.2.2.2.1, (s7.2.1.2.2.2.2.2.2.2.2.2.2.2.2.2.2.2.2.2.2.2.2.1, (s7.2.1.2.2.2.2.2.2.2.2.2.2.2.2.2.2.2.2.2.2.2.2.2.1, (s7.2.1.2.2.2.2.2.2.2.2.2.2.2.2.2.2.2.2.2.2.2.2.2.2.1, (s7.2.1.2.2.2.2.2.2.2.2.2.2.2.2.2.2.2.2.2.2.2.2.2.2.2.1, (s7.2.1.2.2.2.2.2.2.2.2.2.2.2.2.2.2.2.2.2.2.2.2.2.2.2.2.1, (s7.2.1.2.2.2.2.2.2.2.2.2.2.2.2.2.2.2.2.2.2.2.2.2.2.2.2.2.1, ())))))))))))))))))))))))))), ()) h17))
def park_Rest.l4 (Q : Den kparkOp → Heap → Prop) (s5 : (Int × (Sl × (Den kparkLot × ((Int × (Int × (Int × (Int × (Int × (Int × (Int × (Int × (Int × ((Fin 64 → Den kparkLot) × (Int × (Int × (Int × (Int × (Int × (Int × (Int × (Int × (Int × (Int × (Int × (Int × (Int × (Bool × Den kparkLot)))))))))))))))))))))))) × Unit))))) (go9 : (Int × ((Int × (Int × (Int × (Int × (Int × (Int × (Int × (Int × (Int × ((Fin 64 → Den kparkLot) × (Int × (Int × (Int × (Int × (Int × (Int × (Int × (Int × (Int × (Int × (Int × (Int × (Int × (Bool × Den kparkLot)))))))))))))))))))))))) × ((Int × (Int × (Int × (Int × (Int × (Int × (Int × (Int × (Int × ((Fin 64 → Den kparkLot) × (Int × (Int × (Int × (Int × (Int × (Int × (Int × (Int × (Int × (Int × (Int × (Int × (Int × (Bool × Den kparkLot)))))))))))))))))))))))) × Unit))) → Heap → Prop) (s7 : (Int × ((Int × (Int × (Int × (Int × (Int × (Int × (Int × (Int × (Int × ((Fin 64 → Den kparkLot) × (Int × (Int × (Int × (Int × (Int × (Int × (Int × (Int × (Int × (Int × (Int × (Int × (Int × (Bool × Den kparkLot)))))))))))))))))))))))) × ((Int × (Int × (Int × (Int × (Int × (Int × (Int × (Int × (Int × ((Fin 64 → Den kparkLot) × (Int × (Int × (Int × (Int × (Int × (Int × (Int × (Int × (Int × (Int × (Int × (Int × (Int × (Bool × Den kparkLot)))))))))))))))))))))))) × Unit)))) (h8 : Heap) : Prop :=
    (((decide (s7.1 < (s5.2.1.len : Int))) = true →
    (0 ≤ s7.1 ∧ s7.1 < (s5.2.1.len : Int)) ∧
    deref s5.2.1.a fun a12 =>
    ld kparkLot h8 (a12.add ((s7.1 : Int).toNat * 2)) fun t13 =>
    (((decide (s7.1 ≠ s5.1)) = true →
    (((decide (t13.2.1 < 1)) = true →
    park_Rest.j3 Q go9 s7 t13 (true, ()) h8) ∧
    ((decide (t13.2.1 < 1)) = false →
    park_Rest.j3 Q go9 s7 t13 ((decide ((4096 : Int) < t13.2.1)), ()) h8))) ∧
    ((decide (s7.1 ≠ s5.1)) = false →
    park_Rest.j3 Q go9 s7 t13 (false, ()) h8))) ∧
    ((decide (s7.1 < (s5.2.1.len : Int))) = false →
    Q (((s7.2.2.1.1, (s7.2.2.1.2.1, ())), (s7.2.2.1.2.2.1, (s7.2.2.1.2.2.2.1, (s7.2.2.1.2.2.2.2.1, (s7.2.2.1.2.2.2.2.2.1, (s7.2.2.1.2.2.2.2.2.2.1, (s7.2.2.1.2.2.2.2.2.2.2.1, (s7.2.2.1.2.2.2.2.2.2.2.2.1, ())))))))), (s7.2.2.1.2.2.2.2.2.2.2.2.2.1, ((s7.2.2.1.2.2.2.2.2.2.2.2.2.2.1, (s7.2.2.1.2.2.2.2.2.2.2.2.2.2.2.1, ((s7.2.2.1.2.2.2.2.2.2.2.2.2.2.2.2.1, (s7.2.2.1.2.2.2.2.2.2.2.2.2.2.2.2.2.1, ())), (s7.2.2.1.2.2.2.2.2.2.2.2.2.2.2.2.2.2.1, (s7.2.2.1.2.2.2.2.2.2.2.2.2.2.2.2.2.2.2.1, (s7.2.2.1.2.2.2.2.2.2.2.2.2.2.2.2.2.2.2.2.1, (s7.2.2.1.2.2.2.2.2.2.2.2.2.2.2.2.2.2.2.2.2.1, (s7.2.2.1.2.2.2.2.2.2.2.2.2.2.2.2.2.2.2.2.2.2.1, (s7.2.2.1.2.2.2.2.2.2.2.2.2.2.2.2.2.2.2.2.2.2.2.1, (s7.2.2.1.2.2.2.2.2.2.2.2.2.2.2.2.2.2.2.2.2.2.2.2.1, (s7.2.2.1.2.2.2.2.2.2.2.2.2.2.2.2.2.2.2.2.2.2.2.2.2.1, (s7.2.2.1.2.2.2.2.2.2.2.2.2.2.2.2.2.2.2.2.2.2.2.2.2.2.1, (s7.2.2.1.2.2.2.2.2.2.2.2.2.2.2.2.2.2.2.2.2.2.2.2.2.2.2.1, (s7.2.2.1.2.2.2.2.2.2.2.2.2.2.2.2.2.2.2.2.2.2.2.2.2.2.2.2.1, (s7.2.2.1.2.2.2.2.2.2.2.2.2.2.2.2.2.2.2.2.2.2.2.2.2.2.2.2.2.1, ()))))))))))))))), ()))) h8))
def park_Rest.k5 (Q : Den kparkOp → Heap → Prop) (s5 : (Int × (Sl × (Den kparkLot × ((Int × (Int × (Int × (Int × (Int × (Int × (Int × (Int × (Int × ((Fin 64 → Den kparkLot) × (Int × (Int × (Int × (Int × (Int × (Int × (Int × (Int × (Int × (Int × (Int × (Int × (Int × (Bool × Den kparkLot)))))))))))))))))))))))) × Unit))))) (h6 : Heap) : Prop :=
    Loop (park_Rest.l4 Q s5) (0, (s5.2.2.2.1.1, (s5.2.2.2.1.2.1, (s5.2.2.2.1.2.2.1, (s5.2.2.2.1.2.2.2.1, (s5.2.2.2.1.2.2.2.2.1, (s5.2.2.2.1.2.2.2.2.2.1, (s5.2.2.2.1.2.2.2.2.2.2.1, (s5.2.2.2.1.2.2.2.2.2.2.2.1, (s5.2.2.2.1.2.2.2.2.2.2.2.2.1, (s5.2.2.2.1.2.2.2.2.2.2.2.2.2.1, (s5.2.2.2.1.2.2.2.2.2.2.2.2.2.2.1, (s5.2.2.2.1.2.2.2.2.2.2.2.2.2.2.2.1, (s5.2.2.2.1.2.2.2.2.2.2.2.2.2.2.2.2.1, (s5.2.2.2.1.2.2.2.2.2.2.2.2.2.2.2.2.2.1, (s5.2.2.2.1.2.2.2.2.2.2.2.2.2.2.2.2.2.2.1, (s5.2.2.2.1.2.2.2.2.2.2.2.2.2.2.2.2.2.2.2.1, (s5.2.2.2.1.2.2.2.2.2.2.2.2.2.2.2.2.2.2.2.2.1, (s5.2.2.2.1.2.2.2.2.2.2.2.2.2.2.2.2.2.2.2.2.2.1, (s5.2.2.2.1.2.2.2.2.2.2.2.2.2.2.2.2.2.2.2.2.2.2.1, (s5.2.2.2.1.2.2.2.2.2.2.2.2.2.2.2.2.2.2.2.2.2.2.2.1, (s5.2.2.2.1.2.2.2.2.2.2.2.2.2.2.2.2.2.2.2.2.2.2.2.2.1, (s5.2.2.2.1.2.2.2.2.2.2.2.2.2.2.2.2.2.2.2.2.2.2.2.2.2.1, (s5.2.2.2.1.2.2.2.2.2.2.2.2.2.2.2.2.2.2.2.2.2.2.2.2.2.2.1, (s5.2.2.2.1.2.2.2.2.2.2.2.2.2.2.2.2.2.2.2.2.2.2.2.2.2.2.2.1, (s5.2.2.2.1.2.2.2.2.2.2.2.2.2.2.2.2.2.2.2.2.2.2.2.2.2.2.2.2.1, (s5.2.2.2.1.2.2.2.2.2.2.2.2.2.2.2.2.2.2.2.2.2.2.2.2.2.2.2.2.2.1, ())))))))))))))))))))))))))), (s5.2.2.1.1, (s5.2.2.1.2.1, (s5.1, (1, (1, (0, (0, (0, (0, ((fun _ => (0, (0, ()))), (0, (0, (0, (0, (0, (0, (0, (0, (0, (0, (0, (0, (0, (false, (0, (0, ())))))))))))))))))))))))))), ()) h6
def park_Rest.j6 (l1 : Den kparkLot) (self2 : Int) (deques3 : Sl) (Q : Den kparkOp → Heap → Prop) (s18 : (Bool × Unit)) (h19 : Heap) : Prop :=
    ((s18.1 = true →
    Q (((0, (0, ())), (0, (0, (0, (0, (0, (0, (0, ())))))))), ((fun _ => (0, (0, ()))), ((0, (0, ((0, (0, ())), (0, (0, (0, (0, (0, (0, (0, (0, (0, (false, (0, (0, ()))))))))))))))), ()))) h19) ∧
    (s18.1 = false →
    park_Rest.k5 Q (self2, deques3, (l1.1, (l1.2.1, ())), (0, (0, (0, (0, (0, (0, (0, (0, (0, ((fun _ => (0, (0, ()))), (0, (0, (0, (0, (0, (0, (0, (0, (0, (0, (0, (0, (0, (false, (0, (0, ())))))))))))))))))))))))))), ()) h19))
def park_Rest.M (c_park_Lot_right : Den kparkLot → Int → Heap → (Bool → Heap → Prop) → Prop) (l1 : Den kparkLot) (self2 : Int) (deques3 : Sl) (h4 : Heap) (Q : Den kparkOp → Heap → Prop) : Prop :=
    c_park_Lot_right (l1.1, (l1.2.1, ())) self2 h4 fun r20 h21 =>
    (((!r20) = true →
    park_Rest.j6 l1 self2 deques3 Q (true, ()) h21) ∧
    ((!r20) = false →
    park_Rest.j6 l1 self2 deques3 Q ((decide ((deques3.len : Int) ≠ l1.2.1)), ()) h21))
def park_Rest.mk : Mk := (.s (.r [0, 1]) (.k [.slot 1 (.int .i64), .slot 2 .sl, .box 3 kparkLot, .box 6 (.pair (.int .i64) (.pair (.int .i64) (.pair (.int .i64) (.pair (.int .i64) (.pair (.int .i64) (.pair (.int .i64) (.pair (.int .i64) (.pair (.int .i64) (.pair (.int .i64) (.pair (.arr 64 kparkLot) (.pair (.int .i64) (.pair (.int .i64) (.pair (.int .i64) (.pair (.int .i64) (.pair (.int .i64) (.pair (.int .i64) (.pair (.int .i64) (.pair (.int .i64) (.pair (.int .i64) (.pair (.int .i64) (.pair (.int .i64) (.pair (.int .i64) (.pair (.int .i64) (.pair .bool kparkLot))))))))))))))))))))))))] [(3, 3, 0), (6, 6, 0)] (.j [.slot 20 .bool] .d (.c (.s .d .d) .d)) (.s (.r [4]) (.s (.s .d (.b (.l [.slot 28 (.int .i64), .box 6 (.pair (.int .i64) (.pair (.int .i64) (.pair (.int .i64) (.pair (.int .i64) (.pair (.int .i64) (.pair (.int .i64) (.pair (.int .i64) (.pair (.int .i64) (.pair (.int .i64) (.pair (.arr 64 kparkLot) (.pair (.int .i64) (.pair (.int .i64) (.pair (.int .i64) (.pair (.int .i64) (.pair (.int .i64) (.pair (.int .i64) (.pair (.int .i64) (.pair (.int .i64) (.pair (.int .i64) (.pair (.int .i64) (.pair (.int .i64) (.pair (.int .i64) (.pair (.int .i64) (.pair .bool kparkLot)))))))))))))))))))))))), .box 7 (.pair (.int .i64) (.pair (.int .i64) (.pair (.int .i64) (.pair (.int .i64) (.pair (.int .i64) (.pair (.int .i64) (.pair (.int .i64) (.pair (.int .i64) (.pair (.int .i64) (.pair (.arr 64 kparkLot) (.pair (.int .i64) (.pair (.int .i64) (.pair (.int .i64) (.pair (.int .i64) (.pair (.int .i64) (.pair (.int .i64) (.pair (.int .i64) (.pair (.int .i64) (.pair (.int .i64) (.pair (.int .i64) (.pair (.int .i64) (.pair (.int .i64) (.pair (.int .i64) (.pair .bool kparkLot))))))))))))))))))))))))] (.s .d (.s (.c .d .d) (.j [.box 6 (.pair (.int .i64) (.pair (.int .i64) (.pair (.int .i64) (.pair (.int .i64) (.pair (.int .i64) (.pair (.int .i64) (.pair (.int .i64) (.pair (.int .i64) (.pair (.int .i64) (.pair (.arr 64 kparkLot) (.pair (.int .i64) (.pair (.int .i64) (.pair (.int .i64) (.pair (.int .i64) (.pair (.int .i64) (.pair (.int .i64) (.pair (.int .i64) (.pair (.int .i64) (.pair (.int .i64) (.pair (.int .i64) (.pair (.int .i64) (.pair (.int .i64) (.pair (.int .i64) (.pair .bool kparkLot)))))))))))))))))))))))), .box 7 (.pair (.int .i64) (.pair (.int .i64) (.pair (.int .i64) (.pair (.int .i64) (.pair (.int .i64) (.pair (.int .i64) (.pair (.int .i64) (.pair (.int .i64) (.pair (.int .i64) (.pair (.arr 64 kparkLot) (.pair (.int .i64) (.pair (.int .i64) (.pair (.int .i64) (.pair (.int .i64) (.pair (.int .i64) (.pair (.int .i64) (.pair (.int .i64) (.pair (.int .i64) (.pair (.int .i64) (.pair (.int .i64) (.pair (.int .i64) (.pair (.int .i64) (.pair (.int .i64) (.pair .bool kparkLot))))))))))))))))))))))))] (.b (.s (.r [3]) (.j [.box 6 (.pair (.int .i64) (.pair (.int .i64) (.pair (.int .i64) (.pair (.int .i64) (.pair (.int .i64) (.pair (.int .i64) (.pair (.int .i64) (.pair (.int .i64) (.pair (.int .i64) (.pair (.arr 64 kparkLot) (.pair (.int .i64) (.pair (.int .i64) (.pair (.int .i64) (.pair (.int .i64) (.pair (.int .i64) (.pair (.int .i64) (.pair (.int .i64) (.pair (.int .i64) (.pair (.int .i64) (.pair (.int .i64) (.pair (.int .i64) (.pair (.int .i64) (.pair (.int .i64) (.pair .bool kparkLot))))))))))))))))))))))))] (.j [.slot 45 .bool] .d (.c (.s .d .d) .d)) .d))) .d)))))) (.s .d .d)))))

def park_Wake.M (c_park_Lot_right : Den kparkLot → Int → Heap → (Bool → Heap → Prop) → Prop) (l1 : Den kparkLot) (self2 : Int) (h3 : Heap) (Q : Den kparkOp → Heap → Prop) : Prop :=
    c_park_Lot_right (l1.1, (l1.2.1, ())) self2 h3 fun r4 h5 =>
    (((!r4) = true →
    Q (((0, (0, ())), (0, (0, (0, (0, (0, (0, (0, ())))))))), ((fun _ => (0, (0, ()))), ((0, (0, ((0, (0, ())), (0, (0, (0, (0, (0, (0, (0, (0, (0, (false, (0, (0, ()))))))))))))))), ()))) h5) ∧
    ((!r4) = false →
    Q (((l1.1, (l1.2.1, ())), (self2, (2, (8, (1, (0, (0, (0, ())))))))), ((fun _ => (0, (0, ()))), ((0, (0, ((0, (0, ())), (0, (0, (0, (0, (0, (0, (0, (0, (0, (false, (0, (0, ()))))))))))))))), ()))) h5))
def park_Wake.mk : Mk := (.s (.r [0, 1]) (.s (.s .d (.c (.s .d .d) .d)) (.s .d .d)))

def ref9_Rest.j1 (go9 : (Int × ((Int × (Int × (Int × (Int × (Int × (Int × (Sl × Den klaw9Move))))))) × Unit)) → Heap → Prop) (s7 : (Int × ((Int × (Int × (Int × (Int × (Int × (Int × (Sl × Den klaw9Move))))))) × Unit))) (s10 : ((Int × (Int × (Int × (Int × (Int × (Int × (Sl × Den klaw9Move))))))) × Unit)) (h11 : Heap) : Prop :=
    go9 ((w64 (s7.1 + 1)), (s10.1.1, (s10.1.2.1, (s10.1.2.2.1, (s10.1.2.2.2.1, (s10.1.2.2.2.2.1, (s10.1.2.2.2.2.2.1, (s10.1.2.2.2.2.2.2.1, (s10.1.2.2.2.2.2.2.2.1, (s10.1.2.2.2.2.2.2.2.2.1, (s10.1.2.2.2.2.2.2.2.2.2.1, ())))))))))), ()) h11
def ref9_Rest.j2 (c_ref9_Dead : Heap → (Den kref9Op → Heap → Prop) → Prop) (Q : Den kref9Op → Heap → Prop) (go9 : (Int × ((Int × (Int × (Int × (Int × (Int × (Int × (Sl × Den klaw9Move))))))) × Unit)) → Heap → Prop) (s7 : (Int × ((Int × (Int × (Int × (Int × (Int × (Int × (Sl × Den klaw9Move))))))) × Unit))) (s12 : (Bool × Unit)) (h13 : Heap) : Prop :=
    ((s12.1 = true →
    c_ref9_Dead  h13 fun r14 h15 =>
    Q (r14.1, (r14.2.1, (r14.2.2.1, (r14.2.2.2.1, ((r14.2.2.2.2.1.1, (r14.2.2.2.2.1.2.1, ())), (r14.2.2.2.2.2.1, (r14.2.2.2.2.2.2.1, (r14.2.2.2.2.2.2.2.1, (r14.2.2.2.2.2.2.2.2.1, ()))))))))) h15) ∧
    (s12.1 = false →
    ref9_Rest.j1 go9 s7 ((s7.2.1.1, (s7.2.1.2.1, (s7.2.1.2.2.1, (s7.2.1.2.2.2.1, (s7.2.1.2.2.2.2.1, (s7.2.1.2.2.2.2.2.1, (s7.2.1.2.2.2.2.2.2.1, (s7.2.1.2.2.2.2.2.2.2.1, (s7.2.1.2.2.2.2.2.2.2.2.1, (s7.2.1.2.2.2.2.2.2.2.2.2.1, ())))))))))), ()) h13))
def ref9_Rest.l3 (c_ref9_Dead : Heap → (Den kref9Op → Heap → Prop) → Prop) (l1 : Den kparkLot) (self2 : Int) (ds3 : Sl) (Q : Den kref9Op → Heap → Prop) (go9 : (Int × ((Int × (Int × (Int × (Int × (Int × (Int × (Sl × Den klaw9Move))))))) × Unit)) → Heap → Prop) (s7 : (Int × ((Int × (Int × (Int × (Int × (Int × (Int × (Sl × Den klaw9Move))))))) × Unit))) (h8 : Heap) : Prop :=
    (((decide (s7.1 < (ds3.len : Int))) = true →
    (((decide (s7.1 ≠ self2)) = true →
    (0 ≤ s7.1 ∧ s7.1 < (ds3.len : Int)) ∧
    deref ds3.a fun a16 =>
    ld ((.int .i64) : Kd) h8 ((a16.add ((s7.1 : Int).toNat * 2)).add 1) fun t17 =>
    (((decide (t17 < 1)) = true →
    ref9_Rest.j2 c_ref9_Dead Q go9 s7 (true, ()) h8) ∧
    ((decide (t17 < 1)) = false →
    (0 ≤ s7.1 ∧ s7.1 < (ds3.len : Int)) ∧
    deref ds3.a fun a18 =>
    ld ((.int .i64) : Kd) h8 ((a18.add ((s7.1 : Int).toNat * 2)).add 1) fun t19 =>
    ref9_Rest.j2 c_ref9_Dead Q go9 s7 ((decide ((4096 : Int) < t19)), ()) h8))) ∧
    ((decide (s7.1 ≠ self2)) = false →
    ref9_Rest.j2 c_ref9_Dead Q go9 s7 (false, ()) h8))) ∧
    ((decide (s7.1 < (ds3.len : Int))) = false →
    new h8 (([] : List (Den kparkLot)).flatMap (Kd.cells kparkLot)) fun p20 h21 =>
    appendM 2 16 h21 ⟨some p20, 0, 0⟩ ds3 fun t22 h23 =>
    Q (1, (self2, (0, (0, ((l1.1, (l1.2.1, ())), (t22, (0, (0, (0, ()))))))))) h23))
def ref9_Rest.j4 (c_ref9_Dead : Heap → (Den kref9Op → Heap → Prop) → Prop) (l1 : Den kparkLot) (self2 : Int) (ds3 : Sl) (Q : Den kref9Op → Heap → Prop) (s5 : ((Int × (Int × (Int × (Int × (Int × (Int × (Sl × Den klaw9Move))))))) × Unit)) (h6 : Heap) : Prop :=
    Loop (ref9_Rest.l3 c_ref9_Dead l1 self2 ds3 Q) (0, (s5.1.1, (s5.1.2.1, (s5.1.2.2.1, (s5.1.2.2.2.1, (s5.1.2.2.2.2.1, (s5.1.2.2.2.2.2.1, (s5.1.2.2.2.2.2.2.1, (s5.1.2.2.2.2.2.2.2.1, (s5.1.2.2.2.2.2.2.2.2.1, (s5.1.2.2.2.2.2.2.2.2.2.1, ())))))))))), ()) h6
def ref9_Rest.j5 (c_ref9_Dead : Heap → (Den kref9Op → Heap → Prop) → Prop) (l1 : Den kparkLot) (self2 : Int) (ds3 : Sl) (Q : Den kref9Op → Heap → Prop) (s24 : (Bool × Unit)) (h25 : Heap) : Prop :=
    ((s24.1 = true →
    c_ref9_Dead  h25 fun r26 h27 =>
    Q (r26.1, (r26.2.1, (r26.2.2.1, (r26.2.2.2.1, ((r26.2.2.2.2.1.1, (r26.2.2.2.2.1.2.1, ())), (r26.2.2.2.2.2.1, (r26.2.2.2.2.2.2.1, (r26.2.2.2.2.2.2.2.1, (r26.2.2.2.2.2.2.2.2.1, ()))))))))) h27) ∧
    (s24.1 = false →
    ref9_Rest.j4 c_ref9_Dead l1 self2 ds3 Q ((0, (0, (0, (0, (0, (0, (Sl.none, (0, (0, (0, ())))))))))), ()) h25))
def ref9_Rest.M (c_ref9_Right : Den kparkLot → Heap → (Bool → Heap → Prop) → Prop) (c_ref9_Dead : Heap → (Den kref9Op → Heap → Prop) → Prop) (l1 : Den kparkLot) (self2 : Int) (ds3 : Sl) (h4 : Heap) (Q : Den kref9Op → Heap → Prop) : Prop :=
    c_ref9_Right (l1.1, (l1.2.1, ())) h4 fun r28 h29 =>
    (((!r28) = true →
    ref9_Rest.j5 c_ref9_Dead l1 self2 ds3 Q (true, ()) h29) ∧
    ((!r28) = false →
    (((decide (self2 < 0)) = true →
    ref9_Rest.j5 c_ref9_Dead l1 self2 ds3 Q (true, ()) h29) ∧
    ((decide (self2 < 0)) = false →
    (((decide (l1.2.1 ≤ self2)) = true →
    ref9_Rest.j5 c_ref9_Dead l1 self2 ds3 Q (true, ()) h29) ∧
    ((decide (l1.2.1 ≤ self2)) = false →
    ref9_Rest.j5 c_ref9_Dead l1 self2 ds3 Q ((decide ((ds3.len : Int) ≠ l1.2.1)), ()) h29))))))
def ref9_Rest.mk : Mk := (.s (.r [0, 1]) (.j [.box 6 (.pair (.int .i64) (.pair (.int .i64) (.pair (.int .i64) (.pair (.int .i64) (.pair (.int .i64) (.pair (.int .i64) (.pair .sl klaw9Move)))))))] (.j [.slot 27 .bool] .d (.c (.s .d .d) .d)) (.s (.s .d (.b (.l [.slot 7 (.int .i64), .box 6 (.pair (.int .i64) (.pair (.int .i64) (.pair (.int .i64) (.pair (.int .i64) (.pair (.int .i64) (.pair (.int .i64) (.pair .sl klaw9Move)))))))] (.s (.s .d (.c .d .d)) (.j [.box 6 (.pair (.int .i64) (.pair (.int .i64) (.pair (.int .i64) (.pair (.int .i64) (.pair (.int .i64) (.pair (.int .i64) (.pair .sl klaw9Move)))))))] (.b (.j [.slot 53 .bool] .d (.c (.s .d .d) .d))) .d))))) (.s (.q [] [6] [.p 0, .p 3, .w 1 [1, 5, 6], .o 2, .o 4, .p 5, .o 6]) .d))))

def ref9_Wake.j1 (l1 : Den kparkLot) (self2 : Int) (Q : Den kref9Op → Heap → Prop) (s4 : ((Int × (Int × (Int × (Int × (Int × (Int × (Sl × Den klaw9Move))))))) × Unit)) (h5 : Heap) : Prop :=
    Q (9, (self2, (0, (0, ((l1.1, (l1.2.1, ())), (Sl.none, (0, (0, (0, ()))))))))) h5
def ref9_Wake.j2 (c_ref9_Dead : Heap → (Den kref9Op → Heap → Prop) → Prop) (l1 : Den kparkLot) (self2 : Int) (Q : Den kref9Op → Heap → Prop) (s6 : (Bool × Unit)) (h7 : Heap) : Prop :=
    ((s6.1 = true →
    c_ref9_Dead  h7 fun r8 h9 =>
    Q (r8.1, (r8.2.1, (r8.2.2.1, (r8.2.2.2.1, ((r8.2.2.2.2.1.1, (r8.2.2.2.2.1.2.1, ())), (r8.2.2.2.2.2.1, (r8.2.2.2.2.2.2.1, (r8.2.2.2.2.2.2.2.1, (r8.2.2.2.2.2.2.2.2.1, ()))))))))) h9) ∧
    (s6.1 = false →
    ref9_Wake.j1 l1 self2 Q ((0, (0, (0, (0, (0, (0, (Sl.none, (0, (0, (0, ())))))))))), ()) h7))
def ref9_Wake.M (c_ref9_Right : Den kparkLot → Heap → (Bool → Heap → Prop) → Prop) (c_ref9_Dead : Heap → (Den kref9Op → Heap → Prop) → Prop) (l1 : Den kparkLot) (self2 : Int) (h3 : Heap) (Q : Den kref9Op → Heap → Prop) : Prop :=
    c_ref9_Right (l1.1, (l1.2.1, ())) h3 fun r10 h11 =>
    (((!r10) = true →
    ref9_Wake.j2 c_ref9_Dead l1 self2 Q (true, ()) h11) ∧
    ((!r10) = false →
    (((decide (self2 < 0)) = true →
    ref9_Wake.j2 c_ref9_Dead l1 self2 Q (true, ()) h11) ∧
    ((decide (self2 < 0)) = false →
    ref9_Wake.j2 c_ref9_Dead l1 self2 Q ((decide (l1.2.1 ≤ self2)), ()) h11))))
def ref9_Wake.mk : Mk := (.s (.r [0, 1]) (.j [.box 4 (.pair (.int .i64) (.pair (.int .i64) (.pair (.int .i64) (.pair (.int .i64) (.pair (.int .i64) (.pair (.int .i64) (.pair .sl klaw9Move)))))))] (.j [.slot 17 .bool] .d (.c (.s .d .d) .d)) (.s .d .d)))

def park_Peek.M (c_park_Cells : Int → Heap → (Int → Heap → Prop) → Prop) (l1 : Den kparkLot) (h2 : Heap) (Q : Den kparkOp → Heap → Prop) : Prop :=
    c_park_Cells l1.2.1 h2 fun r3 h4 =>
    (((decide (r3 = 0)) = true →
    Q (((0, (0, ())), (0, (0, (0, (0, (0, (0, (0, ())))))))), ((fun _ => (0, (0, ()))), ((0, (0, ((0, (0, ())), (0, (0, (0, (0, (0, (0, (0, (0, (0, (false, (0, (0, ()))))))))))))))), ()))) h4) ∧
    ((decide (r3 = 0)) = false →
    Q (((l1.1, (l1.2.1, ())), (0, (3, (3, (0, (0, (0, (0, ())))))))), ((fun _ => (0, (0, ()))), ((0, (0, ((0, (0, ())), (0, (0, (0, (0, (0, (0, (0, (0, (0, (false, (0, (0, ()))))))))))))))), ()))) h4))
def park_Peek.mk : Mk := (.s (.r [0, 1]) (.s (.s .d (.c (.s .d .d) .d)) (.s .d .d)))

def ref9_Peek.M (c_ref9_Right : Den kparkLot → Heap → (Bool → Heap → Prop) → Prop) (c_ref9_Dead : Heap → (Den kref9Op → Heap → Prop) → Prop) (l1 : Den kparkLot) (h2 : Heap) (Q : Den kref9Op → Heap → Prop) : Prop :=
    c_ref9_Right (l1.1, (l1.2.1, ())) h2 fun r3 h4 =>
    (((!r3) = true →
    c_ref9_Dead  h4 fun r5 h6 =>
    Q (r5.1, (r5.2.1, (r5.2.2.1, (r5.2.2.2.1, ((r5.2.2.2.2.1.1, (r5.2.2.2.2.1.2.1, ())), (r5.2.2.2.2.2.1, (r5.2.2.2.2.2.2.1, (r5.2.2.2.2.2.2.2.1, (r5.2.2.2.2.2.2.2.2.1, ()))))))))) h6) ∧
    ((!r3) = false →
    Q (12, (0, (0, (0, ((l1.1, (l1.2.1, ())), (Sl.none, (0, (0, (0, ()))))))))) h4))
def ref9_Peek.mk : Mk := (.s (.r [0, 1]) (.s (.s .d (.c (.s .d .d) .d)) (.s .d .d)))

def park_Finish.M (c_park_Lot_right : Den kparkLot → Int → Heap → (Bool → Heap → Prop) → Prop) (l1 : Den kparkLot) (self2 : Int) (h3 : Heap) (Q : Den kparkOp → Heap → Prop) : Prop :=
    c_park_Lot_right (l1.1, (l1.2.1, ())) self2 h3 fun r4 h5 =>
    (((!r4) = true →
    Q (((0, (0, ())), (0, (0, (0, (0, (0, (0, (0, ())))))))), ((fun _ => (0, (0, ()))), ((0, (0, ((0, (0, ())), (0, (0, (0, (0, (0, (0, (0, (0, (0, (false, (0, (0, ()))))))))))))))), ()))) h5) ∧
    ((!r4) = false →
    Q (((l1.1, (l1.2.1, ())), (self2, (4, (10, (1, (0, (0, (0, ())))))))), ((fun _ => (0, (0, ()))), ((0, (0, ((0, (0, ())), (0, (0, (0, (0, (0, (0, (0, (0, (0, (false, (0, (0, ()))))))))))))))), ()))) h5))
def park_Finish.mk : Mk := (.s (.r [0, 1]) (.s (.s .d (.c (.s .d .d) .d)) (.s .d .d)))

def ref9_Finish.j1 (l1 : Den kparkLot) (self2 : Int) (Q : Den kref9Op → Heap → Prop) (s4 : ((Int × (Int × (Int × (Int × (Int × (Int × (Sl × Den klaw9Move))))))) × Unit)) (h5 : Heap) : Prop :=
    Q (13, (self2, (0, (0, ((l1.1, (l1.2.1, ())), (Sl.none, (0, (0, (0, ()))))))))) h5
def ref9_Finish.j2 (c_ref9_Dead : Heap → (Den kref9Op → Heap → Prop) → Prop) (l1 : Den kparkLot) (self2 : Int) (Q : Den kref9Op → Heap → Prop) (s6 : (Bool × Unit)) (h7 : Heap) : Prop :=
    ((s6.1 = true →
    c_ref9_Dead  h7 fun r8 h9 =>
    Q (r8.1, (r8.2.1, (r8.2.2.1, (r8.2.2.2.1, ((r8.2.2.2.2.1.1, (r8.2.2.2.2.1.2.1, ())), (r8.2.2.2.2.2.1, (r8.2.2.2.2.2.2.1, (r8.2.2.2.2.2.2.2.1, (r8.2.2.2.2.2.2.2.2.1, ()))))))))) h9) ∧
    (s6.1 = false →
    ref9_Finish.j1 l1 self2 Q ((0, (0, (0, (0, (0, (0, (Sl.none, (0, (0, (0, ())))))))))), ()) h7))
def ref9_Finish.M (c_ref9_Right : Den kparkLot → Heap → (Bool → Heap → Prop) → Prop) (c_ref9_Dead : Heap → (Den kref9Op → Heap → Prop) → Prop) (l1 : Den kparkLot) (self2 : Int) (h3 : Heap) (Q : Den kref9Op → Heap → Prop) : Prop :=
    c_ref9_Right (l1.1, (l1.2.1, ())) h3 fun r10 h11 =>
    (((!r10) = true →
    ref9_Finish.j2 c_ref9_Dead l1 self2 Q (true, ()) h11) ∧
    ((!r10) = false →
    (((decide (self2 < 0)) = true →
    ref9_Finish.j2 c_ref9_Dead l1 self2 Q (true, ()) h11) ∧
    ((decide (self2 < 0)) = false →
    ref9_Finish.j2 c_ref9_Dead l1 self2 Q ((decide (l1.2.1 ≤ self2)), ()) h11))))
def ref9_Finish.mk : Mk := (.s (.r [0, 1]) (.j [.box 4 (.pair (.int .i64) (.pair (.int .i64) (.pair (.int .i64) (.pair (.int .i64) (.pair (.int .i64) (.pair (.int .i64) (.pair .sl klaw9Move)))))))] (.j [.slot 17 .bool] .d (.c (.s .d .d) .d)) (.s .d .d)))

def ref9_Dead.M   (h1 : Heap) (Q : Den kref9Op → Heap → Prop) : Prop :=
    Q (0, (0, (0, (0, ((0, (0, ())), (Sl.none, (0, (1, (0, ()))))))))) h1
def ref9_Dead.mk : Mk := (.s (.r [0]) (.s .d .d))

def park_state_over.M  (s1 : Option Addr) (code2 : Int) (v3 : Int) (h4 : Heap) (Q : Unit → Heap → Prop) : Prop :=
    deref s1 fun a5 =>
    st ((.int .i64) : Kd) h4 (a5.add 4) 0 fun h6 =>
    deref s1 fun a7 =>
    st ((.int .i64) : Kd) h6 (a7.add 7) code2 fun h8 =>
    deref s1 fun a9 =>
    st ((.int .i64) : Kd) h8 (a9.add 8) v3 fun h10 =>
    Q () h10
def park_state_over.mk : Mk := .d

def park_Op_looked.j1 (Q : Den kparkOp → Heap → Prop) (p4 : Addr) (s13 : ((Int × (Int × (Int × (Int × (Int × (Int × (Int × (Int × (Int × ((Fin 64 → Den kparkLot) × (Int × (Int × (Int × (Int × (Int × (Int × (Int × (Int × (Int × (Int × (Int × (Int × (Int × (Bool × Den kparkLot)))))))))))))))))))))))) × Unit)) (h14 : Heap) : Prop :=
    ld kparkOp h14 p4 fun t15 =>
    Q (((t15.1.1.1, (t15.1.1.2.1, ())), (t15.1.2.1, (t15.1.2.2.1, (t15.1.2.2.2.1, (t15.1.2.2.2.2.1, (t15.1.2.2.2.2.2.1, (t15.1.2.2.2.2.2.2.1, (t15.1.2.2.2.2.2.2.2.1, ())))))))), (t15.2.1, ((t15.2.2.1.1, (t15.2.2.1.2.1, ((t15.2.2.1.2.2.1.1, (t15.2.2.1.2.2.1.2.1, ())), (t15.2.2.1.2.2.2.1, (t15.2.2.1.2.2.2.2.1, (t15.2.2.1.2.2.2.2.2.1, (t15.2.2.1.2.2.2.2.2.2.1, (t15.2.2.1.2.2.2.2.2.2.2.1, (t15.2.2.1.2.2.2.2.2.2.2.2.1, (t15.2.2.1.2.2.2.2.2.2.2.2.2.1, (t15.2.2.1.2.2.2.2.2.2.2.2.2.2.1, (t15.2.2.1.2.2.2.2.2.2.2.2.2.2.2.1, (t15.2.2.1.2.2.2.2.2.2.2.2.2.2.2.2.1, (t15.2.2.1.2.2.2.2.2.2.2.2.2.2.2.2.2.1, (t15.2.2.1.2.2.2.2.2.2.2.2.2.2.2.2.2.2.1, ()))))))))))))))), ()))) h14
def park_Op_looked.M (c_deque_Step : Value → Den kdequeOp → Heap → (Den kdequeOp → Heap → Prop) → Prop) (c_deque_Answer : Den kdequeOp → Heap → (Den kparkLot → Heap → Prop) → Prop) (c_park_state_back : Option Addr → Int → Heap → (Unit → Heap → Prop) → Prop) (c_park_Op_around : Den kparkOp → Heap → (Den kparkOp → Heap → Prop) → Prop) (c_park_state_over : Option Addr → Int → Int → Heap → (Unit → Heap → Prop) → Prop) (o1 : Den kparkOp) (m2 : Value) (h3 : Heap) (Q : Den kparkOp → Heap → Prop) : Prop :=
    new h3 (kparkOp.cells o1) fun p4 h5 =>
    ld kdequeOp h5 (p4.add 137) fun t6 =>
    c_deque_Step m2 t6 h5 fun r7 h8 =>
    st kdequeOp h8 (p4.add 137) r7 fun h9 =>
    ld kdequeOp h9 (p4.add 137) fun t10 =>
    c_deque_Answer t10 h9 fun r11 h12 =>
    (((decide (r11.1 = 0)) = true →
    park_Op_looked.j1 Q p4 ((0, (0, (0, (0, (0, (0, (0, (0, (0, ((fun _ => (0, (0, ()))), (0, (0, (0, (0, (0, (0, (0, (0, (0, (0, (0, (0, (0, (false, (0, (0, ())))))))))))))))))))))))))), ()) h12) ∧
    ((decide (r11.1 = 0)) = false →
    (((decide (r11.1 = 7)) = true →
    c_park_state_back (some (p4.add 0)) 16 h12 fun r16 h17 =>
    park_Op_looked.j1 Q p4 ((0, (0, (0, (0, (0, (0, (0, (0, (0, ((fun _ => (0, (0, ()))), (0, (0, (0, (0, (0, (0, (0, (0, (0, (0, (0, (0, (0, (false, (0, (0, ())))))))))))))))))))))))))), ()) h17) ∧
    ((decide (r11.1 = 7)) = false →
    (((decide (r11.1 = 8)) = true →
    ld kparkOp h12 p4 fun t18 =>
    c_park_Op_around t18 h12 fun r19 h20 =>
    Q (((r19.1.1.1, (r19.1.1.2.1, ())), (r19.1.2.1, (r19.1.2.2.1, (r19.1.2.2.2.1, (r19.1.2.2.2.2.1, (r19.1.2.2.2.2.2.1, (r19.1.2.2.2.2.2.2.1, (r19.1.2.2.2.2.2.2.2.1, ())))))))), (r19.2.1, ((r19.2.2.1.1, (r19.2.2.1.2.1, ((r19.2.2.1.2.2.1.1, (r19.2.2.1.2.2.1.2.1, ())), (r19.2.2.1.2.2.2.1, (r19.2.2.1.2.2.2.2.1, (r19.2.2.1.2.2.2.2.2.1, (r19.2.2.1.2.2.2.2.2.2.1, (r19.2.2.1.2.2.2.2.2.2.2.1, (r19.2.2.1.2.2.2.2.2.2.2.2.1, (r19.2.2.1.2.2.2.2.2.2.2.2.2.1, (r19.2.2.1.2.2.2.2.2.2.2.2.2.2.1, (r19.2.2.1.2.2.2.2.2.2.2.2.2.2.2.1, (r19.2.2.1.2.2.2.2.2.2.2.2.2.2.2.2.1, (r19.2.2.1.2.2.2.2.2.2.2.2.2.2.2.2.2.1, (r19.2.2.1.2.2.2.2.2.2.2.2.2.2.2.2.2.2.1, ()))))))))))))))), ()))) h20) ∧
    ((decide (r11.1 = 8)) = false →
    c_park_state_over (some (p4.add 0)) 1 0 h12 fun r21 h22 =>
    park_Op_looked.j1 Q p4 ((0, (0, (0, (0, (0, (0, (0, (0, (0, ((fun _ => (0, (0, ()))), (0, (0, (0, (0, (0, (0, (0, (0, (0, (0, (0, (0, (0, (false, (0, (0, ())))))))))))))))))))))))))), ()) h22))))))
def park_Op_looked.mk : Mk := (.s (.r [1]) (.s .d (.s .d (.j [.box 4 (.pair (.int .i64) (.pair (.int .i64) (.pair (.int .i64) (.pair (.int .i64) (.pair (.int .i64) (.pair (.int .i64) (.pair (.int .i64) (.pair (.int .i64) (.pair (.int .i64) (.pair (.arr 64 kparkLot) (.pair (.int .i64) (.pair (.int .i64) (.pair (.int .i64) (.pair (.int .i64) (.pair (.int .i64) (.pair (.int .i64) (.pair (.int .i64) (.pair (.int .i64) (.pair (.int .i64) (.pair (.int .i64) (.pair (.int .i64) (.pair (.int .i64) (.pair (.int .i64) (.pair .bool kparkLot))))))))))))))))))))))))] (.s .d (.b (.s .d (.c .d (.s .d (.c .d (.s .d (.c (.s .d .d) .d)))))))) (.s .d .d)))))

def park_state_access.M (c_park_state_flag : Option Addr → Int → Heap → (Int → Heap → Prop) → Prop) (c_inv_Store : Value → Int → Int → Heap → (Int → Heap → Prop) → Prop) (c_inv_Add : Value → Int → Int → Heap → (Den kparkLot → Heap → Prop) → Prop) (c_inv_Load : Value → Int → Heap → (Den kparkLot → Heap → Prop) → Prop) (c_fn : Value → Int → Heap → (Den kparkLot → Heap → Prop) → Prop) (c_park_state_other : Option Addr → Heap → (Int → Heap → Prop) → Prop) (c_nil : Value → Prop) (s1 : Option Addr) (m2 : Value) (h3 : Heap) (Q : Den kparkLot → Heap → Prop) : Prop :=
    new h3 ((.ptr : Kd).cells s1) fun p4 h5 =>
    ones (.iface : Kd) m2 ∧
    new h5 ((.iface : Kd).cells m2) fun p6 h7 =>
    ld (.ptr : Kd) h7 p4 fun t8 =>
    deref t8 fun a9 =>
    ld ((.int .i64) : Kd) h7 (a9.add 4) fun t10 =>
    (((decide (t10 = 1)) = true →
    ld (.iface : Kd) h7 p6 fun t11 =>
    c_nil (Value.func (.method "Store") (List.toArray [Kd.val (.iface : Kd) t11]) (List.toArray [])) ∧
    ld (.ptr : Kd) h7 p4 fun t12 =>
    ld (.ptr : Kd) h7 p4 fun t13 =>
    deref t13 fun a14 =>
    ld ((.int .i64) : Kd) h7 (a14.add 2) fun t15 =>
    c_park_state_flag t12 t15 h7 fun r16 h17 =>
    sees h17 (some p6) (.iface : Kd) t11 ∧
    c_inv_Store t11 r16 1 h17 fun r18 h19 =>
    Q (0, r18, ()) h19) ∧
    ((decide (t10 = 1)) = false →
    (((decide (t10 = 2)) = true →
    ld (.iface : Kd) h7 p6 fun t20 =>
    c_nil (Value.func (.method "Add") (List.toArray [Kd.val (.iface : Kd) t20]) (List.toArray [])) ∧
    ld (.ptr : Kd) h7 p4 fun t21 =>
    deref t21 fun a22 =>
    ld ((.int .i64) : Kd) h7 ((a22.add 0).add 0) fun t23 =>
    c_inv_Add t20 (w64 (t23 + 0)) 1 h7 fun r24 h25 =>
    Q (r24.1, r24.2.1, ()) h25) ∧
    ((decide (t10 = 2)) = false →
    (((decide (t10 = 3)) = true →
    ld (.iface : Kd) h7 p6 fun t26 =>
    c_nil (Value.func (.method "Load") (List.toArray [Kd.val (.iface : Kd) t26]) (List.toArray [])) ∧
    ld (.ptr : Kd) h7 p4 fun t27 =>
    deref t27 fun a28 =>
    ld ((.int .i64) : Kd) h7 ((a28.add 0).add 0) fun t29 =>
    c_inv_Load t26 (w64 (t29 + 1)) h7 fun r30 h31 =>
    Q (r30.1, r30.2.1, ()) h31) ∧
    ((decide (t10 = 3)) = false →
    (((decide (t10 = 5)) = true →
    ld (.iface : Kd) h7 p6 fun t32 =>
    c_nil (Value.func (.method "Load") (List.toArray [Kd.val (.iface : Kd) t32]) (List.toArray [])) ∧
    ld (.ptr : Kd) h7 p4 fun t33 =>
    ld (.ptr : Kd) h7 p4 fun t34 =>
    deref t34 fun a35 =>
    ld ((.int .i64) : Kd) h7 (a35.add 2) fun t36 =>
    c_park_state_flag t33 t36 h7 fun r37 h38 =>
    sees h38 (some p6) (.iface : Kd) t32 ∧
    c_inv_Load t32 r37 h38 fun r39 h40 =>
    Q (r39.1, r39.2.1, ()) h40) ∧
    ((decide (t10 = 5)) = false →
    (((decide (t10 = 6)) = true →
    ld (.ptr : Kd) h7 p4 fun t41 =>
    deref t41 fun a42 =>
    ld ((.int .i64) : Kd) h7 (a42.add 2) fun t43 =>
    c_fn (Value.func (.func 67) (List.toArray []) (List.toArray [Kd.val (.ptr : Kd) (some p6), Kd.val (.ptr : Kd) (some p4)])) t43 h7 fun r44 h45 =>
    Q (r44.1, r44.2.1, ()) h45) ∧
    ((decide (t10 = 6)) = false →
    (((decide (t10 = 7)) = true →
    ld (.iface : Kd) h7 p6 fun t46 =>
    c_nil (Value.func (.method "Add") (List.toArray [Kd.val (.iface : Kd) t46]) (List.toArray [])) ∧
    ld (.ptr : Kd) h7 p4 fun t47 =>
    deref t47 fun a48 =>
    ld ((.int .i64) : Kd) h7 ((a48.add 0).add 0) fun t49 =>
    c_inv_Add t46 (w64 (t49 + 0)) (-1) h7 fun r50 h51 =>
    Q (r50.1, r50.2.1, ()) h51) ∧
    ((decide (t10 = 7)) = false →
    (((decide (t10 = 8)) = true →
    ld (.iface : Kd) h7 p6 fun t52 =>
    c_nil (Value.func (.method "Load") (List.toArray [Kd.val (.iface : Kd) t52]) (List.toArray [])) ∧
    ld (.ptr : Kd) h7 p4 fun t53 =>
    deref t53 fun a54 =>
    ld ((.int .i64) : Kd) h7 ((a54.add 0).add 0) fun t55 =>
    c_inv_Load t52 (w64 (t55 + 0)) h7 fun r56 h57 =>
    Q (r56.1, r56.2.1, ()) h57) ∧
    ((decide (t10 = 8)) = false →
    (((decide (t10 = 9)) = true →
    ld (.ptr : Kd) h7 p4 fun t58 =>
    c_park_state_other t58 h7 fun r59 h60 =>
    c_fn (Value.func (.func 67) (List.toArray []) (List.toArray [Kd.val (.ptr : Kd) (some p6), Kd.val (.ptr : Kd) (some p4)])) r59 h60 fun r61 h62 =>
    Q (r61.1, r61.2.1, ()) h62) ∧
    ((decide (t10 = 9)) = false →
    ld (.iface : Kd) h7 p6 fun t63 =>
    c_nil (Value.func (.method "Store") (List.toArray [Kd.val (.iface : Kd) t63]) (List.toArray [])) ∧
    ld (.ptr : Kd) h7 p4 fun t64 =>
    deref t64 fun a65 =>
    ld ((.int .i64) : Kd) h7 ((a65.add 0).add 0) fun t66 =>
    c_inv_Store t63 (w64 (t66 + 1)) 1 h7 fun r67 h68 =>
    Q (0, r67, ()) h68))))))))))))))))
def park_state_access.mk : Mk := (.s .d (.s .d (.s (.s .d (.b (.s .d (.c (.s (.q [] [] [.w 0 [0, 7, 8, 9, 10, 11, 12], .p 7, .p 8, .p 9, .w 1 [1, 6, 10, 11, 12], .w 2 [2, 3, 4, 5, 6, 10, 11, 12], .p 3, .p 4, .w 5 [5, 6, 10, 11, 12], .o 6, .o 10, .p 11, .p 12]) .d) (.s .d (.c (.s (.q [] [] [.w 0 [0, 7, 8, 9, 10, 11, 12, 13, 14], .p 7, .p 8, .p 9, .w 1 [1, 2, 3, 4, 5, 6, 10, 11, 12, 13, 14], .p 2, .p 3, .p 4, .w 5 [5, 6, 10, 11, 12, 13, 14], .p 6, .o 10, .p 11, .p 12, .p 13, .p 14]) .d) (.s .d (.c (.s (.q [] [] [.w 0 [0, 7, 8, 9, 10, 11, 12, 13, 14], .p 7, .p 8, .p 9, .w 1 [1, 2, 3, 4, 5, 6, 10, 11, 12, 13, 14], .p 2, .p 3, .p 4, .w 5 [5, 6, 10, 11, 12, 13, 14], .p 6, .o 10, .p 11, .p 12, .p 13, .p 14]) .d) (.s .d (.c (.s (.q [] [] [.w 0 [0, 7, 8, 9, 10, 11, 12, 13, 14], .p 7, .p 8, .p 9, .w 1 [1, 6, 10, 11, 12, 13, 14], .w 2 [2, 3, 4, 5, 6, 10, 11, 12, 13, 14], .p 3, .p 4, .w 5 [5, 6, 10, 11, 12, 13, 14], .o 6, .o 10, .p 11, .p 12, .p 13, .p 14]) .d) (.s .d (.c (.s .d .d) (.s .d (.c (.s (.q [] [] [.w 0 [0, 7, 8, 9, 10, 11, 12, 13, 14], .p 7, .p 8, .p 9, .w 1 [1, 2, 3, 4, 5, 6, 10, 11, 12, 13, 14], .p 2, .p 3, .p 4, .w 5 [5, 6, 10, 11, 12, 13, 14], .p 6, .o 10, .p 11, .p 12, .p 13, .p 14]) .d) (.s .d (.c (.s (.q [] [] [.w 0 [0, 7, 8, 9, 10, 11, 12, 13, 14], .p 7, .p 8, .p 9, .w 1 [1, 2, 3, 4, 5, 6, 10, 11, 12, 13, 14], .p 2, .p 3, .p 4, .w 5 [5, 6, 10, 11, 12, 13, 14], .p 6, .o 10, .p 11, .p 12, .p 13, .p 14]) .d) (.s .d (.c (.s .d .d) .d)))))))))))))))))) (.s (.q [] [] [.w 0 [0, 7, 8, 9, 10, 11, 12], .p 7, .p 8, .p 9, .w 1 [1, 2, 3, 4, 5, 6, 10, 11, 12], .p 2, .p 3, .p 4, .w 5 [5, 6, 10, 11, 12], .p 6, .o 10, .p 11, .p 12]) .d))))

def park_Op_rested.j1 (Q : Den kparkOp → Heap → Prop) (p4 : Addr) (s6 : ((Int × (Int × (Int × (Int × (Int × (Int × (Int × (Int × (Int × ((Fin 64 → Den kparkLot) × (Int × (Int × (Int × (Int × (Int × (Int × (Int × (Int × (Int × (Int × (Int × (Int × (Int × (Bool × Den kparkLot)))))))))))))))))))))))) × Unit)) (h7 : Heap) : Prop :=
    ld kparkOp h7 p4 fun t8 =>
    Q (((t8.1.1.1, (t8.1.1.2.1, ())), (t8.1.2.1, (t8.1.2.2.1, (t8.1.2.2.2.1, (t8.1.2.2.2.2.1, (t8.1.2.2.2.2.2.1, (t8.1.2.2.2.2.2.2.1, (t8.1.2.2.2.2.2.2.2.1, ())))))))), (t8.2.1, ((t8.2.2.1.1, (t8.2.2.1.2.1, ((t8.2.2.1.2.2.1.1, (t8.2.2.1.2.2.1.2.1, ())), (t8.2.2.1.2.2.2.1, (t8.2.2.1.2.2.2.2.1, (t8.2.2.1.2.2.2.2.2.1, (t8.2.2.1.2.2.2.2.2.2.1, (t8.2.2.1.2.2.2.2.2.2.2.1, (t8.2.2.1.2.2.2.2.2.2.2.2.1, (t8.2.2.1.2.2.2.2.2.2.2.2.2.1, (t8.2.2.1.2.2.2.2.2.2.2.2.2.2.1, (t8.2.2.1.2.2.2.2.2.2.2.2.2.2.2.1, (t8.2.2.1.2.2.2.2.2.2.2.2.2.2.2.2.1, (t8.2.2.1.2.2.2.2.2.2.2.2.2.2.2.2.2.1, (t8.2.2.1.2.2.2.2.2.2.2.2.2.2.2.2.2.2.1, ()))))))))))))))), ()))) h7
def park_Op_rested.M (c_park_Op_around : Den kparkOp → Heap → (Den kparkOp → Heap → Prop) → Prop) (c_park_state_back : Option Addr → Int → Heap → (Unit → Heap → Prop) → Prop) (c_park_state_over : Option Addr → Int → Int → Heap → (Unit → Heap → Prop) → Prop) (o1 : Den kparkOp) (got2 : Int) (h3 : Heap) (Q : Den kparkOp → Heap → Prop) : Prop :=
    new h3 (kparkOp.cells o1) fun p4 h5 =>
    ld ((.int .i64) : Kd) h5 ((p4.add 0).add 4) fun t9 =>
    (((decide (t9 = 1)) = true →
    st ((.int .i64) : Kd) h5 ((p4.add 0).add 4) 2 fun h10 =>
    park_Op_rested.j1 Q p4 ((0, (0, (0, (0, (0, (0, (0, (0, (0, ((fun _ => (0, (0, ()))), (0, (0, (0, (0, (0, (0, (0, (0, (0, (0, (0, (0, (0, (false, (0, (0, ())))))))))))))))))))))))))), ()) h10) ∧
    ((decide (t9 = 1)) = false →
    (((decide (t9 = 2)) = true →
    st ((.int .i64) : Kd) h5 ((p4.add 0).add 4) 3 fun h11 =>
    park_Op_rested.j1 Q p4 ((0, (0, (0, (0, (0, (0, (0, (0, (0, ((fun _ => (0, (0, ()))), (0, (0, (0, (0, (0, (0, (0, (0, (0, (0, (0, (0, (0, (false, (0, (0, ())))))))))))))))))))))))))), ()) h11) ∧
    ((decide (t9 = 2)) = false →
    (((decide (t9 = 3)) = true →
    (((decide (got2 ≠ 1)) = true →
    ld kparkOp h5 p4 fun t12 =>
    c_park_Op_around t12 h5 fun r13 h14 =>
    Q (((r13.1.1.1, (r13.1.1.2.1, ())), (r13.1.2.1, (r13.1.2.2.1, (r13.1.2.2.2.1, (r13.1.2.2.2.2.1, (r13.1.2.2.2.2.2.1, (r13.1.2.2.2.2.2.2.1, (r13.1.2.2.2.2.2.2.2.1, ())))))))), (r13.2.1, ((r13.2.2.1.1, (r13.2.2.1.2.1, ((r13.2.2.1.2.2.1.1, (r13.2.2.1.2.2.1.2.1, ())), (r13.2.2.1.2.2.2.1, (r13.2.2.1.2.2.2.2.1, (r13.2.2.1.2.2.2.2.2.1, (r13.2.2.1.2.2.2.2.2.2.1, (r13.2.2.1.2.2.2.2.2.2.2.1, (r13.2.2.1.2.2.2.2.2.2.2.2.1, (r13.2.2.1.2.2.2.2.2.2.2.2.2.1, (r13.2.2.1.2.2.2.2.2.2.2.2.2.2.1, (r13.2.2.1.2.2.2.2.2.2.2.2.2.2.2.1, (r13.2.2.1.2.2.2.2.2.2.2.2.2.2.2.2.1, (r13.2.2.1.2.2.2.2.2.2.2.2.2.2.2.2.2.1, (r13.2.2.1.2.2.2.2.2.2.2.2.2.2.2.2.2.2.1, ()))))))))))))))), ()))) h14) ∧
    ((decide (got2 ≠ 1)) = false →
    c_park_state_back (some (p4.add 0)) 17 h5 fun r15 h16 =>
    park_Op_rested.j1 Q p4 ((0, (0, (0, (0, (0, (0, (0, (0, (0, ((fun _ => (0, (0, ()))), (0, (0, (0, (0, (0, (0, (0, (0, (0, (0, (0, (0, (0, (false, (0, (0, ())))))))))))))))))))))))))), ()) h16))) ∧
    ((decide (t9 = 3)) = false →
    (((decide (t9 = 5)) = true →
    (((decide (got2 ≠ 1)) = true →
    c_park_state_over (some (p4.add 0)) 16 0 h5 fun r17 h18 =>
    park_Op_rested.j1 Q p4 ((0, (0, (0, (0, (0, (0, (0, (0, (0, ((fun _ => (0, (0, ()))), (0, (0, (0, (0, (0, (0, (0, (0, (0, (0, (0, (0, (0, (false, (0, (0, ())))))))))))))))))))))))))), ()) h18) ∧
    ((decide (got2 ≠ 1)) = false →
    park_Op_rested.j1 Q p4 ((0, (0, (0, (0, (0, (0, (0, (0, (0, ((fun _ => (0, (0, ()))), (0, (0, (0, (0, (0, (0, (0, (0, (0, (0, (0, (0, (0, (false, (0, (0, ())))))))))))))))))))))))))), ()) h5))) ∧
    ((decide (t9 = 5)) = false →
    (((decide (t9 = 6)) = true →
    st ((.int .i64) : Kd) h5 ((p4.add 0).add 4) 7 fun h19 =>
    (((decide (got2 ≠ 1)) = true →
    ld ((.int .i64) : Kd) h19 ((p4.add 0).add 6) fun t20 =>
    c_park_state_over (some (p4.add 0)) t20 0 h19 fun r21 h22 =>
    park_Op_rested.j1 Q p4 ((0, (0, (0, (0, (0, (0, (0, (0, (0, ((fun _ => (0, (0, ()))), (0, (0, (0, (0, (0, (0, (0, (0, (0, (0, (0, (0, (0, (false, (0, (0, ())))))))))))))))))))))))))), ()) h22) ∧
    ((decide (got2 ≠ 1)) = false →
    park_Op_rested.j1 Q p4 ((0, (0, (0, (0, (0, (0, (0, (0, (0, ((fun _ => (0, (0, ()))), (0, (0, (0, (0, (0, (0, (0, (0, (0, (0, (0, (0, (0, (false, (0, (0, ())))))))))))))))))))))))))), ()) h19))) ∧
    ((decide (t9 = 6)) = false →
    (((decide (t9 = 7)) = true →
    ld ((.int .i64) : Kd) h5 ((p4.add 0).add 6) fun t23 =>
    c_park_state_over (some (p4.add 0)) t23 0 h5 fun r24 h25 =>
    park_Op_rested.j1 Q p4 ((0, (0, (0, (0, (0, (0, (0, (0, (0, ((fun _ => (0, (0, ()))), (0, (0, (0, (0, (0, (0, (0, (0, (0, (0, (0, (0, (0, (false, (0, (0, ())))))))))))))))))))))))))), ()) h25) ∧
    ((decide (t9 = 7)) = false →
    park_Op_rested.j1 Q p4 ((0, (0, (0, (0, (0, (0, (0, (0, (0, ((fun _ => (0, (0, ()))), (0, (0, (0, (0, (0, (0, (0, (0, (0, (0, (0, (0, (0, (false, (0, (0, ())))))))))))))))))))))))))), ()) h5))))))))))))
def park_Op_rested.mk : Mk := (.s (.r [1]) (.j [.box 4 (.pair (.int .i64) (.pair (.int .i64) (.pair (.int .i64) (.pair (.int .i64) (.pair (.int .i64) (.pair (.int .i64) (.pair (.int .i64) (.pair (.int .i64) (.pair (.int .i64) (.pair (.arr 64 kparkLot) (.pair (.int .i64) (.pair (.int .i64) (.pair (.int .i64) (.pair (.int .i64) (.pair (.int .i64) (.pair (.int .i64) (.pair (.int .i64) (.pair (.int .i64) (.pair (.int .i64) (.pair (.int .i64) (.pair (.int .i64) (.pair (.int .i64) (.pair (.int .i64) (.pair .bool kparkLot))))))))))))))))))))))))] (.s .d (.b (.s .d (.c .d (.s .d (.c .d (.s .d (.c (.s (.s .d (.c (.s .d .d) .d)) .d) (.s .d (.c (.s .d (.c .d .d)) (.s .d (.c (.s .d (.s .d (.c .d .d))) (.s .d (.c .d .d)))))))))))))) (.s .d .d)))

def park_state_woken.j1 (c_park_state_over : Option Addr → Int → Int → Heap → (Unit → Heap → Prop) → Prop) (s1 : Option Addr) (Q : Unit → Heap → Prop) (s8 : (Bool × Unit)) (h9 : Heap) : Prop :=
    ((s8.1 = true →
    c_park_state_over s1 19 0 h9 fun r10 h11 =>
    Q () h11) ∧
    (s8.1 = false →
    Q () h9))
def park_state_woken.M (c_park_state_over : Option Addr → Int → Int → Heap → (Unit → Heap → Prop) → Prop) (c_park_state_other : Option Addr → Heap → (Int → Heap → Prop) → Prop) (s1 : Option Addr) (got2 : Int) (h3 : Heap) (Q : Unit → Heap → Prop) : Prop :=
    deref s1 fun a4 =>
    ld ((.int .i64) : Kd) h3 (a4.add 4) fun t5 =>
    (((decide (t5 = 8)) = true →
    deref s1 fun a6 =>
    st ((.int .i64) : Kd) h3 (a6.add 4) 9 fun h7 =>
    (((decide (got2 ≤ 0)) = true →
    park_state_woken.j1 c_park_state_over s1 Q (true, ()) h7) ∧
    ((decide (got2 ≤ 0)) = false →
    deref s1 fun a12 =>
    ld ((.int .i64) : Kd) h7 ((a12.add 0).add 1) fun t13 =>
    park_state_woken.j1 c_park_state_over s1 Q ((decide (t13 = 1)), ()) h7))) ∧
    ((decide (t5 = 8)) = false →
    (((decide (t5 = 9)) = true →
    (((decide (got2 = 1)) = true →
    deref s1 fun a14 =>
    st ((.int .i64) : Kd) h3 (a14.add 4) 7 fun h15 =>
    Q () h15) ∧
    ((decide (got2 = 1)) = false →
    deref s1 fun a16 =>
    ld ((.int .i64) : Kd) h3 (a16.add 5) fun t17 =>
    deref s1 fun a18 =>
    st ((.int .i64) : Kd) h3 (a18.add 5) (w64 (t17 + 1)) fun h19 =>
    deref s1 fun a20 =>
    deref s1 fun a21 =>
    ld ((.int .i64) : Kd) h19 (a20.add 5) fun t22 =>
    ld ((.int .i64) : Kd) h19 ((a21.add 0).add 1) fun t23 =>
    (((decide (t22 = t23)) = true →
    c_park_state_over s1 19 0 h19 fun r24 h25 =>
    Q () h25) ∧
    ((decide (t22 = t23)) = false →
    Q () h19))))) ∧
    ((decide (t5 = 9)) = false →
    (((decide (t5 = 7)) = true →
    c_park_state_other s1 h3 fun r26 h27 =>
    c_park_state_over s1 18 r26 h27 fun r28 h29 =>
    Q () h29) ∧
    ((decide (t5 = 7)) = false →
    Q () h3))))))
def park_state_woken.mk : Mk := (.s .d (.b (.s .d (.c (.s .d (.j [.slot 22 .bool] .d (.c .d .d))) (.s .d (.c (.s (.s .d (.c (.s .d .d) .d)) (.s .d (.s (.q [] [] [.p 0, .p 1, .p 2, .p 4, .p 5, .p 6, .p 7, .w 3 [3, 9], .w 8 [8, 9], .p 9]) (.c .d .d)))) (.s .d (.c .d .d))))))))

def park_state_finished.j1 (c_park_state_over : Option Addr → Int → Int → Heap → (Unit → Heap → Prop) → Prop) (s1 : Option Addr) (Q : Unit → Heap → Prop) (s4 : Unit) (h5 : Heap) : Prop :=
    deref s1 fun a6 =>
    deref s1 fun a7 =>
    ld ((.int .i64) : Kd) h5 (a6.add 5) fun t8 =>
    ld ((.int .i64) : Kd) h5 ((a7.add 0).add 1) fun t9 =>
    (((decide (t9 ≤ t8)) = true →
    c_park_state_over s1 20 0 h5 fun r10 h11 =>
    Q () h11) ∧
    ((decide (t9 ≤ t8)) = false →
    Q () h5))
def park_state_finished.j2 (c_park_state_over : Option Addr → Int → Int → Heap → (Unit → Heap → Prop) → Prop) (s1 : Option Addr) (Q : Unit → Heap → Prop) (s16 : (Bool × Unit)) (h17 : Heap) : Prop :=
    ((s16.1 = true →
    deref s1 fun a18 =>
    st ((.int .i64) : Kd) h17 (a18.add 4) 7 fun h19 =>
    Q () h19) ∧
    (s16.1 = false →
    deref s1 fun a20 =>
    st ((.int .i64) : Kd) h17 (a20.add 4) 9 fun h21 =>
    deref s1 fun a22 =>
    ld ((.int .i64) : Kd) h21 (a22.add 5) fun t23 =>
    deref s1 fun a24 =>
    st ((.int .i64) : Kd) h21 (a24.add 5) (w64 (t23 + 1)) fun h25 =>
    park_state_finished.j1 c_park_state_over s1 Q () h25))
def park_state_finished.M (c_park_state_over : Option Addr → Int → Int → Heap → (Unit → Heap → Prop) → Prop) (s1 : Option Addr) (got2 : Int) (h3 : Heap) (Q : Unit → Heap → Prop) : Prop :=
    deref s1 fun a12 =>
    ld ((.int .i64) : Kd) h3 (a12.add 4) fun t13 =>
    (((decide (t13 = 10)) = true →
    deref s1 fun a14 =>
    st ((.int .i64) : Kd) h3 (a14.add 4) 9 fun h15 =>
    park_state_finished.j1 c_park_state_over s1 Q () h15) ∧
    ((decide (t13 = 10)) = false →
    deref s1 fun a26 =>
    ld ((.int .i64) : Kd) h3 (a26.add 4) fun t27 =>
    (((decide (t27 = 9)) = true →
    park_state_finished.j2 c_park_state_over s1 Q ((decide (got2 = 1)), ()) h3) ∧
    ((decide (t27 = 9)) = false →
    park_state_finished.j2 c_park_state_over s1 Q (false, ()) h3))))
def park_state_finished.mk : Mk := (.j [] (.b (.s .d (.c .d (.j [.slot 23 .bool] .d (.c (.s .d .d) (.s .d .d)))))) (.s (.q [] [] [.p 0, .p 1, .p 2, .p 4, .p 5, .p 6, .p 7, .w 3 [3, 9], .w 8 [8, 9], .p 9]) (.c .d .d)))

def cells_Arena_outside.M (c_cells_ledger_has : Option Addr → Int → Heap → (Bool → Heap → Prop) → Prop) (a1 : Option Addr) (addr2 : Int) (h3 : Heap) (Q : Bool → Heap → Prop) : Prop :=
    (((Option.isNone a1) = true →
    Q true h3) ∧
    ((Option.isNone a1) = false →
    deref a1 fun a4 =>
    c_cells_ledger_has (some (a4.add 0)) addr2 h3 fun r5 h6 =>
    Q (!r5) h6))
def cells_Arena_outside.mk : Mk := (.s .d (.s .d .d))

def cells_Arena_note.M  (a1 : Option Addr) (kind2 : Int) (addr3 : Int) (x4 : Int) (y5 : Int) (ok6 : Bool) (h7 : Heap) (Q : Unit → Heap → Prop) : Prop :=
    deref a1 fun a8 =>
    ld (.bool : Kd) h7 (a8.add 5) fun t9 =>
    ((t9 = true →
    deref a1 fun a10 =>
    deref a1 fun a11 =>
    ld (.sl : Kd) h7 (a10.add 3) fun t12 =>
    ld ((.int .i64) : Kd) h7 (a11.add 4) fun t13 =>
    new h7 (([(t13, (kind2, (addr3, (x4, (y5, (ok6, ()))))))] : List (Den kapiAccess)).flatMap (Kd.cells kapiAccess)) fun p14 h15 =>
    appendM 6 48 h15 t12 ⟨some p14, 1, 1⟩ fun t16 h17 =>
    deref a1 fun a18 =>
    st (.sl : Kd) h17 (a18.add 3) t16 fun h19 =>
    Q () h19) ∧
    (t9 = false →
    Q () h7))
def cells_Arena_note.mk : Mk := (.s .d (.c (.q [] [] [.p 0, .p 1, .p 2, .p 3, .p 5, .p 6, .p 7, .p 9, .p 10, .p 11, .p 12, .p 13, .w 4 [4, 16, 17, 18, 19], .w 8 [8, 14, 15, 16, 17, 18, 19], .p 14, .o 15, .o 16, .p 17, .p 18, .o 19]) .d))

def cells_Arena_Who.M  (a1 : Option Addr) (actor2 : Int) (h3 : Heap) (Q : Unit → Heap → Prop) : Prop :=
    (((Option.isSome a1) = true →
    deref a1 fun a4 =>
    st ((.int .i64) : Kd) h3 (a4.add 4) actor2 fun h5 =>
    Q () h5) ∧
    ((Option.isSome a1) = false →
    Q () h3))
def cells_Arena_Who.mk : Mk := (.s .d (.c .d .d))

def cells_good.M  (size1 : Int) (h2 : Heap) (Q : Bool → Heap → Prop) : Prop :=
    (((decide ((0 : Int) ≤ size1)) = true →
    Q (decide (size1 ≤ 1048576)) h2) ∧
    ((decide ((0 : Int) ≤ size1)) = false →
    Q false h2))
def cells_good.mk : Mk := (.s .d (.s .d .d))

def cells_ledger_refuse.j1 (Q : Int → Heap → Prop) (s4 : Unit) (h5 : Heap) : Prop :=
    Q 0 h5
def cells_ledger_refuse.j2 (Q : Int → Heap → Prop) (s6 : (Bool × Unit)) (h7 : Heap) : Prop :=
    ((s6.1 = true →
    Q 22 h7) ∧
    (s6.1 = false →
    cells_ledger_refuse.j1 Q () h7))
def cells_ledger_refuse.M  (l1 : Option Addr) (n2 : Int) (h3 : Heap) (Q : Int → Heap → Prop) : Prop :=
    (((decide (n2 < 1)) = true →
    Q 21 h3) ∧
    ((decide (n2 < 1)) = false →
    (((Option.isNone l1) = true →
    cells_ledger_refuse.j2 Q (true, ()) h3) ∧
    ((Option.isNone l1) = false →
    deref l1 fun a8 =>
    deref l1 fun a9 =>
    ld ((.int .i64) : Kd) h3 (a8.add 0) fun t10 =>
    ld ((.int .i64) : Kd) h3 (a9.add 1) fun t11 =>
    cells_ledger_refuse.j2 Q ((decide ((w64 (t10 - t11)) < n2)), ()) h3))))
def cells_ledger_refuse.mk : Mk := (.s .d (.s (.s .d (.c (.s .d .d) .d)) (.j [] (.j [.slot 21 .bool] (.q [] [] [.p 0, .p 1, .p 2, .p 3, .p 4, .p 5, .p 6, .p 8, .p 9, .p 10, .w 7 [7, 12, 13, 14], .w 11 [11, 12, 13, 14], .p 12, .p 13, .p 14]) (.c (.s .d .d) .d)) (.s .d .d))))

def cells_ledger_take.M  (l1 : Option Addr) (n2 : Int) (h3 : Heap) (Q : Int → Heap → Prop) : Prop :=
    deref l1 fun a4 =>
    ld ((.int .i64) : Kd) h3 (a4.add 1) fun t5 =>
    deref l1 fun a6 =>
    ld ((.int .i64) : Kd) h3 (a6.add 1) fun t7 =>
    deref l1 fun a8 =>
    st ((.int .i64) : Kd) h3 (a8.add 1) (w64 (t7 + n2)) fun h9 =>
    Q t5 h9
def cells_ledger_take.mk : Mk := (.s .d (.s .d (.s .d (.s .d .d))))

def deque_capsOK.M  (low1 : Int) (most2 : Int) (h3 : Heap) (Q : Bool → Heap → Prop) : Prop :=
    (((decide ((1 : Int) ≤ low1)) = true →
    (((decide (low1 ≤ most2)) = true →
    Q (decide (most2 ≤ 4096)) h3) ∧
    ((decide (low1 ≤ most2)) = false →
    Q false h3))) ∧
    ((decide ((1 : Int) ≤ low1)) = false →
    Q false h3))
def deque_capsOK.mk : Mk := (.s .d (.s .d .d))

def park_Lot_right.M (c_park_Cells : Int → Heap → (Int → Heap → Prop) → Prop) (l1 : Den kparkLot) (self2 : Int) (h3 : Heap) (Q : Bool → Heap → Prop) : Prop :=
    c_park_Cells l1.2.1 h3 fun r4 h5 =>
    (((decide ((0 : Int) < r4)) = true →
    (((decide ((0 : Int) ≤ self2)) = true →
    Q (decide (self2 < l1.2.1)) h5) ∧
    ((decide ((0 : Int) ≤ self2)) = false →
    Q false h5))) ∧
    ((decide ((0 : Int) < r4)) = false →
    Q false h5))
def park_Lot_right.mk : Mk := (.s (.r [0]) (.s .d .d))

def ref9_Right.M  (l1 : Den kparkLot) (h2 : Heap) (Q : Bool → Heap → Prop) : Prop :=
    (((decide ((1 : Int) ≤ l1.2.1)) = true →
    Q (decide (l1.2.1 ≤ 64)) h2) ∧
    ((decide ((1 : Int) ≤ l1.2.1)) = false →
    Q false h2))
def ref9_Right.mk : Mk := (.s (.r [0]) (.s .d .d))

def deque_Step.j1 (c_deque_Op_over : Den kdequeOp → Int → Int → Heap → (Den kdequeOp → Heap → Prop) → Prop) (c_deque_Op_access : Den kdequeOp → Value → Heap → (Den kparkLot → Heap → Prop) → Prop) (c_deque_Op_pushed : Den kdequeOp → Int → Heap → (Den kdequeOp → Heap → Prop) → Prop) (c_deque_Op_popped : Den kdequeOp → Int → Heap → (Den kdequeOp → Heap → Prop) → Prop) (c_deque_Op_stolen : Den kdequeOp → Int → Heap → (Den kdequeOp → Heap → Prop) → Prop) (c_deque_Op_looked : Den kdequeOp → Int → Heap → (Den kdequeOp → Heap → Prop) → Prop) (m1 : Value) (o2 : Den kdequeOp) (Q : Den kdequeOp → Heap → Prop) (s4 : ((Int × (Int × (Int × (Int × (Int × (Int × (Int × (Int × (Int × (Int × (Int × (Int × (Int × (Bool × Den kparkLot)))))))))))))) × Unit)) (h5 : Heap) : Prop :=
    isI m1 ∧
    (((isNilI m1) = true →
    c_deque_Op_over (o2.1, (o2.2.1, ((o2.2.2.1.1, (o2.2.2.1.2.1, ())), (o2.2.2.2.1, (o2.2.2.2.2.1, (o2.2.2.2.2.2.1, (o2.2.2.2.2.2.2.1, (o2.2.2.2.2.2.2.2.1, (o2.2.2.2.2.2.2.2.2.1, (o2.2.2.2.2.2.2.2.2.2.1, (o2.2.2.2.2.2.2.2.2.2.2.1, (o2.2.2.2.2.2.2.2.2.2.2.2.1, (o2.2.2.2.2.2.2.2.2.2.2.2.2.1, (o2.2.2.2.2.2.2.2.2.2.2.2.2.2.1, (o2.2.2.2.2.2.2.2.2.2.2.2.2.2.2.1, ()))))))))))))))) 1 0 h5 fun r6 h7 =>
    Q (r6.1, (r6.2.1, ((r6.2.2.1.1, (r6.2.2.1.2.1, ())), (r6.2.2.2.1, (r6.2.2.2.2.1, (r6.2.2.2.2.2.1, (r6.2.2.2.2.2.2.1, (r6.2.2.2.2.2.2.2.1, (r6.2.2.2.2.2.2.2.2.1, (r6.2.2.2.2.2.2.2.2.2.1, (r6.2.2.2.2.2.2.2.2.2.2.1, (r6.2.2.2.2.2.2.2.2.2.2.2.1, (r6.2.2.2.2.2.2.2.2.2.2.2.2.1, (r6.2.2.2.2.2.2.2.2.2.2.2.2.2.1, (r6.2.2.2.2.2.2.2.2.2.2.2.2.2.2.1, ()))))))))))))))) h7) ∧
    ((isNilI m1) = false →
    c_deque_Op_access (o2.1, (o2.2.1, ((o2.2.2.1.1, (o2.2.2.1.2.1, ())), (o2.2.2.2.1, (o2.2.2.2.2.1, (o2.2.2.2.2.2.1, (o2.2.2.2.2.2.2.1, (o2.2.2.2.2.2.2.2.1, (o2.2.2.2.2.2.2.2.2.1, (o2.2.2.2.2.2.2.2.2.2.1, (o2.2.2.2.2.2.2.2.2.2.2.1, (o2.2.2.2.2.2.2.2.2.2.2.2.1, (o2.2.2.2.2.2.2.2.2.2.2.2.2.1, (o2.2.2.2.2.2.2.2.2.2.2.2.2.2.1, (o2.2.2.2.2.2.2.2.2.2.2.2.2.2.2.1, ()))))))))))))))) m1 h5 fun r8 h9 =>
    (((decide (r8.2.1 ≠ 0)) = true →
    c_deque_Op_over (o2.1, (o2.2.1, ((o2.2.2.1.1, (o2.2.2.1.2.1, ())), (o2.2.2.2.1, (o2.2.2.2.2.1, (o2.2.2.2.2.2.1, (o2.2.2.2.2.2.2.1, (o2.2.2.2.2.2.2.2.1, (o2.2.2.2.2.2.2.2.2.1, (o2.2.2.2.2.2.2.2.2.2.1, (o2.2.2.2.2.2.2.2.2.2.2.1, (o2.2.2.2.2.2.2.2.2.2.2.2.1, (o2.2.2.2.2.2.2.2.2.2.2.2.2.1, (o2.2.2.2.2.2.2.2.2.2.2.2.2.2.1, (o2.2.2.2.2.2.2.2.2.2.2.2.2.2.2.1, ()))))))))))))))) 1 0 h9 fun r10 h11 =>
    Q (r10.1, (r10.2.1, ((r10.2.2.1.1, (r10.2.2.1.2.1, ())), (r10.2.2.2.1, (r10.2.2.2.2.1, (r10.2.2.2.2.2.1, (r10.2.2.2.2.2.2.1, (r10.2.2.2.2.2.2.2.1, (r10.2.2.2.2.2.2.2.2.1, (r10.2.2.2.2.2.2.2.2.2.1, (r10.2.2.2.2.2.2.2.2.2.2.1, (r10.2.2.2.2.2.2.2.2.2.2.2.1, (r10.2.2.2.2.2.2.2.2.2.2.2.2.1, (r10.2.2.2.2.2.2.2.2.2.2.2.2.2.1, (r10.2.2.2.2.2.2.2.2.2.2.2.2.2.2.1, ()))))))))))))))) h11) ∧
    ((decide (r8.2.1 ≠ 0)) = false →
    (((decide (o2.1 = 1)) = true →
    c_deque_Op_pushed (o2.1, (o2.2.1, ((o2.2.2.1.1, (o2.2.2.1.2.1, ())), (o2.2.2.2.1, (o2.2.2.2.2.1, (o2.2.2.2.2.2.1, (o2.2.2.2.2.2.2.1, (o2.2.2.2.2.2.2.2.1, (o2.2.2.2.2.2.2.2.2.1, (o2.2.2.2.2.2.2.2.2.2.1, (o2.2.2.2.2.2.2.2.2.2.2.1, (o2.2.2.2.2.2.2.2.2.2.2.2.1, (o2.2.2.2.2.2.2.2.2.2.2.2.2.1, (o2.2.2.2.2.2.2.2.2.2.2.2.2.2.1, (o2.2.2.2.2.2.2.2.2.2.2.2.2.2.2.1, ()))))))))))))))) r8.1 h9 fun r12 h13 =>
    Q (r12.1, (r12.2.1, ((r12.2.2.1.1, (r12.2.2.1.2.1, ())), (r12.2.2.2.1, (r12.2.2.2.2.1, (r12.2.2.2.2.2.1, (r12.2.2.2.2.2.2.1, (r12.2.2.2.2.2.2.2.1, (r12.2.2.2.2.2.2.2.2.1, (r12.2.2.2.2.2.2.2.2.2.1, (r12.2.2.2.2.2.2.2.2.2.2.1, (r12.2.2.2.2.2.2.2.2.2.2.2.1, (r12.2.2.2.2.2.2.2.2.2.2.2.2.1, (r12.2.2.2.2.2.2.2.2.2.2.2.2.2.1, (r12.2.2.2.2.2.2.2.2.2.2.2.2.2.2.1, ()))))))))))))))) h13) ∧
    ((decide (o2.1 = 1)) = false →
    (((decide (o2.1 = 2)) = true →
    c_deque_Op_popped (o2.1, (o2.2.1, ((o2.2.2.1.1, (o2.2.2.1.2.1, ())), (o2.2.2.2.1, (o2.2.2.2.2.1, (o2.2.2.2.2.2.1, (o2.2.2.2.2.2.2.1, (o2.2.2.2.2.2.2.2.1, (o2.2.2.2.2.2.2.2.2.1, (o2.2.2.2.2.2.2.2.2.2.1, (o2.2.2.2.2.2.2.2.2.2.2.1, (o2.2.2.2.2.2.2.2.2.2.2.2.1, (o2.2.2.2.2.2.2.2.2.2.2.2.2.1, (o2.2.2.2.2.2.2.2.2.2.2.2.2.2.1, (o2.2.2.2.2.2.2.2.2.2.2.2.2.2.2.1, ()))))))))))))))) r8.1 h9 fun r14 h15 =>
    Q (r14.1, (r14.2.1, ((r14.2.2.1.1, (r14.2.2.1.2.1, ())), (r14.2.2.2.1, (r14.2.2.2.2.1, (r14.2.2.2.2.2.1, (r14.2.2.2.2.2.2.1, (r14.2.2.2.2.2.2.2.1, (r14.2.2.2.2.2.2.2.2.1, (r14.2.2.2.2.2.2.2.2.2.1, (r14.2.2.2.2.2.2.2.2.2.2.1, (r14.2.2.2.2.2.2.2.2.2.2.2.1, (r14.2.2.2.2.2.2.2.2.2.2.2.2.1, (r14.2.2.2.2.2.2.2.2.2.2.2.2.2.1, (r14.2.2.2.2.2.2.2.2.2.2.2.2.2.2.1, ()))))))))))))))) h15) ∧
    ((decide (o2.1 = 2)) = false →
    (((decide (o2.1 = 3)) = true →
    c_deque_Op_stolen (o2.1, (o2.2.1, ((o2.2.2.1.1, (o2.2.2.1.2.1, ())), (o2.2.2.2.1, (o2.2.2.2.2.1, (o2.2.2.2.2.2.1, (o2.2.2.2.2.2.2.1, (o2.2.2.2.2.2.2.2.1, (o2.2.2.2.2.2.2.2.2.1, (o2.2.2.2.2.2.2.2.2.2.1, (o2.2.2.2.2.2.2.2.2.2.2.1, (o2.2.2.2.2.2.2.2.2.2.2.2.1, (o2.2.2.2.2.2.2.2.2.2.2.2.2.1, (o2.2.2.2.2.2.2.2.2.2.2.2.2.2.1, (o2.2.2.2.2.2.2.2.2.2.2.2.2.2.2.1, ()))))))))))))))) r8.1 h9 fun r16 h17 =>
    Q (r16.1, (r16.2.1, ((r16.2.2.1.1, (r16.2.2.1.2.1, ())), (r16.2.2.2.1, (r16.2.2.2.2.1, (r16.2.2.2.2.2.1, (r16.2.2.2.2.2.2.1, (r16.2.2.2.2.2.2.2.1, (r16.2.2.2.2.2.2.2.2.1, (r16.2.2.2.2.2.2.2.2.2.1, (r16.2.2.2.2.2.2.2.2.2.2.1, (r16.2.2.2.2.2.2.2.2.2.2.2.1, (r16.2.2.2.2.2.2.2.2.2.2.2.2.1, (r16.2.2.2.2.2.2.2.2.2.2.2.2.2.1, (r16.2.2.2.2.2.2.2.2.2.2.2.2.2.2.1, ()))))))))))))))) h17) ∧
    ((decide (o2.1 = 3)) = false →
    c_deque_Op_looked (o2.1, (o2.2.1, ((o2.2.2.1.1, (o2.2.2.1.2.1, ())), (o2.2.2.2.1, (o2.2.2.2.2.1, (o2.2.2.2.2.2.1, (o2.2.2.2.2.2.2.1, (o2.2.2.2.2.2.2.2.1, (o2.2.2.2.2.2.2.2.2.1, (o2.2.2.2.2.2.2.2.2.2.1, (o2.2.2.2.2.2.2.2.2.2.2.1, (o2.2.2.2.2.2.2.2.2.2.2.2.1, (o2.2.2.2.2.2.2.2.2.2.2.2.2.1, (o2.2.2.2.2.2.2.2.2.2.2.2.2.2.1, (o2.2.2.2.2.2.2.2.2.2.2.2.2.2.2.1, ()))))))))))))))) r8.1 h9 fun r18 h19 =>
    Q (r18.1, (r18.2.1, ((r18.2.2.1.1, (r18.2.2.1.2.1, ())), (r18.2.2.2.1, (r18.2.2.2.2.1, (r18.2.2.2.2.2.1, (r18.2.2.2.2.2.2.1, (r18.2.2.2.2.2.2.2.1, (r18.2.2.2.2.2.2.2.2.1, (r18.2.2.2.2.2.2.2.2.2.1, (r18.2.2.2.2.2.2.2.2.2.2.1, (r18.2.2.2.2.2.2.2.2.2.2.2.1, (r18.2.2.2.2.2.2.2.2.2.2.2.2.1, (r18.2.2.2.2.2.2.2.2.2.2.2.2.2.1, (r18.2.2.2.2.2.2.2.2.2.2.2.2.2.2.1, ()))))))))))))))) h19))))))))))
def deque_Step.j2 (c_deque_Op_over : Den kdequeOp → Int → Int → Heap → (Den kdequeOp → Heap → Prop) → Prop) (c_deque_Op_access : Den kdequeOp → Value → Heap → (Den kparkLot → Heap → Prop) → Prop) (c_deque_Op_pushed : Den kdequeOp → Int → Heap → (Den kdequeOp → Heap → Prop) → Prop) (c_deque_Op_popped : Den kdequeOp → Int → Heap → (Den kdequeOp → Heap → Prop) → Prop) (c_deque_Op_stolen : Den kdequeOp → Int → Heap → (Den kdequeOp → Heap → Prop) → Prop) (c_deque_Op_looked : Den kdequeOp → Int → Heap → (Den kdequeOp → Heap → Prop) → Prop) (m1 : Value) (o2 : Den kdequeOp) (Q : Den kdequeOp → Heap → Prop) (s20 : (Bool × Unit)) (h21 : Heap) : Prop :=
    ((s20.1 = true →
    Q (o2.1, (o2.2.1, ((o2.2.2.1.1, (o2.2.2.1.2.1, ())), (o2.2.2.2.1, (o2.2.2.2.2.1, (o2.2.2.2.2.2.1, (o2.2.2.2.2.2.2.1, (o2.2.2.2.2.2.2.2.1, (o2.2.2.2.2.2.2.2.2.1, (o2.2.2.2.2.2.2.2.2.2.1, (o2.2.2.2.2.2.2.2.2.2.2.1, (o2.2.2.2.2.2.2.2.2.2.2.2.1, (o2.2.2.2.2.2.2.2.2.2.2.2.2.1, (o2.2.2.2.2.2.2.2.2.2.2.2.2.2.1, (o2.2.2.2.2.2.2.2.2.2.2.2.2.2.2.1, ()))))))))))))))) h21) ∧
    (s20.1 = false →
    deque_Step.j1 c_deque_Op_over c_deque_Op_access c_deque_Op_pushed c_deque_Op_popped c_deque_Op_stolen c_deque_Op_looked m1 o2 Q ((0, (0, (0, (0, (0, (0, (0, (0, (0, (0, (0, (0, (0, (false, (0, (0, ())))))))))))))))), ()) h21))
def deque_Step.M (c_deque_Op_over : Den kdequeOp → Int → Int → Heap → (Den kdequeOp → Heap → Prop) → Prop) (c_deque_Op_access : Den kdequeOp → Value → Heap → (Den kparkLot → Heap → Prop) → Prop) (c_deque_Op_pushed : Den kdequeOp → Int → Heap → (Den kdequeOp → Heap → Prop) → Prop) (c_deque_Op_popped : Den kdequeOp → Int → Heap → (Den kdequeOp → Heap → Prop) → Prop) (c_deque_Op_stolen : Den kdequeOp → Int → Heap → (Den kdequeOp → Heap → Prop) → Prop) (c_deque_Op_looked : Den kdequeOp → Int → Heap → (Den kdequeOp → Heap → Prop) → Prop) (m1 : Value) (o2 : Den kdequeOp) (h3 : Heap) (Q : Den kdequeOp → Heap → Prop) : Prop :=
    (((eqK kdequeOp (o2.1, (o2.2.1, ((o2.2.2.1.1, (o2.2.2.1.2.1, ())), (o2.2.2.2.1, (o2.2.2.2.2.1, (o2.2.2.2.2.2.1, (o2.2.2.2.2.2.2.1, (o2.2.2.2.2.2.2.2.1, (o2.2.2.2.2.2.2.2.2.1, (o2.2.2.2.2.2.2.2.2.2.1, (o2.2.2.2.2.2.2.2.2.2.2.1, (o2.2.2.2.2.2.2.2.2.2.2.2.1, (o2.2.2.2.2.2.2.2.2.2.2.2.2.1, (o2.2.2.2.2.2.2.2.2.2.2.2.2.2.1, (o2.2.2.2.2.2.2.2.2.2.2.2.2.2.2.1, ()))))))))))))))) (0, (0, ((0, (0, ())), (0, (0, (0, (0, (0, (0, (0, (0, (0, (false, (0, (0, ())))))))))))))))) = true →
    deque_Step.j2 c_deque_Op_over c_deque_Op_access c_deque_Op_pushed c_deque_Op_popped c_deque_Op_stolen c_deque_Op_looked m1 o2 Q (true, ()) h3) ∧
    ((eqK kdequeOp (o2.1, (o2.2.1, ((o2.2.2.1.1, (o2.2.2.1.2.1, ())), (o2.2.2.2.1, (o2.2.2.2.2.1, (o2.2.2.2.2.2.1, (o2.2.2.2.2.2.2.1, (o2.2.2.2.2.2.2.2.1, (o2.2.2.2.2.2.2.2.2.1, (o2.2.2.2.2.2.2.2.2.2.1, (o2.2.2.2.2.2.2.2.2.2.2.1, (o2.2.2.2.2.2.2.2.2.2.2.2.1, (o2.2.2.2.2.2.2.2.2.2.2.2.2.1, (o2.2.2.2.2.2.2.2.2.2.2.2.2.2.1, (o2.2.2.2.2.2.2.2.2.2.2.2.2.2.2.1, ()))))))))))))))) (0, (0, ((0, (0, ())), (0, (0, (0, (0, (0, (0, (0, (0, (0, (false, (0, (0, ())))))))))))))))) = false →
    deque_Step.j2 c_deque_Op_over c_deque_Op_access c_deque_Op_pushed c_deque_Op_popped c_deque_Op_stolen c_deque_Op_looked m1 o2 Q ((decide (o2.2.1 = 0)), ()) h3))
def deque_Step.mk : Mk := (.s (.r [0, 1]) (.j [.box 4 (.pair (.int .i64) (.pair (.int .i64) (.pair (.int .i64) (.pair (.int .i64) (.pair (.int .i64) (.pair (.int .i64) (.pair (.int .i64) (.pair (.int .i64) (.pair (.int .i64) (.pair (.int .i64) (.pair (.int .i64) (.pair (.int .i64) (.pair (.int .i64) (.pair .bool kparkLot))))))))))))))] (.j [.slot 14 .bool] .d (.c (.s .d .d) .d)) (.s (.s .d (.c (.s .d .d) .d)) (.s .d (.s (.s .d (.c (.s .d .d) .d)) (.s (.s .d (.b (.s .d (.c (.s .d .d) (.s .d (.c (.s .d .d) (.s .d (.c (.s .d .d) .d)))))))) (.s .d .d)))))))

def deque_Answer.M  (o1 : Den kdequeOp) (h2 : Heap) (Q : Den kparkLot → Heap → Prop) : Prop :=
    (((eqK kdequeOp (o1.1, (o1.2.1, ((o1.2.2.1.1, (o1.2.2.1.2.1, ())), (o1.2.2.2.1, (o1.2.2.2.2.1, (o1.2.2.2.2.2.1, (o1.2.2.2.2.2.2.1, (o1.2.2.2.2.2.2.2.1, (o1.2.2.2.2.2.2.2.2.1, (o1.2.2.2.2.2.2.2.2.2.1, (o1.2.2.2.2.2.2.2.2.2.2.1, (o1.2.2.2.2.2.2.2.2.2.2.2.1, (o1.2.2.2.2.2.2.2.2.2.2.2.2.1, (o1.2.2.2.2.2.2.2.2.2.2.2.2.2.1, (o1.2.2.2.2.2.2.2.2.2.2.2.2.2.2.1, ()))))))))))))))) (0, (0, ((0, (0, ())), (0, (0, (0, (0, (0, (0, (0, (0, (0, (false, (0, (0, ())))))))))))))))) = true →
    Q (1, 0, ()) h2) ∧
    ((eqK kdequeOp (o1.1, (o1.2.1, ((o1.2.2.1.1, (o1.2.2.1.2.1, ())), (o1.2.2.2.1, (o1.2.2.2.2.1, (o1.2.2.2.2.2.1, (o1.2.2.2.2.2.2.1, (o1.2.2.2.2.2.2.2.1, (o1.2.2.2.2.2.2.2.2.1, (o1.2.2.2.2.2.2.2.2.2.1, (o1.2.2.2.2.2.2.2.2.2.2.1, (o1.2.2.2.2.2.2.2.2.2.2.2.1, (o1.2.2.2.2.2.2.2.2.2.2.2.2.1, (o1.2.2.2.2.2.2.2.2.2.2.2.2.2.1, (o1.2.2.2.2.2.2.2.2.2.2.2.2.2.2.1, ()))))))))))))))) (0, (0, ((0, (0, ())), (0, (0, (0, (0, (0, (0, (0, (0, (0, (false, (0, (0, ())))))))))))))))) = false →
    (((decide (o1.2.1 ≠ 0)) = true →
    Q (0, 0, ()) h2) ∧
    ((decide (o1.2.1 ≠ 0)) = false →
    Q (o1.2.2.2.2.2.2.2.2.2.2.2.2.2.1, o1.2.2.2.2.2.2.2.2.2.2.2.2.2.2.1, ()) h2))))
def deque_Answer.mk : Mk := (.s (.r [0]) (.s (.b (.s .d (.c (.s .d .d) (.s .d (.c (.s .d .d) .d))))) (.s (.q [] [] [.p 0, .p 2, .w 1 [1, 4, 5], .p 4, .w 3 [3, 5], .p 5]) .d)))

def park_state_back.M  (s1 : Option Addr) (code2 : Int) (h3 : Heap) (Q : Unit → Heap → Prop) : Prop :=
    deref s1 fun a4 =>
    st ((.int .i64) : Kd) h3 (a4.add 6) code2 fun h5 =>
    deref s1 fun a6 =>
    st ((.int .i64) : Kd) h5 (a6.add 4) 6 fun h7 =>
    Q () h7
def park_state_back.mk : Mk := .d

def park_Op_around.M (c_park_state_other : Option Addr → Heap → (Int → Heap → Prop) → Prop) (c_deque_Look : Den kparkLot → Heap → (Den kdequeOp → Heap → Prop) → Prop) (o1 : Den kparkOp) (h2 : Heap) (Q : Den kparkOp → Heap → Prop) : Prop :=
    new h2 (kparkOp.cells o1) fun p3 h4 =>
    ld ((.int .i64) : Kd) h4 ((p3.add 0).add 5) fun t5 =>
    st ((.int .i64) : Kd) h4 ((p3.add 0).add 5) (w64 (t5 + 1)) fun h6 =>
    st ((.int .i64) : Kd) h6 ((p3.add 0).add 4) 4 fun h7 =>
    ld ((.int .i64) : Kd) h7 ((p3.add 0).add 5) fun t8 =>
    ld ((.int .i64) : Kd) h7 (((p3.add 0).add 0).add 1) fun t9 =>
    (((decide (t9 ≤ t8)) = true →
    st ((.int .i64) : Kd) h7 ((p3.add 0).add 4) 5 fun h10 =>
    ld kparkOp h10 p3 fun t11 =>
    Q (((t11.1.1.1, (t11.1.1.2.1, ())), (t11.1.2.1, (t11.1.2.2.1, (t11.1.2.2.2.1, (t11.1.2.2.2.2.1, (t11.1.2.2.2.2.2.1, (t11.1.2.2.2.2.2.2.1, (t11.1.2.2.2.2.2.2.2.1, ())))))))), (t11.2.1, ((t11.2.2.1.1, (t11.2.2.1.2.1, ((t11.2.2.1.2.2.1.1, (t11.2.2.1.2.2.1.2.1, ())), (t11.2.2.1.2.2.2.1, (t11.2.2.1.2.2.2.2.1, (t11.2.2.1.2.2.2.2.2.1, (t11.2.2.1.2.2.2.2.2.2.1, (t11.2.2.1.2.2.2.2.2.2.2.1, (t11.2.2.1.2.2.2.2.2.2.2.2.1, (t11.2.2.1.2.2.2.2.2.2.2.2.2.1, (t11.2.2.1.2.2.2.2.2.2.2.2.2.2.1, (t11.2.2.1.2.2.2.2.2.2.2.2.2.2.2.1, (t11.2.2.1.2.2.2.2.2.2.2.2.2.2.2.2.1, (t11.2.2.1.2.2.2.2.2.2.2.2.2.2.2.2.2.1, (t11.2.2.1.2.2.2.2.2.2.2.2.2.2.2.2.2.2.1, ()))))))))))))))), ()))) h10) ∧
    ((decide (t9 ≤ t8)) = false →
    c_park_state_other (some (p3.add 0)) h7 fun r12 h13 =>
    (0 ≤ r12 ∧ r12 < (64 : Int)) ∧
    ld kparkLot h13 ((p3.add 9).add ((r12 : Int).toNat * 2)) fun t14 =>
    c_deque_Look t14 h13 fun r15 h16 =>
    st kdequeOp h16 (p3.add 137) r15 fun h17 =>
    ld kparkOp h17 p3 fun t18 =>
    Q (((t18.1.1.1, (t18.1.1.2.1, ())), (t18.1.2.1, (t18.1.2.2.1, (t18.1.2.2.2.1, (t18.1.2.2.2.2.1, (t18.1.2.2.2.2.2.1, (t18.1.2.2.2.2.2.2.1, (t18.1.2.2.2.2.2.2.2.1, ())))))))), (t18.2.1, ((t18.2.2.1.1, (t18.2.2.1.2.1, ((t18.2.2.1.2.2.1.1, (t18.2.2.1.2.2.1.2.1, ())), (t18.2.2.1.2.2.2.1, (t18.2.2.1.2.2.2.2.1, (t18.2.2.1.2.2.2.2.2.1, (t18.2.2.1.2.2.2.2.2.2.1, (t18.2.2.1.2.2.2.2.2.2.2.1, (t18.2.2.1.2.2.2.2.2.2.2.2.1, (t18.2.2.1.2.2.2.2.2.2.2.2.2.1, (t18.2.2.1.2.2.2.2.2.2.2.2.2.2.1, (t18.2.2.1.2.2.2.2.2.2.2.2.2.2.2.1, (t18.2.2.1.2.2.2.2.2.2.2.2.2.2.2.2.1, (t18.2.2.1.2.2.2.2.2.2.2.2.2.2.2.2.2.1, (t18.2.2.1.2.2.2.2.2.2.2.2.2.2.2.2.2.2.1, ()))))))))))))))), ()))) h17))
def park_Op_around.mk : Mk := (.s (.r [1]) (.s .d (.s .d (.s (.s .d (.c (.s .d (.s .d .d)) .d)) (.s .d (.s .d .d))))))

def park_state_access_1.M (c_park_state_flag : Option Addr → Int → Heap → (Int → Heap → Prop) → Prop) (c_inv_CAS : Value → Int → Int → Int → Heap → ((Bool × (Int × Unit)) → Heap → Prop) → Prop) (c_nil : Value → Prop) (i1 : Int) (t2 : Option Addr) (t3 : Option Addr) (h4 : Heap) (Q : Den kparkLot → Heap → Prop) : Prop :=
    deref t2 fun a5 =>
    ld (.iface : Kd) h4 a5 fun t6 =>
    c_nil (Value.func (.method "CAS") (List.toArray [Kd.val (.iface : Kd) t6]) (List.toArray [])) ∧
    deref t3 fun a7 =>
    ld (.ptr : Kd) h4 a7 fun t8 =>
    c_park_state_flag t8 i1 h4 fun r9 h10 =>
    sees h10 t2 (.iface : Kd) t6 ∧
    c_inv_CAS t6 r9 1 0 h10 fun r11 h12 =>
    ((r11.1 = true →
    Q (1, r11.2.1, ()) h12) ∧
    (r11.1 = false →
    Q (0, r11.2.1, ()) h12))
def park_state_access_1.mk : Mk := (.s .d (.s (.q [] [] [.p 2, .w 0 [0, 4, 5, 6, 7, 8, 9, 10, 11, 12], .p 4, .p 5, .p 6, .w 1 [1, 3, 7, 8, 9, 10, 11, 12], .o 3, .o 7, .p 8, .p 9, .p 10, .p 11, .p 12]) (.s (.s .d (.c (.s .d .d) .d)) (.s .d .d))))

def park_state_flag.M  (s1 : Option Addr) (i2 : Int) (h3 : Heap) (Q : Int → Heap → Prop) : Prop :=
    deref s1 fun a4 =>
    ld ((.int .i64) : Kd) h3 ((a4.add 0).add 0) fun t5 =>
    Q (w64 ((w64 (t5 + 2)) + i2)) h3
def park_state_flag.mk : Mk := (.s .d (.s .d .d))

def park_state_other.M  (s1 : Option Addr) (h2 : Heap) (Q : Int → Heap → Prop) : Prop :=
    deref s1 fun a3 =>
    deref s1 fun a4 =>
    deref s1 fun a5 =>
    ld ((.int .i64) : Kd) h2 (a3.add 2) fun t6 =>
    ld ((.int .i64) : Kd) h2 (a4.add 5) fun t7 =>
    ld ((.int .i64) : Kd) h2 ((a5.add 0).add 1) fun t8 =>
    t8 ≠ 0 ∧
    Q (Int.tmod (w64 (t6 + t7)) t8) h2
def park_state_other.mk : Mk := (.s .d (.s (.q [] [] [.p 0, .p 1, .p 2, .p 4, .p 5, .p 6, .p 9, .p 10, .p 11, .p 12, .w 3 [3, 8, 14, 15], .w 7 [7, 8, 14, 15], .p 8, .w 13 [13, 14, 15], .p 14, .p 15]) .d))

def cells_ledger_has.M  (l1 : Option Addr) (addr2 : Int) (h3 : Heap) (Q : Bool → Heap → Prop) : Prop :=
    (((decide ((0 : Int) ≤ addr2)) = true →
    deref l1 fun a4 =>
    ld ((.int .i64) : Kd) h3 (a4.add 1) fun t5 =>
    Q (decide (addr2 < t5)) h3) ∧
    ((decide ((0 : Int) ≤ addr2)) = false →
    Q false h3))
def cells_ledger_has.mk : Mk := (.s .d (.s .d .d))

def cells_Arena_Cells.M  (a1 : Option Addr) (h2 : Heap) (Q : Sl → Heap → Prop) : Prop :=
    (((Option.isNone a1) = true →
    Q ⟨none, 0, 0⟩ h2) ∧
    ((Option.isNone a1) = false →
    deref a1 fun a3 =>
    ld (.sl : Kd) h2 (a3.add 2) fun t4 =>
    makeM ((.int .i64) : Kd) 8 h2 (t4.len : Int) (t4.len : Int) fun s5 h6 =>
    deref a1 fun a7 =>
    ld (.sl : Kd) h6 (a7.add 2) fun t8 =>
    copyM 1 h6 s5 t8 fun n9 h10 =>
    Q s5 h10))
def cells_Arena_Cells.mk : Mk := (.s .d (.s (.s .d (.c (.s .d .d) .d)) (.s .d (.s .d (.s .d .d)))))

def deque_Op_over.M  (o1 : Den kdequeOp) (code2 : Int) (v3 : Int) (h4 : Heap) (Q : Den kdequeOp → Heap → Prop) : Prop :=
    Q (o1.1, (0, ((o1.2.2.1.1, (o1.2.2.1.2.1, ())), (o1.2.2.2.1, (o1.2.2.2.2.1, (o1.2.2.2.2.2.1, (o1.2.2.2.2.2.2.1, (o1.2.2.2.2.2.2.2.1, (o1.2.2.2.2.2.2.2.2.1, (o1.2.2.2.2.2.2.2.2.2.1, (o1.2.2.2.2.2.2.2.2.2.2.1, (o1.2.2.2.2.2.2.2.2.2.2.2.1, (o1.2.2.2.2.2.2.2.2.2.2.2.2.1, (code2, (v3, ()))))))))))))))) h4
def deque_Op_over.mk : Mk := (.s (.r [0, 1]) (.s .d (.s .d .d)))

def deque_Op_access.j1 (c_inv_Load : Value → Int → Heap → (Den kparkLot → Heap → Prop) → Prop) (c_deque_place : Int → Int → Int → Heap → (Int → Heap → Prop) → Prop) (c_nil : Value → Prop) (o1 : Den kdequeOp) (m2 : Value) (Q : Den kparkLot → Heap → Prop) (s34 : (Int × Unit)) (h35 : Heap) : Prop :=
    c_nil (Value.func (.method "Load") (List.toArray [Kd.val (.iface : Kd) m2]) (List.toArray [])) ∧
    c_deque_place o1.2.2.2.2.2.2.1 o1.2.2.2.2.2.2.2.1 s34.1 h35 fun r36 h37 =>
    c_inv_Load m2 r36 h37 fun r38 h39 =>
    Q (r38.1, r38.2.1, ()) h39
def deque_Op_access.M (c_inv_Load : Value → Int → Heap → (Den kparkLot → Heap → Prop) → Prop) (c_inv_Reserve : Value → Int → Heap → (Den kparkLot → Heap → Prop) → Prop) (c_inv_Store : Value → Int → Int → Heap → (Int → Heap → Prop) → Prop) (c_deque_place : Int → Int → Int → Heap → (Int → Heap → Prop) → Prop) (c_deque_Op_next : Den kdequeOp → Heap → (Int → Heap → Prop) → Prop) (c_inv_CAS : Value → Int → Int → Int → Heap → ((Bool × (Int × Unit)) → Heap → Prop) → Prop) (c_nil : Value → Prop) (o1 : Den kdequeOp) (m2 : Value) (h3 : Heap) (Q : Den kparkLot → Heap → Prop) : Prop :=
    (((decide (o1.2.1 = 1)) = true →
    c_inv_Load m2 (w64 (o1.2.2.1.1 + 1)) h3 fun r4 h5 =>
    Q (r4.1, r4.2.1, ()) h5) ∧
    ((decide (o1.2.1 = 1)) = false →
    (((decide (o1.2.1 = 2)) = true →
    c_inv_Load m2 (w64 (o1.2.2.1.1 + 0)) h3 fun r6 h7 =>
    Q (r6.1, r6.2.1, ()) h7) ∧
    ((decide (o1.2.1 = 2)) = false →
    (((decide (o1.2.1 = 3)) = true →
    c_inv_Load m2 (w64 (o1.2.2.1.1 + 2)) h3 fun r8 h9 =>
    Q (r8.1, r8.2.1, ()) h9) ∧
    ((decide (o1.2.1 = 3)) = false →
    (((decide (o1.2.1 = 4)) = true →
    c_inv_Load m2 o1.2.2.2.2.2.2.1 h3 fun r10 h11 =>
    Q (r10.1, r10.2.1, ()) h11) ∧
    ((decide (o1.2.1 = 4)) = false →
    (((decide (o1.2.1 = 5)) = true →
    c_inv_Reserve m2 (w64 (1 + o1.2.2.2.2.2.2.2.2.2.1)) h3 fun r12 h13 =>
    Q (r12.1, r12.2.1, ()) h13) ∧
    ((decide (o1.2.1 = 5)) = false →
    (((decide (o1.2.1 = 6)) = true →
    c_inv_Store m2 o1.2.2.2.2.2.2.2.2.1 o1.2.2.2.2.2.2.2.2.2.1 h3 fun r14 h15 =>
    Q (0, r14, ()) h15) ∧
    ((decide (o1.2.1 = 6)) = false →
    (((decide (o1.2.1 = 7)) = true →
    c_nil (Value.func (.method "Load") (List.toArray [Kd.val (.iface : Kd) m2]) (List.toArray [])) ∧
    c_deque_place o1.2.2.2.2.2.2.1 o1.2.2.2.2.2.2.2.1 o1.2.2.2.2.2.2.2.2.2.2.1 h3 fun r16 h17 =>
    c_inv_Load m2 r16 h17 fun r18 h19 =>
    Q (r18.1, r18.2.1, ()) h19) ∧
    ((decide (o1.2.1 = 7)) = false →
    (((decide (o1.2.1 = 8)) = true →
    c_nil (Value.func (.method "Store") (List.toArray [Kd.val (.iface : Kd) m2]) (List.toArray [])) ∧
    c_deque_place o1.2.2.2.2.2.2.2.2.1 o1.2.2.2.2.2.2.2.2.2.1 o1.2.2.2.2.2.2.2.2.2.2.1 h3 fun r20 h21 =>
    c_inv_Store m2 r20 o1.2.2.2.2.2.2.2.2.2.2.2.1 h21 fun r22 h23 =>
    Q (0, r22, ()) h23) ∧
    ((decide (o1.2.1 = 8)) = false →
    (((decide (o1.2.1 = 9)) = true →
    c_inv_Store m2 (w64 (o1.2.2.1.1 + 2)) o1.2.2.2.2.2.2.2.2.1 h3 fun r24 h25 =>
    Q (0, r24, ()) h25) ∧
    ((decide (o1.2.1 = 9)) = false →
    (((decide (o1.2.1 = 10)) = true →
    c_nil (Value.func (.method "Store") (List.toArray [Kd.val (.iface : Kd) m2]) (List.toArray [])) ∧
    c_deque_place o1.2.2.2.2.2.2.1 o1.2.2.2.2.2.2.2.1 o1.2.2.2.2.2.1 h3 fun r26 h27 =>
    c_inv_Store m2 r26 o1.2.2.2.1 h27 fun r28 h29 =>
    Q (0, r28, ()) h29) ∧
    ((decide (o1.2.1 = 10)) = false →
    (((decide (o1.2.1 = 11)) = true →
    c_nil (Value.func (.method "Store") (List.toArray [Kd.val (.iface : Kd) m2]) (List.toArray [])) ∧
    c_deque_Op_next (o1.1, (o1.2.1, ((o1.2.2.1.1, (o1.2.2.1.2.1, ())), (o1.2.2.2.1, (o1.2.2.2.2.1, (o1.2.2.2.2.2.1, (o1.2.2.2.2.2.2.1, (o1.2.2.2.2.2.2.2.1, (o1.2.2.2.2.2.2.2.2.1, (o1.2.2.2.2.2.2.2.2.2.1, (o1.2.2.2.2.2.2.2.2.2.2.1, (o1.2.2.2.2.2.2.2.2.2.2.2.1, (o1.2.2.2.2.2.2.2.2.2.2.2.2.1, (o1.2.2.2.2.2.2.2.2.2.2.2.2.2.1, (o1.2.2.2.2.2.2.2.2.2.2.2.2.2.2.1, ()))))))))))))))) h3 fun r30 h31 =>
    c_inv_Store m2 (w64 (o1.2.2.1.1 + 1)) r30 h31 fun r32 h33 =>
    Q (0, r32, ()) h33) ∧
    ((decide (o1.2.1 = 11)) = false →
    (((decide (o1.2.1 = 12)) = true →
    (((decide (o1.1 = 2)) = true →
    deque_Op_access.j1 c_inv_Load c_deque_place c_nil o1 m2 Q (o1.2.2.2.2.2.1, ()) h3) ∧
    ((decide (o1.1 = 2)) = false →
    deque_Op_access.j1 c_inv_Load c_deque_place c_nil o1 m2 Q (o1.2.2.2.2.1, ()) h3))) ∧
    ((decide (o1.2.1 = 12)) = false →
    c_inv_CAS m2 (w64 (o1.2.2.1.1 + 0)) o1.2.2.2.2.1 (w64 (o1.2.2.2.2.1 + 1)) h3 fun r40 h41 =>
    ((r40.1 = true →
    Q (1, r40.2.1, ()) h41) ∧
    (r40.1 = false →
    Q (0, r40.2.1, ()) h41))))))))))))))))))))))))))
def deque_Op_access.mk : Mk := (.s (.r [0]) (.s .d (.s (.s .d (.b (.s .d (.c (.s .d .d) (.s .d (.c (.s .d .d) (.s .d (.c (.s .d .d) (.s .d (.c (.s .d .d) (.s .d (.c (.s .d (.s .d .d)) (.s .d (.c (.s .d .d) (.s .d (.c (.s (.q [] [] [.p 0, .p 1, .p 3, .p 5, .p 8, .p 9, .p 10, .w 2 [2, 7, 11, 12, 13, 14, 15], .w 4 [4, 7, 11, 12, 13, 14, 15], .w 6 [6, 7, 11, 12, 13, 14, 15], .o 7, .o 11, .p 12, .p 13, .p 14, .p 15]) .d) (.s .d (.c (.s (.q [] [] [.p 0, .p 1, .p 3, .p 5, .p 8, .p 10, .p 11, .p 12, .w 2 [2, 7, 13, 14, 15], .w 4 [4, 7, 13, 14, 15], .w 6 [6, 7, 13, 14, 15], .w 9 [9, 13, 14, 15], .o 7, .o 13, .p 14, .p 15]) .d) (.s .d (.c (.s .d .d) (.s .d (.c (.s (.q [] [] [.p 0, .p 1, .p 3, .p 5, .p 8, .p 10, .p 11, .p 12, .w 2 [2, 7, 13, 14, 15], .w 4 [4, 7, 13, 14, 15], .w 6 [6, 7, 13, 14, 15], .w 9 [9, 13, 14, 15], .o 7, .o 13, .p 14, .p 15]) .d) (.s .d (.c (.s (.q [] [] [.p 0, .p 1, .p 2, .p 5, .p 6, .p 7, .w 3 [3, 4, 8, 9, 10], .o 4, .o 8, .p 9, .p 10]) .d) (.s .d (.c (.s .d (.j [.slot 9 (.int .i64)] (.s .d (.c .d .d)) (.s (.q [] [] [.p 0, .p 1, .p 3, .p 5, .p 7, .p 8, .p 9, .w 2 [2, 6, 10, 11, 12, 13, 14], .w 4 [4, 6, 10, 11, 12, 13, 14], .o 6, .o 10, .p 11, .p 12, .p 13, .p 14]) .d))) .d)))))))))))))))))))))))))) (.s .d (.s (.s .d (.c (.s .d .d) .d)) (.s .d .d))))))

def deque_Op_pushed.j1 (Q : Den kdequeOp → Heap → Prop) (s4 : ((Int × (Int × (Int × (Int × (Int × (Int × (Int × (Int × (Int × (Int × (Int × (Int × (Int × (Bool × Den kparkLot)))))))))))))) × ((Int × (Int × (Int × (Int × (Int × (Int × (Int × (Int × (Int × (Int × (Int × (Int × (Int × (Bool × Den kparkLot)))))))))))))) × Unit))) (h5 : Heap) : Prop :=
    Q (s4.1.1, (s4.1.2.1, ((s4.1.2.2.1, (s4.1.2.2.2.1, ())), (s4.1.2.2.2.2.1, (s4.1.2.2.2.2.2.1, (s4.1.2.2.2.2.2.2.1, (s4.1.2.2.2.2.2.2.2.1, (s4.1.2.2.2.2.2.2.2.2.1, (s4.1.2.2.2.2.2.2.2.2.2.1, (s4.1.2.2.2.2.2.2.2.2.2.2.1, (s4.1.2.2.2.2.2.2.2.2.2.2.2.1, (s4.1.2.2.2.2.2.2.2.2.2.2.2.2.1, (s4.1.2.2.2.2.2.2.2.2.2.2.2.2.2.1, (s4.1.2.2.2.2.2.2.2.2.2.2.2.2.2.2.1, (s4.1.2.2.2.2.2.2.2.2.2.2.2.2.2.2.2.1, ()))))))))))))))) h5
def deque_Op_pushed.M (c_deque_Op_over : Den kdequeOp → Int → Int → Heap → (Den kdequeOp → Heap → Prop) → Prop) (o1 : Den kdequeOp) (got2 : Int) (h3 : Heap) (Q : Den kdequeOp → Heap → Prop) : Prop :=
    (((decide (o1.2.1 = 1)) = true →
    deque_Op_pushed.j1 Q ((o1.1, (2, (o1.2.2.1.1, (o1.2.2.1.2.1, (o1.2.2.2.1, (o1.2.2.2.2.1, (got2, (o1.2.2.2.2.2.2.1, (o1.2.2.2.2.2.2.2.1, (o1.2.2.2.2.2.2.2.2.1, (o1.2.2.2.2.2.2.2.2.2.1, (o1.2.2.2.2.2.2.2.2.2.2.1, (o1.2.2.2.2.2.2.2.2.2.2.2.1, (o1.2.2.2.2.2.2.2.2.2.2.2.2.1, (o1.2.2.2.2.2.2.2.2.2.2.2.2.2.1, (o1.2.2.2.2.2.2.2.2.2.2.2.2.2.2.1, ())))))))))))))))), (0, (0, (0, (0, (0, (0, (0, (0, (0, (0, (0, (0, (0, (false, (0, (0, ())))))))))))))))), ()) h3) ∧
    ((decide (o1.2.1 = 1)) = false →
    (((decide (o1.2.1 = 2)) = true →
    deque_Op_pushed.j1 Q ((o1.1, (3, (o1.2.2.1.1, (o1.2.2.1.2.1, (o1.2.2.2.1, (got2, (o1.2.2.2.2.2.1, (o1.2.2.2.2.2.2.1, (o1.2.2.2.2.2.2.2.1, (o1.2.2.2.2.2.2.2.2.1, (o1.2.2.2.2.2.2.2.2.2.1, (o1.2.2.2.2.2.2.2.2.2.2.1, (o1.2.2.2.2.2.2.2.2.2.2.2.1, (o1.2.2.2.2.2.2.2.2.2.2.2.2.1, (o1.2.2.2.2.2.2.2.2.2.2.2.2.2.1, (o1.2.2.2.2.2.2.2.2.2.2.2.2.2.2.1, ())))))))))))))))), (0, (0, (0, (0, (0, (0, (0, (0, (0, (0, (0, (0, (0, (false, (0, (0, ())))))))))))))))), ()) h3) ∧
    ((decide (o1.2.1 = 2)) = false →
    (((decide (o1.2.1 = 3)) = true →
    deque_Op_pushed.j1 Q ((o1.1, (4, (o1.2.2.1.1, (o1.2.2.1.2.1, (o1.2.2.2.1, (o1.2.2.2.2.1, (o1.2.2.2.2.2.1, (got2, (o1.2.2.2.2.2.2.2.1, (o1.2.2.2.2.2.2.2.2.1, (o1.2.2.2.2.2.2.2.2.2.1, (o1.2.2.2.2.2.2.2.2.2.2.1, (o1.2.2.2.2.2.2.2.2.2.2.2.1, (o1.2.2.2.2.2.2.2.2.2.2.2.2.1, (o1.2.2.2.2.2.2.2.2.2.2.2.2.2.1, (o1.2.2.2.2.2.2.2.2.2.2.2.2.2.2.1, ())))))))))))))))), (0, (0, (0, (0, (0, (0, (0, (0, (0, (0, (0, (0, (0, (false, (0, (0, ())))))))))))))))), ()) h3) ∧
    ((decide (o1.2.1 = 3)) = false →
    (((decide (o1.2.1 = 4)) = true →
    (((decide (got2 < 1)) = true →
    c_deque_Op_over (o1.1, (10, ((o1.2.2.1.1, (o1.2.2.1.2.1, ())), (o1.2.2.2.1, (o1.2.2.2.2.1, (o1.2.2.2.2.2.1, (o1.2.2.2.2.2.2.1, (got2, (o1.2.2.2.2.2.2.2.2.1, (o1.2.2.2.2.2.2.2.2.2.1, (o1.2.2.2.2.2.2.2.2.2.2.1, (o1.2.2.2.2.2.2.2.2.2.2.2.1, (o1.2.2.2.2.2.2.2.2.2.2.2.2.1, (o1.2.2.2.2.2.2.2.2.2.2.2.2.2.1, (o1.2.2.2.2.2.2.2.2.2.2.2.2.2.2.1, ()))))))))))))))) 1 0 h3 fun r6 h7 =>
    Q (r6.1, (r6.2.1, ((r6.2.2.1.1, (r6.2.2.1.2.1, ())), (r6.2.2.2.1, (r6.2.2.2.2.1, (r6.2.2.2.2.2.1, (r6.2.2.2.2.2.2.1, (r6.2.2.2.2.2.2.2.1, (r6.2.2.2.2.2.2.2.2.1, (r6.2.2.2.2.2.2.2.2.2.1, (r6.2.2.2.2.2.2.2.2.2.2.1, (r6.2.2.2.2.2.2.2.2.2.2.2.1, (r6.2.2.2.2.2.2.2.2.2.2.2.2.1, (r6.2.2.2.2.2.2.2.2.2.2.2.2.2.1, (r6.2.2.2.2.2.2.2.2.2.2.2.2.2.2.1, ()))))))))))))))) h7) ∧
    ((decide (got2 < 1)) = false →
    (((decide ((w64 (o1.2.2.2.2.2.1 - o1.2.2.2.2.1)) < got2)) = true →
    deque_Op_pushed.j1 Q ((o1.1, (10, (o1.2.2.1.1, (o1.2.2.1.2.1, (o1.2.2.2.1, (o1.2.2.2.2.1, (o1.2.2.2.2.2.1, (o1.2.2.2.2.2.2.1, (got2, (o1.2.2.2.2.2.2.2.2.1, (o1.2.2.2.2.2.2.2.2.2.1, (o1.2.2.2.2.2.2.2.2.2.2.1, (o1.2.2.2.2.2.2.2.2.2.2.2.1, (o1.2.2.2.2.2.2.2.2.2.2.2.2.1, (o1.2.2.2.2.2.2.2.2.2.2.2.2.2.1, (o1.2.2.2.2.2.2.2.2.2.2.2.2.2.2.1, ())))))))))))))))), (0, (0, (0, (0, (0, (0, (0, (0, (0, (0, (0, (0, (0, (false, (0, (0, ())))))))))))))))), ()) h3) ∧
    ((decide ((w64 (o1.2.2.2.2.2.1 - o1.2.2.2.2.1)) < got2)) = false →
    (((decide (o1.2.2.1.2.1 ≤ got2)) = true →
    c_deque_Op_over (o1.1, (10, ((o1.2.2.1.1, (o1.2.2.1.2.1, ())), (o1.2.2.2.1, (o1.2.2.2.2.1, (o1.2.2.2.2.2.1, (o1.2.2.2.2.2.2.1, (got2, (o1.2.2.2.2.2.2.2.2.1, (o1.2.2.2.2.2.2.2.2.2.1, (o1.2.2.2.2.2.2.2.2.2.2.1, (o1.2.2.2.2.2.2.2.2.2.2.2.1, (o1.2.2.2.2.2.2.2.2.2.2.2.2.1, (o1.2.2.2.2.2.2.2.2.2.2.2.2.2.1, (o1.2.2.2.2.2.2.2.2.2.2.2.2.2.2.1, ()))))))))))))))) 3 0 h3 fun r8 h9 =>
    Q (r8.1, (r8.2.1, ((r8.2.2.1.1, (r8.2.2.1.2.1, ())), (r8.2.2.2.1, (r8.2.2.2.2.1, (r8.2.2.2.2.2.1, (r8.2.2.2.2.2.2.1, (r8.2.2.2.2.2.2.2.1, (r8.2.2.2.2.2.2.2.2.1, (r8.2.2.2.2.2.2.2.2.2.1, (r8.2.2.2.2.2.2.2.2.2.2.1, (r8.2.2.2.2.2.2.2.2.2.2.2.1, (r8.2.2.2.2.2.2.2.2.2.2.2.2.1, (r8.2.2.2.2.2.2.2.2.2.2.2.2.2.1, (r8.2.2.2.2.2.2.2.2.2.2.2.2.2.2.1, ()))))))))))))))) h9) ∧
    ((decide (o1.2.2.1.2.1 ≤ got2)) = false →
    deque_Op_pushed.j1 Q ((o1.1, (5, (o1.2.2.1.1, (o1.2.2.1.2.1, (o1.2.2.2.1, (o1.2.2.2.2.1, (o1.2.2.2.2.2.1, (o1.2.2.2.2.2.2.1, (got2, (o1.2.2.2.2.2.2.2.2.1, ((if o1.2.2.1.2.1 < (w64 (2 * got2)) then o1.2.2.1.2.1 else (w64 (2 * got2))), (o1.2.2.2.2.2.2.2.2.2.2.1, (o1.2.2.2.2.2.2.2.2.2.2.2.1, (o1.2.2.2.2.2.2.2.2.2.2.2.2.1, (o1.2.2.2.2.2.2.2.2.2.2.2.2.2.1, (o1.2.2.2.2.2.2.2.2.2.2.2.2.2.2.1, ())))))))))))))))), (0, (0, (0, (0, (0, (0, (0, (0, (0, (0, (0, (0, (0, (false, (0, (0, ())))))))))))))))), ()) h3))))))) ∧
    ((decide (o1.2.1 = 4)) = false →
    (((decide (o1.2.1 = 5)) = true →
    deque_Op_pushed.j1 Q ((o1.1, (6, (o1.2.2.1.1, (o1.2.2.1.2.1, (o1.2.2.2.1, (o1.2.2.2.2.1, (o1.2.2.2.2.2.1, (o1.2.2.2.2.2.2.1, (o1.2.2.2.2.2.2.2.1, (got2, (o1.2.2.2.2.2.2.2.2.2.1, (o1.2.2.2.2.2.2.2.2.2.2.1, (o1.2.2.2.2.2.2.2.2.2.2.2.1, (o1.2.2.2.2.2.2.2.2.2.2.2.2.1, (o1.2.2.2.2.2.2.2.2.2.2.2.2.2.1, (o1.2.2.2.2.2.2.2.2.2.2.2.2.2.2.1, ())))))))))))))))), (0, (0, (0, (0, (0, (0, (0, (0, (0, (0, (0, (0, (0, (false, (0, (0, ())))))))))))))))), ()) h3) ∧
    ((decide (o1.2.1 = 5)) = false →
    (((decide (o1.2.1 = 6)) = true →
    deque_Op_pushed.j1 Q ((o1.1, (7, (o1.2.2.1.1, (o1.2.2.1.2.1, (o1.2.2.2.1, (o1.2.2.2.2.1, (o1.2.2.2.2.2.1, (o1.2.2.2.2.2.2.1, (o1.2.2.2.2.2.2.2.1, (o1.2.2.2.2.2.2.2.2.1, (o1.2.2.2.2.2.2.2.2.2.1, (o1.2.2.2.2.1, (o1.2.2.2.2.2.2.2.2.2.2.2.1, (o1.2.2.2.2.2.2.2.2.2.2.2.2.1, (o1.2.2.2.2.2.2.2.2.2.2.2.2.2.1, (o1.2.2.2.2.2.2.2.2.2.2.2.2.2.2.1, ())))))))))))))))), (0, (0, (0, (0, (0, (0, (0, (0, (0, (0, (0, (0, (0, (false, (0, (0, ())))))))))))))))), ()) h3) ∧
    ((decide (o1.2.1 = 6)) = false →
    (((decide (o1.2.1 = 7)) = true →
    deque_Op_pushed.j1 Q ((o1.1, (8, (o1.2.2.1.1, (o1.2.2.1.2.1, (o1.2.2.2.1, (o1.2.2.2.2.1, (o1.2.2.2.2.2.1, (o1.2.2.2.2.2.2.1, (o1.2.2.2.2.2.2.2.1, (o1.2.2.2.2.2.2.2.2.1, (o1.2.2.2.2.2.2.2.2.2.1, (o1.2.2.2.2.2.2.2.2.2.2.1, (got2, (o1.2.2.2.2.2.2.2.2.2.2.2.2.1, (o1.2.2.2.2.2.2.2.2.2.2.2.2.2.1, (o1.2.2.2.2.2.2.2.2.2.2.2.2.2.2.1, ())))))))))))))))), (0, (0, (0, (0, (0, (0, (0, (0, (0, (0, (0, (0, (0, (false, (0, (0, ())))))))))))))))), ()) h3) ∧
    ((decide (o1.2.1 = 7)) = false →
    (((decide (o1.2.1 = 8)) = true →
    (((decide ((w64 (o1.2.2.2.2.2.2.2.2.2.2.1 + 1)) = o1.2.2.2.2.2.1)) = true →
    deque_Op_pushed.j1 Q ((o1.1, (9, (o1.2.2.1.1, (o1.2.2.1.2.1, (o1.2.2.2.1, (o1.2.2.2.2.1, (o1.2.2.2.2.2.1, (o1.2.2.2.2.2.2.1, (o1.2.2.2.2.2.2.2.1, (o1.2.2.2.2.2.2.2.2.1, (o1.2.2.2.2.2.2.2.2.2.1, ((w64 (o1.2.2.2.2.2.2.2.2.2.2.1 + 1)), (o1.2.2.2.2.2.2.2.2.2.2.2.1, (o1.2.2.2.2.2.2.2.2.2.2.2.2.1, (o1.2.2.2.2.2.2.2.2.2.2.2.2.2.1, (o1.2.2.2.2.2.2.2.2.2.2.2.2.2.2.1, ())))))))))))))))), (0, (0, (0, (0, (0, (0, (0, (0, (0, (0, (0, (0, (0, (false, (0, (0, ())))))))))))))))), ()) h3) ∧
    ((decide ((w64 (o1.2.2.2.2.2.2.2.2.2.2.1 + 1)) = o1.2.2.2.2.2.1)) = false →
    deque_Op_pushed.j1 Q ((o1.1, (7, (o1.2.2.1.1, (o1.2.2.1.2.1, (o1.2.2.2.1, (o1.2.2.2.2.1, (o1.2.2.2.2.2.1, (o1.2.2.2.2.2.2.1, (o1.2.2.2.2.2.2.2.1, (o1.2.2.2.2.2.2.2.2.1, (o1.2.2.2.2.2.2.2.2.2.1, ((w64 (o1.2.2.2.2.2.2.2.2.2.2.1 + 1)), (o1.2.2.2.2.2.2.2.2.2.2.2.1, (o1.2.2.2.2.2.2.2.2.2.2.2.2.1, (o1.2.2.2.2.2.2.2.2.2.2.2.2.2.1, (o1.2.2.2.2.2.2.2.2.2.2.2.2.2.2.1, ())))))))))))))))), (0, (0, (0, (0, (0, (0, (0, (0, (0, (0, (0, (0, (0, (false, (0, (0, ())))))))))))))))), ()) h3))) ∧
    ((decide (o1.2.1 = 8)) = false →
    (((decide (o1.2.1 = 9)) = true →
    deque_Op_pushed.j1 Q ((o1.1, (10, (o1.2.2.1.1, (o1.2.2.1.2.1, (o1.2.2.2.1, (o1.2.2.2.2.1, (o1.2.2.2.2.2.1, (o1.2.2.2.2.2.2.2.2.1, (o1.2.2.2.2.2.2.2.2.2.1, (o1.2.2.2.2.2.2.2.2.1, (o1.2.2.2.2.2.2.2.2.2.1, (o1.2.2.2.2.2.2.2.2.2.2.1, (o1.2.2.2.2.2.2.2.2.2.2.2.1, (o1.2.2.2.2.2.2.2.2.2.2.2.2.1, (o1.2.2.2.2.2.2.2.2.2.2.2.2.2.1, (o1.2.2.2.2.2.2.2.2.2.2.2.2.2.2.1, ())))))))))))))))), (0, (0, (0, (0, (0, (0, (0, (0, (0, (0, (0, (0, (0, (false, (0, (0, ())))))))))))))))), ()) h3) ∧
    ((decide (o1.2.1 = 9)) = false →
    (((decide (o1.2.1 = 10)) = true →
    deque_Op_pushed.j1 Q ((o1.1, (11, (o1.2.2.1.1, (o1.2.2.1.2.1, (o1.2.2.2.1, (o1.2.2.2.2.1, (o1.2.2.2.2.2.1, (o1.2.2.2.2.2.2.1, (o1.2.2.2.2.2.2.2.1, (o1.2.2.2.2.2.2.2.2.1, (o1.2.2.2.2.2.2.2.2.2.1, (o1.2.2.2.2.2.2.2.2.2.2.1, (o1.2.2.2.2.2.2.2.2.2.2.2.1, (o1.2.2.2.2.2.2.2.2.2.2.2.2.1, (o1.2.2.2.2.2.2.2.2.2.2.2.2.2.1, (o1.2.2.2.2.2.2.2.2.2.2.2.2.2.2.1, ())))))))))))))))), (0, (0, (0, (0, (0, (0, (0, (0, (0, (0, (0, (0, (0, (false, (0, (0, ())))))))))))))))), ()) h3) ∧
    ((decide (o1.2.1 = 10)) = false →
    (((decide (o1.2.1 = 11)) = true →
    c_deque_Op_over (o1.1, (o1.2.1, ((o1.2.2.1.1, (o1.2.2.1.2.1, ())), (o1.2.2.2.1, (o1.2.2.2.2.1, (o1.2.2.2.2.2.1, (o1.2.2.2.2.2.2.1, (o1.2.2.2.2.2.2.2.1, (o1.2.2.2.2.2.2.2.2.1, (o1.2.2.2.2.2.2.2.2.2.1, (o1.2.2.2.2.2.2.2.2.2.2.1, (o1.2.2.2.2.2.2.2.2.2.2.2.1, (o1.2.2.2.2.2.2.2.2.2.2.2.2.1, (o1.2.2.2.2.2.2.2.2.2.2.2.2.2.1, (o1.2.2.2.2.2.2.2.2.2.2.2.2.2.2.1, ()))))))))))))))) 2 0 h3 fun r10 h11 =>
    Q (r10.1, (r10.2.1, ((r10.2.2.1.1, (r10.2.2.1.2.1, ())), (r10.2.2.2.1, (r10.2.2.2.2.1, (r10.2.2.2.2.2.1, (r10.2.2.2.2.2.2.1, (r10.2.2.2.2.2.2.2.1, (r10.2.2.2.2.2.2.2.2.1, (r10.2.2.2.2.2.2.2.2.2.1, (r10.2.2.2.2.2.2.2.2.2.2.1, (r10.2.2.2.2.2.2.2.2.2.2.2.1, (r10.2.2.2.2.2.2.2.2.2.2.2.2.1, (r10.2.2.2.2.2.2.2.2.2.2.2.2.2.1, (r10.2.2.2.2.2.2.2.2.2.2.2.2.2.2.1, ()))))))))))))))) h11) ∧
    ((decide (o1.2.1 = 11)) = false →
    deque_Op_pushed.j1 Q ((o1.1, (o1.2.1, (o1.2.2.1.1, (o1.2.2.1.2.1, (o1.2.2.2.1, (o1.2.2.2.2.1, (o1.2.2.2.2.2.1, (o1.2.2.2.2.2.2.1, (o1.2.2.2.2.2.2.2.1, (o1.2.2.2.2.2.2.2.2.1, (o1.2.2.2.2.2.2.2.2.2.1, (o1.2.2.2.2.2.2.2.2.2.2.1, (o1.2.2.2.2.2.2.2.2.2.2.2.1, (o1.2.2.2.2.2.2.2.2.2.2.2.2.1, (o1.2.2.2.2.2.2.2.2.2.2.2.2.2.1, (o1.2.2.2.2.2.2.2.2.2.2.2.2.2.2.1, ())))))))))))))))), (0, (0, (0, (0, (0, (0, (0, (0, (0, (0, (0, (0, (0, (false, (0, (0, ())))))))))))))))), ()) h3))))))))))))))))))))))
def deque_Op_pushed.mk : Mk := (.s (.r [0, 1]) (.j [.box 2 (.pair (.int .i64) (.pair (.int .i64) (.pair (.int .i64) (.pair (.int .i64) (.pair (.int .i64) (.pair (.int .i64) (.pair (.int .i64) (.pair (.int .i64) (.pair (.int .i64) (.pair (.int .i64) (.pair (.int .i64) (.pair (.int .i64) (.pair (.int .i64) (.pair .bool kparkLot)))))))))))))), .box 4 (.pair (.int .i64) (.pair (.int .i64) (.pair (.int .i64) (.pair (.int .i64) (.pair (.int .i64) (.pair (.int .i64) (.pair (.int .i64) (.pair (.int .i64) (.pair (.int .i64) (.pair (.int .i64) (.pair (.int .i64) (.pair (.int .i64) (.pair (.int .i64) (.pair .bool kparkLot))))))))))))))] (.s .d (.b (.s .d (.c .d (.s .d (.c .d (.s .d (.c .d (.s .d (.c (.s .d (.b (.s .d (.c (.s .d .d) (.s .d (.c .d (.s .d (.c (.s .d .d) .d)))))))) (.s .d (.c .d (.s .d (.c .d (.s .d (.c .d (.s .d (.c (.s .d (.s .d (.s .d (.c .d .d)))) (.s .d (.c .d (.s .d (.c .d (.s .d (.c (.s .d .d) .d)))))))))))))))))))))))) (.s .d .d)))

def deque_Op_popped.j1 (Q : Den kdequeOp → Heap → Prop) (s4 : ((Int × (Int × (Int × (Int × (Int × (Int × (Int × (Int × (Int × (Int × (Int × (Int × (Int × (Bool × Den kparkLot)))))))))))))) × ((Int × (Int × (Int × (Int × (Int × (Int × (Int × (Int × (Int × (Int × (Int × (Int × (Int × (Bool × Den kparkLot)))))))))))))) × Unit))) (h5 : Heap) : Prop :=
    Q (s4.1.1, (s4.1.2.1, ((s4.1.2.2.1, (s4.1.2.2.2.1, ())), (s4.1.2.2.2.2.1, (s4.1.2.2.2.2.2.1, (s4.1.2.2.2.2.2.2.1, (s4.1.2.2.2.2.2.2.2.1, (s4.1.2.2.2.2.2.2.2.2.1, (s4.1.2.2.2.2.2.2.2.2.2.1, (s4.1.2.2.2.2.2.2.2.2.2.2.1, (s4.1.2.2.2.2.2.2.2.2.2.2.2.1, (s4.1.2.2.2.2.2.2.2.2.2.2.2.2.1, (s4.1.2.2.2.2.2.2.2.2.2.2.2.2.2.1, (s4.1.2.2.2.2.2.2.2.2.2.2.2.2.2.2.1, (s4.1.2.2.2.2.2.2.2.2.2.2.2.2.2.2.2.1, ()))))))))))))))) h5
def deque_Op_popped.M (c_deque_Op_over : Den kdequeOp → Int → Int → Heap → (Den kdequeOp → Heap → Prop) → Prop) (o1 : Den kdequeOp) (got2 : Int) (h3 : Heap) (Q : Den kdequeOp → Heap → Prop) : Prop :=
    (((decide (o1.2.1 = 1)) = true →
    deque_Op_popped.j1 Q ((o1.1, (3, (o1.2.2.1.1, (o1.2.2.1.2.1, (o1.2.2.2.1, (o1.2.2.2.2.1, ((w64 (got2 - 1)), (o1.2.2.2.2.2.2.1, (o1.2.2.2.2.2.2.2.1, (o1.2.2.2.2.2.2.2.2.1, (o1.2.2.2.2.2.2.2.2.2.1, (o1.2.2.2.2.2.2.2.2.2.2.1, (o1.2.2.2.2.2.2.2.2.2.2.2.1, (o1.2.2.2.2.2.2.2.2.2.2.2.2.1, (o1.2.2.2.2.2.2.2.2.2.2.2.2.2.1, (o1.2.2.2.2.2.2.2.2.2.2.2.2.2.2.1, ())))))))))))))))), (0, (0, (0, (0, (0, (0, (0, (0, (0, (0, (0, (0, (0, (false, (0, (0, ())))))))))))))))), ()) h3) ∧
    ((decide (o1.2.1 = 1)) = false →
    (((decide (o1.2.1 = 3)) = true →
    deque_Op_popped.j1 Q ((o1.1, (11, (o1.2.2.1.1, (o1.2.2.1.2.1, (o1.2.2.2.1, (o1.2.2.2.2.1, (o1.2.2.2.2.2.1, (got2, (o1.2.2.2.2.2.2.2.1, (o1.2.2.2.2.2.2.2.2.1, (o1.2.2.2.2.2.2.2.2.2.1, (o1.2.2.2.2.2.2.2.2.2.2.1, (o1.2.2.2.2.2.2.2.2.2.2.2.1, (o1.2.2.2.2.2.2.2.2.2.2.2.2.1, (o1.2.2.2.2.2.2.2.2.2.2.2.2.2.1, (o1.2.2.2.2.2.2.2.2.2.2.2.2.2.2.1, ())))))))))))))))), (0, (0, (0, (0, (0, (0, (0, (0, (0, (0, (0, (0, (0, (false, (0, (0, ())))))))))))))))), ()) h3) ∧
    ((decide (o1.2.1 = 3)) = false →
    (((decide (o1.2.1 = 11)) = true →
    (((decide (o1.2.2.2.2.2.2.2.2.2.2.1 = 0)) = true →
    deque_Op_popped.j1 Q ((o1.1, (2, (o1.2.2.1.1, (o1.2.2.1.2.1, (o1.2.2.2.1, (o1.2.2.2.2.1, (o1.2.2.2.2.2.1, (o1.2.2.2.2.2.2.1, (o1.2.2.2.2.2.2.2.1, (o1.2.2.2.2.2.2.2.2.1, (o1.2.2.2.2.2.2.2.2.2.1, (o1.2.2.2.2.2.2.2.2.2.2.1, (o1.2.2.2.2.2.2.2.2.2.2.2.1, (o1.2.2.2.2.2.2.2.2.2.2.2.2.1, (o1.2.2.2.2.2.2.2.2.2.2.2.2.2.1, (o1.2.2.2.2.2.2.2.2.2.2.2.2.2.2.1, ())))))))))))))))), (0, (0, (0, (0, (0, (0, (0, (0, (0, (0, (0, (0, (0, (false, (0, (0, ())))))))))))))))), ()) h3) ∧
    ((decide (o1.2.2.2.2.2.2.2.2.2.2.1 = 0)) = false →
    ((o1.2.2.2.2.2.2.2.2.2.2.2.2.1 = true →
    c_deque_Op_over (o1.1, (o1.2.1, ((o1.2.2.1.1, (o1.2.2.1.2.1, ())), (o1.2.2.2.1, (o1.2.2.2.2.1, (o1.2.2.2.2.2.1, (o1.2.2.2.2.2.2.1, (o1.2.2.2.2.2.2.2.1, (o1.2.2.2.2.2.2.2.2.1, (o1.2.2.2.2.2.2.2.2.2.1, (o1.2.2.2.2.2.2.2.2.2.2.1, (o1.2.2.2.2.2.2.2.2.2.2.2.1, (o1.2.2.2.2.2.2.2.2.2.2.2.2.1, (o1.2.2.2.2.2.2.2.2.2.2.2.2.2.1, (o1.2.2.2.2.2.2.2.2.2.2.2.2.2.2.1, ()))))))))))))))) 4 o1.2.2.2.2.2.2.2.2.2.2.2.1 h3 fun r6 h7 =>
    Q (r6.1, (r6.2.1, ((r6.2.2.1.1, (r6.2.2.1.2.1, ())), (r6.2.2.2.1, (r6.2.2.2.2.1, (r6.2.2.2.2.2.1, (r6.2.2.2.2.2.2.1, (r6.2.2.2.2.2.2.2.1, (r6.2.2.2.2.2.2.2.2.1, (r6.2.2.2.2.2.2.2.2.2.1, (r6.2.2.2.2.2.2.2.2.2.2.1, (r6.2.2.2.2.2.2.2.2.2.2.2.1, (r6.2.2.2.2.2.2.2.2.2.2.2.2.1, (r6.2.2.2.2.2.2.2.2.2.2.2.2.2.1, (r6.2.2.2.2.2.2.2.2.2.2.2.2.2.2.1, ()))))))))))))))) h7) ∧
    (o1.2.2.2.2.2.2.2.2.2.2.2.2.1 = false →
    c_deque_Op_over (o1.1, (o1.2.1, ((o1.2.2.1.1, (o1.2.2.1.2.1, ())), (o1.2.2.2.1, (o1.2.2.2.2.1, (o1.2.2.2.2.2.1, (o1.2.2.2.2.2.2.1, (o1.2.2.2.2.2.2.2.1, (o1.2.2.2.2.2.2.2.2.1, (o1.2.2.2.2.2.2.2.2.2.1, (o1.2.2.2.2.2.2.2.2.2.2.1, (o1.2.2.2.2.2.2.2.2.2.2.2.1, (o1.2.2.2.2.2.2.2.2.2.2.2.2.1, (o1.2.2.2.2.2.2.2.2.2.2.2.2.2.1, (o1.2.2.2.2.2.2.2.2.2.2.2.2.2.2.1, ()))))))))))))))) 5 0 h3 fun r8 h9 =>
    Q (r8.1, (r8.2.1, ((r8.2.2.1.1, (r8.2.2.1.2.1, ())), (r8.2.2.2.1, (r8.2.2.2.2.1, (r8.2.2.2.2.2.1, (r8.2.2.2.2.2.2.1, (r8.2.2.2.2.2.2.2.1, (r8.2.2.2.2.2.2.2.2.1, (r8.2.2.2.2.2.2.2.2.2.1, (r8.2.2.2.2.2.2.2.2.2.2.1, (r8.2.2.2.2.2.2.2.2.2.2.2.1, (r8.2.2.2.2.2.2.2.2.2.2.2.2.1, (r8.2.2.2.2.2.2.2.2.2.2.2.2.2.1, (r8.2.2.2.2.2.2.2.2.2.2.2.2.2.2.1, ()))))))))))))))) h9))))) ∧
    ((decide (o1.2.1 = 11)) = false →
    (((decide (o1.2.1 = 2)) = true →
    (((decide (o1.2.2.2.2.2.1 < got2)) = true →
    deque_Op_popped.j1 Q ((o1.1, (11, (o1.2.2.1.1, (o1.2.2.1.2.1, (o1.2.2.2.1, (got2, (o1.2.2.2.2.2.1, (o1.2.2.2.2.2.2.1, (o1.2.2.2.2.2.2.2.1, (o1.2.2.2.2.2.2.2.2.1, (o1.2.2.2.2.2.2.2.2.2.1, (1, (o1.2.2.2.2.2.2.2.2.2.2.2.1, (o1.2.2.2.2.2.2.2.2.2.2.2.2.1, (o1.2.2.2.2.2.2.2.2.2.2.2.2.2.1, (o1.2.2.2.2.2.2.2.2.2.2.2.2.2.2.1, ())))))))))))))))), (0, (0, (0, (0, (0, (0, (0, (0, (0, (0, (0, (0, (0, (false, (0, (0, ())))))))))))))))), ()) h3) ∧
    ((decide (o1.2.2.2.2.2.1 < got2)) = false →
    deque_Op_popped.j1 Q ((o1.1, (4, (o1.2.2.1.1, (o1.2.2.1.2.1, (o1.2.2.2.1, (got2, (o1.2.2.2.2.2.1, (o1.2.2.2.2.2.2.1, (o1.2.2.2.2.2.2.2.1, (o1.2.2.2.2.2.2.2.2.1, (o1.2.2.2.2.2.2.2.2.2.1, (1, (o1.2.2.2.2.2.2.2.2.2.2.2.1, (o1.2.2.2.2.2.2.2.2.2.2.2.2.1, (o1.2.2.2.2.2.2.2.2.2.2.2.2.2.1, (o1.2.2.2.2.2.2.2.2.2.2.2.2.2.2.1, ())))))))))))))))), (0, (0, (0, (0, (0, (0, (0, (0, (0, (0, (0, (0, (0, (false, (0, (0, ())))))))))))))))), ()) h3))) ∧
    ((decide (o1.2.1 = 2)) = false →
    (((decide (o1.2.1 = 4)) = true →
    (((decide (got2 < 1)) = true →
    c_deque_Op_over (o1.1, (12, ((o1.2.2.1.1, (o1.2.2.1.2.1, ())), (o1.2.2.2.1, (o1.2.2.2.2.1, (o1.2.2.2.2.2.1, (o1.2.2.2.2.2.2.1, (got2, (o1.2.2.2.2.2.2.2.2.1, (o1.2.2.2.2.2.2.2.2.2.1, (o1.2.2.2.2.2.2.2.2.2.2.1, (o1.2.2.2.2.2.2.2.2.2.2.2.1, (o1.2.2.2.2.2.2.2.2.2.2.2.2.1, (o1.2.2.2.2.2.2.2.2.2.2.2.2.2.1, (o1.2.2.2.2.2.2.2.2.2.2.2.2.2.2.1, ()))))))))))))))) 1 0 h3 fun r10 h11 =>
    Q (r10.1, (r10.2.1, ((r10.2.2.1.1, (r10.2.2.1.2.1, ())), (r10.2.2.2.1, (r10.2.2.2.2.1, (r10.2.2.2.2.2.1, (r10.2.2.2.2.2.2.1, (r10.2.2.2.2.2.2.2.1, (r10.2.2.2.2.2.2.2.2.1, (r10.2.2.2.2.2.2.2.2.2.1, (r10.2.2.2.2.2.2.2.2.2.2.1, (r10.2.2.2.2.2.2.2.2.2.2.2.1, (r10.2.2.2.2.2.2.2.2.2.2.2.2.1, (r10.2.2.2.2.2.2.2.2.2.2.2.2.2.1, (r10.2.2.2.2.2.2.2.2.2.2.2.2.2.2.1, ()))))))))))))))) h11) ∧
    ((decide (got2 < 1)) = false →
    deque_Op_popped.j1 Q ((o1.1, (12, (o1.2.2.1.1, (o1.2.2.1.2.1, (o1.2.2.2.1, (o1.2.2.2.2.1, (o1.2.2.2.2.2.1, (o1.2.2.2.2.2.2.1, (got2, (o1.2.2.2.2.2.2.2.2.1, (o1.2.2.2.2.2.2.2.2.2.1, (o1.2.2.2.2.2.2.2.2.2.2.1, (o1.2.2.2.2.2.2.2.2.2.2.2.1, (o1.2.2.2.2.2.2.2.2.2.2.2.2.1, (o1.2.2.2.2.2.2.2.2.2.2.2.2.2.1, (o1.2.2.2.2.2.2.2.2.2.2.2.2.2.2.1, ())))))))))))))))), (0, (0, (0, (0, (0, (0, (0, (0, (0, (0, (0, (0, (0, (false, (0, (0, ())))))))))))))))), ()) h3))) ∧
    ((decide (o1.2.1 = 4)) = false →
    (((decide (o1.2.1 = 12)) = true →
    (((decide (o1.2.2.2.2.1 < o1.2.2.2.2.2.1)) = true →
    c_deque_Op_over (o1.1, (13, ((o1.2.2.1.1, (o1.2.2.1.2.1, ())), (o1.2.2.2.1, (o1.2.2.2.2.1, (o1.2.2.2.2.2.1, (o1.2.2.2.2.2.2.1, (o1.2.2.2.2.2.2.2.1, (o1.2.2.2.2.2.2.2.2.1, (o1.2.2.2.2.2.2.2.2.2.1, (o1.2.2.2.2.2.2.2.2.2.2.1, (got2, (o1.2.2.2.2.2.2.2.2.2.2.2.2.1, (o1.2.2.2.2.2.2.2.2.2.2.2.2.2.1, (o1.2.2.2.2.2.2.2.2.2.2.2.2.2.2.1, ()))))))))))))))) 4 got2 h3 fun r12 h13 =>
    Q (r12.1, (r12.2.1, ((r12.2.2.1.1, (r12.2.2.1.2.1, ())), (r12.2.2.2.1, (r12.2.2.2.2.1, (r12.2.2.2.2.2.1, (r12.2.2.2.2.2.2.1, (r12.2.2.2.2.2.2.2.1, (r12.2.2.2.2.2.2.2.2.1, (r12.2.2.2.2.2.2.2.2.2.1, (r12.2.2.2.2.2.2.2.2.2.2.1, (r12.2.2.2.2.2.2.2.2.2.2.2.1, (r12.2.2.2.2.2.2.2.2.2.2.2.2.1, (r12.2.2.2.2.2.2.2.2.2.2.2.2.2.1, (r12.2.2.2.2.2.2.2.2.2.2.2.2.2.2.1, ()))))))))))))))) h13) ∧
    ((decide (o1.2.2.2.2.1 < o1.2.2.2.2.2.1)) = false →
    deque_Op_popped.j1 Q ((o1.1, (13, (o1.2.2.1.1, (o1.2.2.1.2.1, (o1.2.2.2.1, (o1.2.2.2.2.1, (o1.2.2.2.2.2.1, (o1.2.2.2.2.2.2.1, (o1.2.2.2.2.2.2.2.1, (o1.2.2.2.2.2.2.2.2.1, (o1.2.2.2.2.2.2.2.2.2.1, (o1.2.2.2.2.2.2.2.2.2.2.1, (got2, (o1.2.2.2.2.2.2.2.2.2.2.2.2.1, (o1.2.2.2.2.2.2.2.2.2.2.2.2.2.1, (o1.2.2.2.2.2.2.2.2.2.2.2.2.2.2.1, ())))))))))))))))), (0, (0, (0, (0, (0, (0, (0, (0, (0, (0, (0, (0, (0, (false, (0, (0, ())))))))))))))))), ()) h3))) ∧
    ((decide (o1.2.1 = 12)) = false →
    (((decide (o1.2.1 = 13)) = true →
    deque_Op_popped.j1 Q ((o1.1, (11, (o1.2.2.1.1, (o1.2.2.1.2.1, (o1.2.2.2.1, (o1.2.2.2.2.1, (o1.2.2.2.2.2.1, (o1.2.2.2.2.2.2.1, (o1.2.2.2.2.2.2.2.1, (o1.2.2.2.2.2.2.2.2.1, (o1.2.2.2.2.2.2.2.2.2.1, (o1.2.2.2.2.2.2.2.2.2.2.1, (o1.2.2.2.2.2.2.2.2.2.2.2.1, ((decide (got2 = 1)), (o1.2.2.2.2.2.2.2.2.2.2.2.2.2.1, (o1.2.2.2.2.2.2.2.2.2.2.2.2.2.2.1, ())))))))))))))))), (0, (0, (0, (0, (0, (0, (0, (0, (0, (0, (0, (0, (0, (false, (0, (0, ())))))))))))))))), ()) h3) ∧
    ((decide (o1.2.1 = 13)) = false →
    deque_Op_popped.j1 Q ((o1.1, (o1.2.1, (o1.2.2.1.1, (o1.2.2.1.2.1, (o1.2.2.2.1, (o1.2.2.2.2.1, (o1.2.2.2.2.2.1, (o1.2.2.2.2.2.2.1, (o1.2.2.2.2.2.2.2.1, (o1.2.2.2.2.2.2.2.2.1, (o1.2.2.2.2.2.2.2.2.2.1, (o1.2.2.2.2.2.2.2.2.2.2.1, (o1.2.2.2.2.2.2.2.2.2.2.2.1, (o1.2.2.2.2.2.2.2.2.2.2.2.2.1, (o1.2.2.2.2.2.2.2.2.2.2.2.2.2.1, (o1.2.2.2.2.2.2.2.2.2.2.2.2.2.2.1, ())))))))))))))))), (0, (0, (0, (0, (0, (0, (0, (0, (0, (0, (0, (0, (0, (false, (0, (0, ())))))))))))))))), ()) h3))))))))))))))
def deque_Op_popped.mk : Mk := (.s (.r [0, 1]) (.j [.box 2 (.pair (.int .i64) (.pair (.int .i64) (.pair (.int .i64) (.pair (.int .i64) (.pair (.int .i64) (.pair (.int .i64) (.pair (.int .i64) (.pair (.int .i64) (.pair (.int .i64) (.pair (.int .i64) (.pair (.int .i64) (.pair (.int .i64) (.pair (.int .i64) (.pair .bool kparkLot)))))))))))))), .box 4 (.pair (.int .i64) (.pair (.int .i64) (.pair (.int .i64) (.pair (.int .i64) (.pair (.int .i64) (.pair (.int .i64) (.pair (.int .i64) (.pair (.int .i64) (.pair (.int .i64) (.pair (.int .i64) (.pair (.int .i64) (.pair (.int .i64) (.pair (.int .i64) (.pair .bool kparkLot))))))))))))))] (.s .d (.b (.s .d (.c .d (.s .d (.c .d (.s .d (.c (.b (.s .d (.c .d (.s .d (.c (.s .d .d) (.s .d .d)))))) (.s .d (.c (.s .d (.s .d (.c .d .d))) (.s .d (.c (.s .d (.s .d (.c (.s .d .d) .d))) (.s .d (.c (.s .d (.s .d (.c (.s .d .d) .d))) (.s .d (.c .d .d)))))))))))))))) (.s .d .d)))

def deque_Op_stolen.j1 (Q : Den kdequeOp → Heap → Prop) (s4 : ((Int × (Int × (Int × (Int × (Int × (Int × (Int × (Int × (Int × (Int × (Int × (Int × (Int × (Bool × Den kparkLot)))))))))))))) × ((Int × (Int × (Int × (Int × (Int × (Int × (Int × (Int × (Int × (Int × (Int × (Int × (Int × (Bool × Den kparkLot)))))))))))))) × Unit))) (h5 : Heap) : Prop :=
    Q (s4.1.1, (s4.1.2.1, ((s4.1.2.2.1, (s4.1.2.2.2.1, ())), (s4.1.2.2.2.2.1, (s4.1.2.2.2.2.2.1, (s4.1.2.2.2.2.2.2.1, (s4.1.2.2.2.2.2.2.2.1, (s4.1.2.2.2.2.2.2.2.2.1, (s4.1.2.2.2.2.2.2.2.2.2.1, (s4.1.2.2.2.2.2.2.2.2.2.2.1, (s4.1.2.2.2.2.2.2.2.2.2.2.2.1, (s4.1.2.2.2.2.2.2.2.2.2.2.2.2.1, (s4.1.2.2.2.2.2.2.2.2.2.2.2.2.2.1, (s4.1.2.2.2.2.2.2.2.2.2.2.2.2.2.2.1, (s4.1.2.2.2.2.2.2.2.2.2.2.2.2.2.2.2.1, ()))))))))))))))) h5
def deque_Op_stolen.M (c_deque_Op_over : Den kdequeOp → Int → Int → Heap → (Den kdequeOp → Heap → Prop) → Prop) (o1 : Den kdequeOp) (got2 : Int) (h3 : Heap) (Q : Den kdequeOp → Heap → Prop) : Prop :=
    (((decide (o1.2.1 = 2)) = true →
    deque_Op_stolen.j1 Q ((o1.1, (1, (o1.2.2.1.1, (o1.2.2.1.2.1, (o1.2.2.2.1, (got2, (o1.2.2.2.2.2.1, (o1.2.2.2.2.2.2.1, (o1.2.2.2.2.2.2.2.1, (o1.2.2.2.2.2.2.2.2.1, (o1.2.2.2.2.2.2.2.2.2.1, (o1.2.2.2.2.2.2.2.2.2.2.1, (o1.2.2.2.2.2.2.2.2.2.2.2.1, (o1.2.2.2.2.2.2.2.2.2.2.2.2.1, (o1.2.2.2.2.2.2.2.2.2.2.2.2.2.1, (o1.2.2.2.2.2.2.2.2.2.2.2.2.2.2.1, ())))))))))))))))), (0, (0, (0, (0, (0, (0, (0, (0, (0, (0, (0, (0, (0, (false, (0, (0, ())))))))))))))))), ()) h3) ∧
    ((decide (o1.2.1 = 2)) = false →
    (((decide (o1.2.1 = 1)) = true →
    (((decide (got2 ≤ o1.2.2.2.2.1)) = true →
    c_deque_Op_over (o1.1, (3, ((o1.2.2.1.1, (o1.2.2.1.2.1, ())), (o1.2.2.2.1, (o1.2.2.2.2.1, (got2, (o1.2.2.2.2.2.2.1, (o1.2.2.2.2.2.2.2.1, (o1.2.2.2.2.2.2.2.2.1, (o1.2.2.2.2.2.2.2.2.2.1, (o1.2.2.2.2.2.2.2.2.2.2.1, (o1.2.2.2.2.2.2.2.2.2.2.2.1, (o1.2.2.2.2.2.2.2.2.2.2.2.2.1, (o1.2.2.2.2.2.2.2.2.2.2.2.2.2.1, (o1.2.2.2.2.2.2.2.2.2.2.2.2.2.2.1, ()))))))))))))))) 5 0 h3 fun r6 h7 =>
    Q (r6.1, (r6.2.1, ((r6.2.2.1.1, (r6.2.2.1.2.1, ())), (r6.2.2.2.1, (r6.2.2.2.2.1, (r6.2.2.2.2.2.1, (r6.2.2.2.2.2.2.1, (r6.2.2.2.2.2.2.2.1, (r6.2.2.2.2.2.2.2.2.1, (r6.2.2.2.2.2.2.2.2.2.1, (r6.2.2.2.2.2.2.2.2.2.2.1, (r6.2.2.2.2.2.2.2.2.2.2.2.1, (r6.2.2.2.2.2.2.2.2.2.2.2.2.1, (r6.2.2.2.2.2.2.2.2.2.2.2.2.2.1, (r6.2.2.2.2.2.2.2.2.2.2.2.2.2.2.1, ()))))))))))))))) h7) ∧
    ((decide (got2 ≤ o1.2.2.2.2.1)) = false →
    deque_Op_stolen.j1 Q ((o1.1, (3, (o1.2.2.1.1, (o1.2.2.1.2.1, (o1.2.2.2.1, (o1.2.2.2.2.1, (got2, (o1.2.2.2.2.2.2.1, (o1.2.2.2.2.2.2.2.1, (o1.2.2.2.2.2.2.2.2.1, (o1.2.2.2.2.2.2.2.2.2.1, (o1.2.2.2.2.2.2.2.2.2.2.1, (o1.2.2.2.2.2.2.2.2.2.2.2.1, (o1.2.2.2.2.2.2.2.2.2.2.2.2.1, (o1.2.2.2.2.2.2.2.2.2.2.2.2.2.1, (o1.2.2.2.2.2.2.2.2.2.2.2.2.2.2.1, ())))))))))))))))), (0, (0, (0, (0, (0, (0, (0, (0, (0, (0, (0, (0, (0, (false, (0, (0, ())))))))))))))))), ()) h3))) ∧
    ((decide (o1.2.1 = 1)) = false →
    (((decide (o1.2.1 = 3)) = true →
    deque_Op_stolen.j1 Q ((o1.1, (4, (o1.2.2.1.1, (o1.2.2.1.2.1, (o1.2.2.2.1, (o1.2.2.2.2.1, (o1.2.2.2.2.2.1, (got2, (o1.2.2.2.2.2.2.2.1, (o1.2.2.2.2.2.2.2.2.1, (o1.2.2.2.2.2.2.2.2.2.1, (o1.2.2.2.2.2.2.2.2.2.2.1, (o1.2.2.2.2.2.2.2.2.2.2.2.1, (o1.2.2.2.2.2.2.2.2.2.2.2.2.1, (o1.2.2.2.2.2.2.2.2.2.2.2.2.2.1, (o1.2.2.2.2.2.2.2.2.2.2.2.2.2.2.1, ())))))))))))))))), (0, (0, (0, (0, (0, (0, (0, (0, (0, (0, (0, (0, (0, (false, (0, (0, ())))))))))))))))), ()) h3) ∧
    ((decide (o1.2.1 = 3)) = false →
    (((decide (o1.2.1 = 4)) = true →
    (((decide (got2 < 1)) = true →
    c_deque_Op_over (o1.1, (12, ((o1.2.2.1.1, (o1.2.2.1.2.1, ())), (o1.2.2.2.1, (o1.2.2.2.2.1, (o1.2.2.2.2.2.1, (o1.2.2.2.2.2.2.1, (got2, (o1.2.2.2.2.2.2.2.2.1, (o1.2.2.2.2.2.2.2.2.2.1, (o1.2.2.2.2.2.2.2.2.2.2.1, (o1.2.2.2.2.2.2.2.2.2.2.2.1, (o1.2.2.2.2.2.2.2.2.2.2.2.2.1, (o1.2.2.2.2.2.2.2.2.2.2.2.2.2.1, (o1.2.2.2.2.2.2.2.2.2.2.2.2.2.2.1, ()))))))))))))))) 1 0 h3 fun r8 h9 =>
    Q (r8.1, (r8.2.1, ((r8.2.2.1.1, (r8.2.2.1.2.1, ())), (r8.2.2.2.1, (r8.2.2.2.2.1, (r8.2.2.2.2.2.1, (r8.2.2.2.2.2.2.1, (r8.2.2.2.2.2.2.2.1, (r8.2.2.2.2.2.2.2.2.1, (r8.2.2.2.2.2.2.2.2.2.1, (r8.2.2.2.2.2.2.2.2.2.2.1, (r8.2.2.2.2.2.2.2.2.2.2.2.1, (r8.2.2.2.2.2.2.2.2.2.2.2.2.1, (r8.2.2.2.2.2.2.2.2.2.2.2.2.2.1, (r8.2.2.2.2.2.2.2.2.2.2.2.2.2.2.1, ()))))))))))))))) h9) ∧
    ((decide (got2 < 1)) = false →
    deque_Op_stolen.j1 Q ((o1.1, (12, (o1.2.2.1.1, (o1.2.2.1.2.1, (o1.2.2.2.1, (o1.2.2.2.2.1, (o1.2.2.2.2.2.1, (o1.2.2.2.2.2.2.1, (got2, (o1.2.2.2.2.2.2.2.2.1, (o1.2.2.2.2.2.2.2.2.2.1, (o1.2.2.2.2.2.2.2.2.2.2.1, (o1.2.2.2.2.2.2.2.2.2.2.2.1, (o1.2.2.2.2.2.2.2.2.2.2.2.2.1, (o1.2.2.2.2.2.2.2.2.2.2.2.2.2.1, (o1.2.2.2.2.2.2.2.2.2.2.2.2.2.2.1, ())))))))))))))))), (0, (0, (0, (0, (0, (0, (0, (0, (0, (0, (0, (0, (0, (false, (0, (0, ())))))))))))))))), ()) h3))) ∧
    ((decide (o1.2.1 = 4)) = false →
    (((decide (o1.2.1 = 12)) = true →
    deque_Op_stolen.j1 Q ((o1.1, (13, (o1.2.2.1.1, (o1.2.2.1.2.1, (o1.2.2.2.1, (o1.2.2.2.2.1, (o1.2.2.2.2.2.1, (o1.2.2.2.2.2.2.1, (o1.2.2.2.2.2.2.2.1, (o1.2.2.2.2.2.2.2.2.1, (o1.2.2.2.2.2.2.2.2.2.1, (o1.2.2.2.2.2.2.2.2.2.2.1, (got2, (o1.2.2.2.2.2.2.2.2.2.2.2.2.1, (o1.2.2.2.2.2.2.2.2.2.2.2.2.2.1, (o1.2.2.2.2.2.2.2.2.2.2.2.2.2.2.1, ())))))))))))))))), (0, (0, (0, (0, (0, (0, (0, (0, (0, (0, (0, (0, (0, (false, (0, (0, ())))))))))))))))), ()) h3) ∧
    ((decide (o1.2.1 = 12)) = false →
    (((decide (o1.2.1 = 13)) = true →
    (((decide (got2 = 1)) = true →
    c_deque_Op_over (o1.1, (o1.2.1, ((o1.2.2.1.1, (o1.2.2.1.2.1, ())), (o1.2.2.2.1, (o1.2.2.2.2.1, (o1.2.2.2.2.2.1, (o1.2.2.2.2.2.2.1, (o1.2.2.2.2.2.2.2.1, (o1.2.2.2.2.2.2.2.2.1, (o1.2.2.2.2.2.2.2.2.2.1, (o1.2.2.2.2.2.2.2.2.2.2.1, (o1.2.2.2.2.2.2.2.2.2.2.2.1, (o1.2.2.2.2.2.2.2.2.2.2.2.2.1, (o1.2.2.2.2.2.2.2.2.2.2.2.2.2.1, (o1.2.2.2.2.2.2.2.2.2.2.2.2.2.2.1, ()))))))))))))))) 4 o1.2.2.2.2.2.2.2.2.2.2.2.1 h3 fun r10 h11 =>
    Q (r10.1, (r10.2.1, ((r10.2.2.1.1, (r10.2.2.1.2.1, ())), (r10.2.2.2.1, (r10.2.2.2.2.1, (r10.2.2.2.2.2.1, (r10.2.2.2.2.2.2.1, (r10.2.2.2.2.2.2.2.1, (r10.2.2.2.2.2.2.2.2.1, (r10.2.2.2.2.2.2.2.2.2.1, (r10.2.2.2.2.2.2.2.2.2.2.1, (r10.2.2.2.2.2.2.2.2.2.2.2.1, (r10.2.2.2.2.2.2.2.2.2.2.2.2.1, (r10.2.2.2.2.2.2.2.2.2.2.2.2.2.1, (r10.2.2.2.2.2.2.2.2.2.2.2.2.2.2.1, ()))))))))))))))) h11) ∧
    ((decide (got2 = 1)) = false →
    c_deque_Op_over (o1.1, (o1.2.1, ((o1.2.2.1.1, (o1.2.2.1.2.1, ())), (o1.2.2.2.1, (o1.2.2.2.2.1, (o1.2.2.2.2.2.1, (o1.2.2.2.2.2.2.1, (o1.2.2.2.2.2.2.2.1, (o1.2.2.2.2.2.2.2.2.1, (o1.2.2.2.2.2.2.2.2.2.1, (o1.2.2.2.2.2.2.2.2.2.2.1, (o1.2.2.2.2.2.2.2.2.2.2.2.1, (o1.2.2.2.2.2.2.2.2.2.2.2.2.1, (o1.2.2.2.2.2.2.2.2.2.2.2.2.2.1, (o1.2.2.2.2.2.2.2.2.2.2.2.2.2.2.1, ()))))))))))))))) 6 0 h3 fun r12 h13 =>
    Q (r12.1, (r12.2.1, ((r12.2.2.1.1, (r12.2.2.1.2.1, ())), (r12.2.2.2.1, (r12.2.2.2.2.1, (r12.2.2.2.2.2.1, (r12.2.2.2.2.2.2.1, (r12.2.2.2.2.2.2.2.1, (r12.2.2.2.2.2.2.2.2.1, (r12.2.2.2.2.2.2.2.2.2.1, (r12.2.2.2.2.2.2.2.2.2.2.1, (r12.2.2.2.2.2.2.2.2.2.2.2.1, (r12.2.2.2.2.2.2.2.2.2.2.2.2.1, (r12.2.2.2.2.2.2.2.2.2.2.2.2.2.1, (r12.2.2.2.2.2.2.2.2.2.2.2.2.2.2.1, ()))))))))))))))) h13))) ∧
    ((decide (o1.2.1 = 13)) = false →
    deque_Op_stolen.j1 Q ((o1.1, (o1.2.1, (o1.2.2.1.1, (o1.2.2.1.2.1, (o1.2.2.2.1, (o1.2.2.2.2.1, (o1.2.2.2.2.2.1, (o1.2.2.2.2.2.2.1, (o1.2.2.2.2.2.2.2.1, (o1.2.2.2.2.2.2.2.2.1, (o1.2.2.2.2.2.2.2.2.2.1, (o1.2.2.2.2.2.2.2.2.2.2.1, (o1.2.2.2.2.2.2.2.2.2.2.2.1, (o1.2.2.2.2.2.2.2.2.2.2.2.2.1, (o1.2.2.2.2.2.2.2.2.2.2.2.2.2.1, (o1.2.2.2.2.2.2.2.2.2.2.2.2.2.2.1, ())))))))))))))))), (0, (0, (0, (0, (0, (0, (0, (0, (0, (0, (0, (0, (0, (false, (0, (0, ())))))))))))))))), ()) h3))))))))))))
def deque_Op_stolen.mk : Mk := (.s (.r [0, 1]) (.j [.box 2 (.pair (.int .i64) (.pair (.int .i64) (.pair (.int .i64) (.pair (.int .i64) (.pair (.int .i64) (.pair (.int .i64) (.pair (.int .i64) (.pair (.int .i64) (.pair (.int .i64) (.pair (.int .i64) (.pair (.int .i64) (.pair (.int .i64) (.pair (.int .i64) (.pair .bool kparkLot)))))))))))))), .box 4 (.pair (.int .i64) (.pair (.int .i64) (.pair (.int .i64) (.pair (.int .i64) (.pair (.int .i64) (.pair (.int .i64) (.pair (.int .i64) (.pair (.int .i64) (.pair (.int .i64) (.pair (.int .i64) (.pair (.int .i64) (.pair (.int .i64) (.pair (.int .i64) (.pair .bool kparkLot))))))))))))))] (.s .d (.b (.s .d (.c .d (.s .d (.c (.s .d (.s .d (.c (.s .d .d) .d))) (.s .d (.c .d (.s .d (.c (.s .d (.s .d (.c (.s .d .d) .d))) (.s .d (.c .d (.s .d (.c (.s (.s .d (.c (.s .d .d) .d)) (.s .d .d)) .d)))))))))))))) (.s .d .d)))

def deque_Op_looked.M (c_deque_Op_over : Den kdequeOp → Int → Int → Heap → (Den kdequeOp → Heap → Prop) → Prop) (o1 : Den kdequeOp) (got2 : Int) (h3 : Heap) (Q : Den kdequeOp → Heap → Prop) : Prop :=
    (((decide (o1.2.1 = 2)) = true →
    Q (o1.1, (1, ((o1.2.2.1.1, (o1.2.2.1.2.1, ())), (o1.2.2.2.1, (got2, (o1.2.2.2.2.2.1, (o1.2.2.2.2.2.2.1, (o1.2.2.2.2.2.2.2.1, (o1.2.2.2.2.2.2.2.2.1, (o1.2.2.2.2.2.2.2.2.2.1, (o1.2.2.2.2.2.2.2.2.2.2.1, (o1.2.2.2.2.2.2.2.2.2.2.2.1, (o1.2.2.2.2.2.2.2.2.2.2.2.2.1, (o1.2.2.2.2.2.2.2.2.2.2.2.2.2.1, (o1.2.2.2.2.2.2.2.2.2.2.2.2.2.2.1, ()))))))))))))))) h3) ∧
    ((decide (o1.2.1 = 2)) = false →
    (((decide (o1.2.2.2.2.1 < got2)) = true →
    c_deque_Op_over (o1.1, (o1.2.1, ((o1.2.2.1.1, (o1.2.2.1.2.1, ())), (o1.2.2.2.1, (o1.2.2.2.2.1, (o1.2.2.2.2.2.1, (o1.2.2.2.2.2.2.1, (o1.2.2.2.2.2.2.2.1, (o1.2.2.2.2.2.2.2.2.1, (o1.2.2.2.2.2.2.2.2.2.1, (o1.2.2.2.2.2.2.2.2.2.2.1, (o1.2.2.2.2.2.2.2.2.2.2.2.1, (o1.2.2.2.2.2.2.2.2.2.2.2.2.1, (o1.2.2.2.2.2.2.2.2.2.2.2.2.2.1, (o1.2.2.2.2.2.2.2.2.2.2.2.2.2.2.1, ()))))))))))))))) 7 0 h3 fun r4 h5 =>
    Q (r4.1, (r4.2.1, ((r4.2.2.1.1, (r4.2.2.1.2.1, ())), (r4.2.2.2.1, (r4.2.2.2.2.1, (r4.2.2.2.2.2.1, (r4.2.2.2.2.2.2.1, (r4.2.2.2.2.2.2.2.1, (r4.2.2.2.2.2.2.2.2.1, (r4.2.2.2.2.2.2.2.2.2.1, (r4.2.2.2.2.2.2.2.2.2.2.1, (r4.2.2.2.2.2.2.2.2.2.2.2.1, (r4.2.2.2.2.2.2.2.2.2.2.2.2.1, (r4.2.2.2.2.2.2.2.2.2.2.2.2.2.1, (r4.2.2.2.2.2.2.2.2.2.2.2.2.2.2.1, ()))))))))))))))) h5) ∧
    ((decide (o1.2.2.2.2.1 < got2)) = false →
    c_deque_Op_over (o1.1, (o1.2.1, ((o1.2.2.1.1, (o1.2.2.1.2.1, ())), (o1.2.2.2.1, (o1.2.2.2.2.1, (o1.2.2.2.2.2.1, (o1.2.2.2.2.2.2.1, (o1.2.2.2.2.2.2.2.1, (o1.2.2.2.2.2.2.2.2.1, (o1.2.2.2.2.2.2.2.2.2.1, (o1.2.2.2.2.2.2.2.2.2.2.1, (o1.2.2.2.2.2.2.2.2.2.2.2.1, (o1.2.2.2.2.2.2.2.2.2.2.2.2.1, (o1.2.2.2.2.2.2.2.2.2.2.2.2.2.1, (o1.2.2.2.2.2.2.2.2.2.2.2.2.2.2.1, ()))))))))))))))) 8 0 h3 fun r6 h7 =>
    Q (r6.1, (r6.2.1, ((r6.2.2.1.1, (r6.2.2.1.2.1, ())), (r6.2.2.2.1, (r6.2.2.2.2.1, (r6.2.2.2.2.2.1, (r6.2.2.2.2.2.2.1, (r6.2.2.2.2.2.2.2.1, (r6.2.2.2.2.2.2.2.2.1, (r6.2.2.2.2.2.2.2.2.2.1, (r6.2.2.2.2.2.2.2.2.2.2.1, (r6.2.2.2.2.2.2.2.2.2.2.2.1, (r6.2.2.2.2.2.2.2.2.2.2.2.2.1, (r6.2.2.2.2.2.2.2.2.2.2.2.2.2.1, (r6.2.2.2.2.2.2.2.2.2.2.2.2.2.2.1, ()))))))))))))))) h7))))
def deque_Op_looked.mk : Mk := (.s (.r [0, 1]) (.s (.s .d (.c (.s .d (.s .d .d)) .d)) (.s (.s .d (.c (.s .d .d) .d)) (.s .d .d))))

def deque_Look.M (c_deque_begin : Int → Int → Den kparkLot → Int → Heap → (Den kdequeOp → Heap → Prop) → Prop) (d1 : Den kparkLot) (h2 : Heap) (Q : Den kdequeOp → Heap → Prop) : Prop :=
    c_deque_begin 4 2 (d1.1, (d1.2.1, ())) 0 h2 fun r3 h4 =>
    Q (r3.1, (r3.2.1, ((r3.2.2.1.1, (r3.2.2.1.2.1, ())), (r3.2.2.2.1, (r3.2.2.2.2.1, (r3.2.2.2.2.2.1, (r3.2.2.2.2.2.2.1, (r3.2.2.2.2.2.2.2.1, (r3.2.2.2.2.2.2.2.2.1, (r3.2.2.2.2.2.2.2.2.2.1, (r3.2.2.2.2.2.2.2.2.2.2.1, (r3.2.2.2.2.2.2.2.2.2.2.2.1, (r3.2.2.2.2.2.2.2.2.2.2.2.2.1, (r3.2.2.2.2.2.2.2.2.2.2.2.2.2.1, (r3.2.2.2.2.2.2.2.2.2.2.2.2.2.2.1, ()))))))))))))))) h4
def deque_Look.mk : Mk := (.s (.r [0, 1]) (.s .d .d))

def deque_begin.j1 (kind1 : Int) (at_2 : Int) (d3 : Den kparkLot) (v4 : Int) (Q : Den kdequeOp → Heap → Prop) (s6 : ((Int × (Int × (Int × (Int × (Int × (Int × (Int × (Int × (Int × (Int × (Int × (Int × (Int × (Bool × Den kparkLot)))))))))))))) × Unit)) (h7 : Heap) : Prop :=
    Q (kind1, (at_2, ((d3.1, (d3.2.1, ())), (v4, (0, (0, (0, (0, (0, (0, (0, (0, (false, (0, (0, ()))))))))))))))) h7
def deque_begin.j2 (kind1 : Int) (at_2 : Int) (d3 : Den kparkLot) (v4 : Int) (Q : Den kdequeOp → Heap → Prop) (s8 : (Bool × Unit)) (h9 : Heap) : Prop :=
    ((s8.1 = true →
    Q (0, (0, ((0, (0, ())), (0, (0, (0, (0, (0, (0, (0, (0, (0, (false, (0, (0, ()))))))))))))))) h9) ∧
    (s8.1 = false →
    deque_begin.j1 kind1 at_2 d3 v4 Q ((0, (0, (0, (0, (0, (0, (0, (0, (0, (0, (0, (0, (0, (false, (0, (0, ())))))))))))))))), ()) h9))
def deque_begin.M  (kind1 : Int) (at_2 : Int) (d3 : Den kparkLot) (v4 : Int) (h5 : Heap) (Q : Den kdequeOp → Heap → Prop) : Prop :=
    (((decide (d3.2.1 < 1)) = true →
    deque_begin.j2 kind1 at_2 d3 v4 Q (true, ()) h5) ∧
    ((decide (d3.2.1 < 1)) = false →
    deque_begin.j2 kind1 at_2 d3 v4 Q ((decide ((4096 : Int) < d3.2.1)), ()) h5))
def deque_begin.mk : Mk := (.s (.r [0, 1]) (.j [.box 8 (.pair (.int .i64) (.pair (.int .i64) (.pair (.int .i64) (.pair (.int .i64) (.pair (.int .i64) (.pair (.int .i64) (.pair (.int .i64) (.pair (.int .i64) (.pair (.int .i64) (.pair (.int .i64) (.pair (.int .i64) (.pair (.int .i64) (.pair (.int .i64) (.pair .bool kparkLot))))))))))))))] (.j [.slot 16 .bool] .d (.c (.s .d .d) .d)) (.s .d .d)))

def deque_place.j1 (a1 : Int) (Q : Int → Heap → Prop) (s5 : (Int × Unit)) (h6 : Heap) : Prop :=
    Q (w64 ((w64 (a1 + 1)) + s5.1)) h6
def deque_place.M  (a1 : Int) (c2 : Int) (i3 : Int) (h4 : Heap) (Q : Int → Heap → Prop) : Prop :=
    c2 ≠ 0 ∧
    (((decide ((Int.tmod i3 c2) < 0)) = true →
    deque_place.j1 a1 Q ((w64 ((Int.tmod i3 c2) + c2)), ()) h4) ∧
    ((decide ((Int.tmod i3 c2) < 0)) = false →
    deque_place.j1 a1 Q ((Int.tmod i3 c2), ()) h4))
def deque_place.mk : Mk := (.s .d (.s .d (.j [.slot 7 (.int .i64)] (.s .d (.c .d .d)) (.s .d .d))))

def deque_Op_next.M  (o1 : Den kdequeOp) (h2 : Heap) (Q : Int → Heap → Prop) : Prop :=
    (((decide (o1.1 = 1)) = true →
    Q (w64 (o1.2.2.2.2.2.1 + 1)) h2) ∧
    ((decide (o1.1 = 1)) = false →
    (((decide (o1.2.2.2.2.2.2.2.2.2.2.1 = 0)) = true →
    Q o1.2.2.2.2.2.1 h2) ∧
    ((decide (o1.2.2.2.2.2.2.2.2.2.2.1 = 0)) = false →
    (((decide (o1.2.2.2.2.2.1 < o1.2.2.2.2.1)) = true →
    Q o1.2.2.2.2.1 h2) ∧
    ((decide (o1.2.2.2.2.2.1 < o1.2.2.2.2.1)) = false →
    Q (w64 (o1.2.2.2.2.1 + 1)) h2))))))
def deque_Op_next.mk : Mk := (.s (.r [0]) (.s (.b (.s .d (.c (.s .d .d) (.s .d (.c (.s .d .d) (.s .d (.c (.s .d .d) .d))))))) (.s .d .d)))

def cells_Arena_Add.M (c_cells_Arena_outside : Option Addr → Int → Heap → (Bool → Heap → Prop) → Prop) (c_cells_Arena_note : Option Addr → Int → Int → Int → Int → Bool → Heap → (Unit → Heap → Prop) → Prop) (a1 : Option Addr) (addr2 : Int) (d3 : Int) (h4 : Heap) (Q : Den kparkLot → Heap → Prop) : Prop :=
    c_cells_Arena_outside a1 addr2 h4 fun r5 h6 =>
    ((r5 = true →
    Q (0, 20, ()) h6) ∧
    (r5 = false →
    deref a1 fun a7 =>
    ld (.sl : Kd) h6 (a7.add 2) fun t8 =>
    (0 ≤ addr2 ∧ addr2 < (t8.len : Int)) ∧
    deref t8.a fun a9 =>
    ld ((.int .i64) : Kd) h6 (a9.add ((addr2 : Int).toNat * 1)) fun t10 =>
    (0 ≤ addr2 ∧ addr2 < (t8.len : Int)) ∧
    deref t8.a fun a11 =>
    st ((.int .i64) : Kd) h6 (a11.add ((addr2 : Int).toNat * 1)) (w64 (t10 + d3)) fun h12 =>
    deref a1 fun a13 =>
    ld (.sl : Kd) h12 (a13.add 2) fun t14 =>
    (0 ≤ addr2 ∧ addr2 < (t14.len : Int)) ∧
    deref t14.a fun a15 =>
    ld ((.int .i64) : Kd) h12 (a15.add ((addr2 : Int).toNat * 1)) fun t16 =>
    c_cells_Arena_note a1 3 addr2 d3 t16 true h12 fun r17 h18 =>
    deref a1 fun a19 =>
    ld (.sl : Kd) h18 (a19.add 2) fun t20 =>
    (0 ≤ addr2 ∧ addr2 < (t20.len : Int)) ∧
    deref t20.a fun a21 =>
    ld ((.int .i64) : Kd) h18 (a21.add ((addr2 : Int).toNat * 1)) fun t22 =>
    Q (t22, 0, ()) h18))
def cells_Arena_Add.mk : Mk := (.s .d (.s (.s .d (.c (.s .d .d) .d)) (.s .d (.s .d (.s .d .d)))))

def cells_Arena_CAS.j1 (c_cells_Arena_note : Option Addr → Int → Int → Int → Int → Bool → Heap → (Unit → Heap → Prop) → Prop) (a1 : Option Addr) (addr2 : Int) (old3 : Int) (next4 : Int) (Q : (Bool × (Int × Unit)) → Heap → Prop) (t11 : Int) (s12 : Unit) (h13 : Heap) : Prop :=
    c_cells_Arena_note a1 2 addr2 old3 next4 (decide (t11 = old3)) h13 fun r14 h15 =>
    Q ((decide (t11 = old3)), 0, ()) h15
def cells_Arena_CAS.M (c_cells_Arena_outside : Option Addr → Int → Heap → (Bool → Heap → Prop) → Prop) (c_cells_Arena_note : Option Addr → Int → Int → Int → Int → Bool → Heap → (Unit → Heap → Prop) → Prop) (a1 : Option Addr) (addr2 : Int) (old3 : Int) (next4 : Int) (h5 : Heap) (Q : (Bool × (Int × Unit)) → Heap → Prop) : Prop :=
    c_cells_Arena_outside a1 addr2 h5 fun r6 h7 =>
    ((r6 = true →
    Q (false, 20, ()) h7) ∧
    (r6 = false →
    deref a1 fun a8 =>
    ld (.sl : Kd) h7 (a8.add 2) fun t9 =>
    (0 ≤ addr2 ∧ addr2 < (t9.len : Int)) ∧
    deref t9.a fun a10 =>
    ld ((.int .i64) : Kd) h7 (a10.add ((addr2 : Int).toNat * 1)) fun t11 =>
    (((decide (t11 = old3)) = true →
    deref a1 fun a16 =>
    ld (.sl : Kd) h7 (a16.add 2) fun t17 =>
    (0 ≤ addr2 ∧ addr2 < (t17.len : Int)) ∧
    deref t17.a fun a18 =>
    st ((.int .i64) : Kd) h7 (a18.add ((addr2 : Int).toNat * 1)) next4 fun h19 =>
    cells_Arena_CAS.j1 c_cells_Arena_note a1 addr2 old3 next4 Q t11 () h19) ∧
    ((decide (t11 = old3)) = false →
    cells_Arena_CAS.j1 c_cells_Arena_note a1 addr2 old3 next4 Q t11 () h7))))
def cells_Arena_CAS.mk : Mk := (.s .d (.s (.s .d (.c (.s .d .d) .d)) (.s .d (.j [] (.s .d (.c .d .d)) (.s .d (.s .d .d))))))

def cells_Arena_Load.M (c_cells_Arena_outside : Option Addr → Int → Heap → (Bool → Heap → Prop) → Prop) (c_cells_Arena_note : Option Addr → Int → Int → Int → Int → Bool → Heap → (Unit → Heap → Prop) → Prop) (a1 : Option Addr) (addr2 : Int) (h3 : Heap) (Q : Den kparkLot → Heap → Prop) : Prop :=
    c_cells_Arena_outside a1 addr2 h3 fun r4 h5 =>
    ((r4 = true →
    Q (0, 20, ()) h5) ∧
    (r4 = false →
    deref a1 fun a6 =>
    ld (.sl : Kd) h5 (a6.add 2) fun t7 =>
    (0 ≤ addr2 ∧ addr2 < (t7.len : Int)) ∧
    deref t7.a fun a8 =>
    ld ((.int .i64) : Kd) h5 (a8.add ((addr2 : Int).toNat * 1)) fun t9 =>
    c_cells_Arena_note a1 0 addr2 t9 0 true h5 fun r10 h11 =>
    Q (t9, 0, ()) h11))
def cells_Arena_Load.mk : Mk := (.s .d (.s (.s .d (.c (.s .d .d) .d)) (.s .d (.s .d (.s .d .d)))))

end Go.Mx
