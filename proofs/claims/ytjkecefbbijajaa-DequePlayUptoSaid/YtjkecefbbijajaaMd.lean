/-
  What the functions of this seat come to over abstract heaps: printed by a program of this workplace.
-/
import Derived.Test.YtjkecefbbijajaaMxN
set_option linter.unusedVariables false
namespace Go.Mx
abbrev kapiDequeRun : Kd := (.pair .sl (.pair .sl (.pair .sl .nil)))
abbrev kapiTodo : Kd := (.pair (.int .i64) (.pair (.int .i64) .nil))
abbrev kapiCall : Kd := (.pair (.int .i64) (.pair (.int .i64) (.pair (.int .i64) (.pair (.int .i64) (.pair (.int .i64) kapiTodo)))))
abbrev kapiAccess : Kd := (.pair (.int .i64) (.pair (.int .i64) (.pair (.int .i64) (.pair (.int .i64) (.pair (.int .i64) (.pair .bool .nil))))))
abbrev kdequegame : Kd := (.pair .ptr (.pair kapiTodo kapiDequeRun))
abbrev kdequeOp : Kd := (.pair (.int .i64) (.pair (.int .i64) (.pair kapiTodo (.pair (.int .i64) (.pair (.int .i64) (.pair (.int .i64) (.pair (.int .i64) (.pair (.int .i64) (.pair (.int .i64) (.pair (.int .i64) (.pair (.int .i64) (.pair (.int .i64) (.pair .bool kapiTodo)))))))))))))
abbrev kdequeactor : Kd := (.pair kdequeOp (.pair (.int .i64) .nil))
abbrev kref3Mem : Kd := (.pair .sl (.pair (.int .i64) (.pair (.int .i64) (.pair .sl .nil))))
abbrev kref3Stage : Kd := (.pair .ptr (.pair kapiTodo (.pair .sl (.pair (.int .i64) (.pair .sl (.pair kapiDequeRun .nil))))))
abbrev kref3Op : Kd := (.pair (.int .i64) (.pair kapiTodo (.pair (.int .i64) (.pair .sl (.pair .bool .nil)))))
abbrev kref3Actor : Kd := (.pair (.int .i64) (.pair kref3Op .nil))
abbrev kcellsArena : Kd := (.pair kapiTodo (.pair .sl (.pair .sl (.pair (.int .i64) (.pair .bool .nil)))))
abbrev kref3Want : Kd := (.pair (.int .i64) (.pair (.int .i64) (.pair (.int .i64) (.pair (.int .i64) kapiTodo))))
-- @T p_cells_Arena 54

def law3_DequePlay.l1 (c_deque_Play : Int → Int → Sl → Int → Sl → Heap → ((Den kapiDequeRun × (Int × Unit)) → Heap → Prop) → Prop) (c_ref3_Play : Int → Int → Sl → Int → Sl → Heap → ((Den kapiDequeRun × (Int × Unit)) → Heap → Prop) → Prop) (c_law3_sameCalls : Sl → Sl → Heap → (Bool → Heap → Prop) → Prop) (c_law3_sameInts : Sl → Sl → Heap → (Bool → Heap → Prop) → Prop) (c_law3_sameLog : Sl → Sl → Heap → (Bool → Heap → Prop) → Prop) (Q : Bool → Heap → Prop) (s110 : (Int × (Int × (Int × (Sl × (Sl × Unit)))))) (go127 : (Int × Unit) → Heap → Prop) (s125 : (Int × Unit)) (h126 : Heap) : Prop :=
    (2 : Int) ≠ 0 ∧
    (((decide (s125.1 < (w64 (Int.tdiv (s110.2.2.2.2.1.len : Int) 2)))) = true →
    (0 ≤ s125.1 ∧ s125.1 < (s110.2.2.2.2.1.len : Int)) ∧
    deref s110.2.2.2.2.1.a fun a128 =>
    ld ((.int .i64) : Kd) h126 (a128.add ((s125.1 : Int).toNat * 1)) fun t129 =>
    (0 ≤ (w64 ((w64 ((s110.2.2.2.2.1.len : Int) - 1)) - s125.1)) ∧ (w64 ((w64 ((s110.2.2.2.2.1.len : Int) - 1)) - s125.1)) < (s110.2.2.2.2.1.len : Int)) ∧
    deref s110.2.2.2.2.1.a fun a130 =>
    ld ((.int .i64) : Kd) h126 (a130.add (((w64 ((w64 ((s110.2.2.2.2.1.len : Int) - 1)) - s125.1)) : Int).toNat * 1)) fun t131 =>
    (0 ≤ s125.1 ∧ s125.1 < (s110.2.2.2.2.1.len : Int)) ∧
    deref s110.2.2.2.2.1.a fun a132 =>
    st ((.int .i64) : Kd) h126 (a132.add ((s125.1 : Int).toNat * 1)) t131 fun h133 =>
    (0 ≤ (w64 ((w64 ((s110.2.2.2.2.1.len : Int) - 1)) - s125.1)) ∧ (w64 ((w64 ((s110.2.2.2.2.1.len : Int) - 1)) - s125.1)) < (s110.2.2.2.2.1.len : Int)) ∧
    deref s110.2.2.2.2.1.a fun a134 =>
    st ((.int .i64) : Kd) h133 (a134.add (((w64 ((w64 ((s110.2.2.2.2.1.len : Int) - 1)) - s125.1)) : Int).toNat * 1)) t129 fun h135 =>
    go127 ((w64 (s125.1 + 1)), ()) h135) ∧
    ((decide (s125.1 < (w64 (Int.tdiv (s110.2.2.2.2.1.len : Int) 2)))) = false →
    c_deque_Play s110.1 s110.2.1 s110.2.2.2.1 s110.2.2.1 s110.2.2.2.2.1 h126 fun r136 h137 =>
    c_ref3_Play s110.1 s110.2.1 s110.2.2.2.1 s110.2.2.1 s110.2.2.2.2.1 h137 fun r138 h139 =>
    (((decide (r136.2.1 = r138.2.1)) = true →
    c_law3_sameCalls r136.1.1 r138.1.1 h139 fun r140 h141 =>
    ((r140 = true →
    c_law3_sameInts r136.1.2.1 r138.1.2.1 h141 fun r142 h143 =>
    ((r142 = true →
    c_law3_sameLog r136.1.2.2.1 r138.1.2.2.1 h143 fun r144 h145 =>
    Q r144 h145) ∧
    (r142 = false →
    Q false h143))) ∧
    (r140 = false →
    Q false h141))) ∧
    ((decide (r136.2.1 = r138.2.1)) = false →
    Q false h139))))
def law3_DequePlay.l2 (c_deque_Play : Int → Int → Sl → Int → Sl → Heap → ((Den kapiDequeRun × (Int × Unit)) → Heap → Prop) → Prop) (c_ref3_Play : Int → Int → Sl → Int → Sl → Heap → ((Den kapiDequeRun × (Int × Unit)) → Heap → Prop) → Prop) (c_law3_sameCalls : Sl → Sl → Heap → (Bool → Heap → Prop) → Prop) (c_law3_sameInts : Sl → Sl → Heap → (Bool → Heap → Prop) → Prop) (c_law3_sameLog : Sl → Sl → Heap → (Bool → Heap → Prop) → Prop) (Q : Bool → Heap → Prop) (s110 : (Int × (Int × (Int × (Sl × (Sl × Unit)))))) (go116 : (Int × Unit) → Heap → Prop) (s114 : (Int × Unit)) (h115 : Heap) : Prop :=
    (2 : Int) ≠ 0 ∧
    (((decide (s114.1 < (w64 (Int.tdiv (s110.2.2.2.1.len : Int) 2)))) = true →
    (0 ≤ s114.1 ∧ s114.1 < (s110.2.2.2.1.len : Int)) ∧
    deref s110.2.2.2.1.a fun a117 =>
    ld kapiTodo h115 (a117.add ((s114.1 : Int).toNat * 2)) fun t118 =>
    (0 ≤ (w64 ((w64 ((s110.2.2.2.1.len : Int) - 1)) - s114.1)) ∧ (w64 ((w64 ((s110.2.2.2.1.len : Int) - 1)) - s114.1)) < (s110.2.2.2.1.len : Int)) ∧
    deref s110.2.2.2.1.a fun a119 =>
    ld kapiTodo h115 (a119.add (((w64 ((w64 ((s110.2.2.2.1.len : Int) - 1)) - s114.1)) : Int).toNat * 2)) fun t120 =>
    (0 ≤ s114.1 ∧ s114.1 < (s110.2.2.2.1.len : Int)) ∧
    deref s110.2.2.2.1.a fun a121 =>
    st kapiTodo h115 (a121.add ((s114.1 : Int).toNat * 2)) t120 fun h122 =>
    (0 ≤ (w64 ((w64 ((s110.2.2.2.1.len : Int) - 1)) - s114.1)) ∧ (w64 ((w64 ((s110.2.2.2.1.len : Int) - 1)) - s114.1)) < (s110.2.2.2.1.len : Int)) ∧
    deref s110.2.2.2.1.a fun a123 =>
    st kapiTodo h122 (a123.add (((w64 ((w64 ((s110.2.2.2.1.len : Int) - 1)) - s114.1)) : Int).toNat * 2)) (t118.1, (t118.2.1, ())) fun h124 =>
    go116 ((w64 (s114.1 + 1)), ()) h124) ∧
    ((decide (s114.1 < (w64 (Int.tdiv (s110.2.2.2.1.len : Int) 2)))) = false →
    Loop (law3_DequePlay.l1 c_deque_Play c_ref3_Play c_law3_sameCalls c_law3_sameInts c_law3_sameLog Q s110) (0, ()) h115))
def law3_DequePlay.k3 (c_deque_Play : Int → Int → Sl → Int → Sl → Heap → ((Den kapiDequeRun × (Int × Unit)) → Heap → Prop) → Prop) (c_ref3_Play : Int → Int → Sl → Int → Sl → Heap → ((Den kapiDequeRun × (Int × Unit)) → Heap → Prop) → Prop) (c_law3_sameCalls : Sl → Sl → Heap → (Bool → Heap → Prop) → Prop) (c_law3_sameInts : Sl → Sl → Heap → (Bool → Heap → Prop) → Prop) (c_law3_sameLog : Sl → Sl → Heap → (Bool → Heap → Prop) → Prop) (Q : Bool → Heap → Prop) (s110 : (Int × (Int × (Int × (Sl × (Sl × Unit)))))) (h111 : Heap) : Prop :=
    c_deque_Play s110.1 s110.2.1 s110.2.2.2.1 s110.2.2.1 s110.2.2.2.2.1 h111 fun r112 h113 =>
    Loop (law3_DequePlay.l2 c_deque_Play c_ref3_Play c_law3_sameCalls c_law3_sameInts c_law3_sameLog Q s110) (0, ()) h113
def law3_DequePlay.j4 (c_deque_Play : Int → Int → Sl → Int → Sl → Heap → ((Den kapiDequeRun × (Int × Unit)) → Heap → Prop) → Prop) (c_ref3_Play : Int → Int → Sl → Int → Sl → Heap → ((Den kapiDequeRun × (Int × Unit)) → Heap → Prop) → Prop) (c_law3_sameCalls : Sl → Sl → Heap → (Bool → Heap → Prop) → Prop) (c_law3_sameInts : Sl → Sl → Heap → (Bool → Heap → Prop) → Prop) (c_law3_sameLog : Sl → Sl → Heap → (Bool → Heap → Prop) → Prop) (Q : Bool → Heap → Prop) (s91 : (Int × (Int × (Sl × (Int × (Sl × (Sl × (Sl × (Int × (Den kapiDequeRun × (Den kapiDequeRun × Unit))))))))))) (s146 : (Bool × Unit)) (h147 : Heap) : Prop :=
    ((s146.1 = true →
    Q false h147) ∧
    (s146.1 = false →
    law3_DequePlay.k3 c_deque_Play c_ref3_Play c_law3_sameCalls c_law3_sameInts c_law3_sameLog Q (s91.1, s91.2.1, s91.2.2.2.1, s91.2.2.2.2.2.1, s91.2.2.2.2.2.2.1, ()) h147))
def law3_DequePlay.l5 (c_deque_Play : Int → Int → Sl → Int → Sl → Heap → ((Den kapiDequeRun × (Int × Unit)) → Heap → Prop) → Prop) (c_ref3_Play : Int → Int → Sl → Int → Sl → Heap → ((Den kapiDequeRun × (Int × Unit)) → Heap → Prop) → Prop) (c_law3_sameCalls : Sl → Sl → Heap → (Bool → Heap → Prop) → Prop) (c_law3_sameInts : Sl → Sl → Heap → (Bool → Heap → Prop) → Prop) (c_law3_sameLog : Sl → Sl → Heap → (Bool → Heap → Prop) → Prop) (Q : Bool → Heap → Prop) (s91 : (Int × (Int × (Sl × (Int × (Sl × (Sl × (Sl × (Int × (Den kapiDequeRun × (Den kapiDequeRun × Unit))))))))))) (r93 : (Den kapiDequeRun × (Int × Unit))) (go107 : (Int × Unit) → Heap → Prop) (s105 : (Int × Unit)) (h106 : Heap) : Prop :=
    (((decide (s105.1 < (s91.2.2.2.2.2.2.2.2.1.2.2.1.len : Int))) = true →
    (0 ≤ s105.1 ∧ s105.1 < (s91.2.2.2.2.2.2.2.2.1.2.2.1.len : Int)) ∧
    deref s91.2.2.2.2.2.2.2.2.1.2.2.1.a fun a108 =>
    ld ((.int .i64) : Kd) h106 ((a108.add ((s105.1 : Int).toNat * 6)).add 0) fun t109 =>
    (((decide (t109 ≠ (-7))) = true →
    Q false h106) ∧
    ((decide (t109 ≠ (-7))) = false →
    go107 ((w64 (s105.1 + 1)), ()) h106))) ∧
    ((decide (s105.1 < (s91.2.2.2.2.2.2.2.2.1.2.2.1.len : Int))) = false →
    (((decide (r93.2.1 ≠ s91.2.2.2.2.2.2.2.1)) = true →
    law3_DequePlay.j4 c_deque_Play c_ref3_Play c_law3_sameCalls c_law3_sameInts c_law3_sameLog Q s91 (true, ()) h106) ∧
    ((decide (r93.2.1 ≠ s91.2.2.2.2.2.2.2.1)) = false →
    c_law3_sameCalls r93.1.1 s91.2.2.2.2.2.2.2.2.2.1.1 h106 fun r148 h149 =>
    (((!r148) = true →
    law3_DequePlay.j4 c_deque_Play c_ref3_Play c_law3_sameCalls c_law3_sameInts c_law3_sameLog Q s91 (true, ()) h149) ∧
    ((!r148) = false →
    c_law3_sameInts r93.1.2.1 s91.2.2.2.2.2.2.2.2.2.1.2.1 h149 fun r150 h151 =>
    (((!r150) = true →
    law3_DequePlay.j4 c_deque_Play c_ref3_Play c_law3_sameCalls c_law3_sameInts c_law3_sameLog Q s91 (true, ()) h151) ∧
    ((!r150) = false →
    c_law3_sameLog r93.1.2.2.1 s91.2.2.2.2.2.2.2.2.2.1.2.2.1 h151 fun r152 h153 =>
    law3_DequePlay.j4 c_deque_Play c_ref3_Play c_law3_sameCalls c_law3_sameInts c_law3_sameLog Q s91 ((!r152), ()) h153))))))))
def law3_DequePlay.l6 (c_deque_Play : Int → Int → Sl → Int → Sl → Heap → ((Den kapiDequeRun × (Int × Unit)) → Heap → Prop) → Prop) (c_ref3_Play : Int → Int → Sl → Int → Sl → Heap → ((Den kapiDequeRun × (Int × Unit)) → Heap → Prop) → Prop) (c_law3_sameCalls : Sl → Sl → Heap → (Bool → Heap → Prop) → Prop) (c_law3_sameInts : Sl → Sl → Heap → (Bool → Heap → Prop) → Prop) (c_law3_sameLog : Sl → Sl → Heap → (Bool → Heap → Prop) → Prop) (Q : Bool → Heap → Prop) (s91 : (Int × (Int × (Sl × (Int × (Sl × (Sl × (Sl × (Int × (Den kapiDequeRun × (Den kapiDequeRun × Unit))))))))))) (r93 : (Den kapiDequeRun × (Int × Unit))) (go102 : (Int × Unit) → Heap → Prop) (s100 : (Int × Unit)) (h101 : Heap) : Prop :=
    (((decide (s100.1 < (s91.2.2.2.2.2.2.2.2.1.2.1.len : Int))) = true →
    (0 ≤ s100.1 ∧ s100.1 < (s91.2.2.2.2.2.2.2.2.1.2.1.len : Int)) ∧
    deref s91.2.2.2.2.2.2.2.2.1.2.1.a fun a103 =>
    ld ((.int .i64) : Kd) h101 (a103.add ((s100.1 : Int).toNat * 1)) fun t104 =>
    (((decide (t104 ≠ (-8))) = true →
    Q false h101) ∧
    ((decide (t104 ≠ (-8))) = false →
    go102 ((w64 (s100.1 + 1)), ()) h101))) ∧
    ((decide (s100.1 < (s91.2.2.2.2.2.2.2.2.1.2.1.len : Int))) = false →
    Loop (law3_DequePlay.l5 c_deque_Play c_ref3_Play c_law3_sameCalls c_law3_sameInts c_law3_sameLog Q s91 r93) (0, ()) h101))
def law3_DequePlay.l7 (c_deque_Play : Int → Int → Sl → Int → Sl → Heap → ((Den kapiDequeRun × (Int × Unit)) → Heap → Prop) → Prop) (c_ref3_Play : Int → Int → Sl → Int → Sl → Heap → ((Den kapiDequeRun × (Int × Unit)) → Heap → Prop) → Prop) (c_law3_sameCalls : Sl → Sl → Heap → (Bool → Heap → Prop) → Prop) (c_law3_sameInts : Sl → Sl → Heap → (Bool → Heap → Prop) → Prop) (c_law3_sameLog : Sl → Sl → Heap → (Bool → Heap → Prop) → Prop) (Q : Bool → Heap → Prop) (s91 : (Int × (Int × (Sl × (Int × (Sl × (Sl × (Sl × (Int × (Den kapiDequeRun × (Den kapiDequeRun × Unit))))))))))) (r93 : (Den kapiDequeRun × (Int × Unit))) (go97 : (Int × Unit) → Heap → Prop) (s95 : (Int × Unit)) (h96 : Heap) : Prop :=
    (((decide (s95.1 < (s91.2.2.2.2.2.2.2.2.1.1.len : Int))) = true →
    (0 ≤ s95.1 ∧ s95.1 < (s91.2.2.2.2.2.2.2.2.1.1.len : Int)) ∧
    deref s91.2.2.2.2.2.2.2.2.1.1.a fun a98 =>
    ld ((.int .i64) : Kd) h96 ((a98.add ((s95.1 : Int).toNat * 7)).add 6) fun t99 =>
    (((decide (t99 ≠ (-9))) = true →
    Q false h96) ∧
    ((decide (t99 ≠ (-9))) = false →
    go97 ((w64 (s95.1 + 1)), ()) h96))) ∧
    ((decide (s95.1 < (s91.2.2.2.2.2.2.2.2.1.1.len : Int))) = false →
    Loop (law3_DequePlay.l6 c_deque_Play c_ref3_Play c_law3_sameCalls c_law3_sameInts c_law3_sameLog Q s91 r93) (0, ()) h96))
def law3_DequePlay.k8 (c_deque_Play : Int → Int → Sl → Int → Sl → Heap → ((Den kapiDequeRun × (Int × Unit)) → Heap → Prop) → Prop) (c_ref3_Play : Int → Int → Sl → Int → Sl → Heap → ((Den kapiDequeRun × (Int × Unit)) → Heap → Prop) → Prop) (c_law3_sameCalls : Sl → Sl → Heap → (Bool → Heap → Prop) → Prop) (c_law3_sameInts : Sl → Sl → Heap → (Bool → Heap → Prop) → Prop) (c_law3_sameLog : Sl → Sl → Heap → (Bool → Heap → Prop) → Prop) (Q : Bool → Heap → Prop) (s91 : (Int × (Int × (Sl × (Int × (Sl × (Sl × (Sl × (Int × (Den kapiDequeRun × (Den kapiDequeRun × Unit))))))))))) (h92 : Heap) : Prop :=
    c_deque_Play s91.1 s91.2.1 s91.2.2.1 s91.2.2.2.1 s91.2.2.2.2.1 h92 fun r93 h94 =>
    Loop (law3_DequePlay.l7 c_deque_Play c_ref3_Play c_law3_sameCalls c_law3_sameInts c_law3_sameLog Q s91 r93) (0, ()) h94
def law3_DequePlay.j9 (c_deque_Play : Int → Int → Sl → Int → Sl → Heap → ((Den kapiDequeRun × (Int × Unit)) → Heap → Prop) → Prop) (c_ref3_Play : Int → Int → Sl → Int → Sl → Heap → ((Den kapiDequeRun × (Int × Unit)) → Heap → Prop) → Prop) (c_law3_sameCalls : Sl → Sl → Heap → (Bool → Heap → Prop) → Prop) (c_law3_sameInts : Sl → Sl → Heap → (Bool → Heap → Prop) → Prop) (c_law3_sameLog : Sl → Sl → Heap → (Bool → Heap → Prop) → Prop) (Q : Bool → Heap → Prop) (s59 : (Int × (Int × (Sl × (Int × (Sl × (Sl × (Sl × (Int × (Den kapiDequeRun × (Den kapiDequeRun × (Den kapiDequeRun × Unit)))))))))))) (s154 : (Bool × Unit)) (h155 : Heap) : Prop :=
    ((s154.1 = true →
    Q false h155) ∧
    (s154.1 = false →
    law3_DequePlay.k8 c_deque_Play c_ref3_Play c_law3_sameCalls c_law3_sameInts c_law3_sameLog Q (s59.1, s59.2.1, s59.2.2.1, s59.2.2.2.1, s59.2.2.2.2.1, s59.2.2.2.2.2.1, s59.2.2.2.2.2.2.1, s59.2.2.2.2.2.2.2.1, (s59.2.2.2.2.2.2.2.2.1.1, (s59.2.2.2.2.2.2.2.2.1.2.1, (s59.2.2.2.2.2.2.2.2.1.2.2.1, ()))), (s59.2.2.2.2.2.2.2.2.2.1.1, (s59.2.2.2.2.2.2.2.2.2.1.2.1, (s59.2.2.2.2.2.2.2.2.2.1.2.2.1, ()))), ()) h155))
def law3_DequePlay.l10 (c_deque_Play : Int → Int → Sl → Int → Sl → Heap → ((Den kapiDequeRun × (Int × Unit)) → Heap → Prop) → Prop) (c_ref3_Play : Int → Int → Sl → Int → Sl → Heap → ((Den kapiDequeRun × (Int × Unit)) → Heap → Prop) → Prop) (c_law3_sameCalls : Sl → Sl → Heap → (Bool → Heap → Prop) → Prop) (c_law3_sameInts : Sl → Sl → Heap → (Bool → Heap → Prop) → Prop) (c_law3_sameLog : Sl → Sl → Heap → (Bool → Heap → Prop) → Prop) (Q : Bool → Heap → Prop) (s59 : (Int × (Int × (Sl × (Int × (Sl × (Sl × (Sl × (Int × (Den kapiDequeRun × (Den kapiDequeRun × (Den kapiDequeRun × Unit)))))))))))) (go78 : (Sl × (Sl × (Sl × (Int × Unit)))) → Heap → Prop) (s76 : (Sl × (Sl × (Sl × (Int × Unit))))) (h77 : Heap) : Prop :=
    (((decide (s76.2.2.2.1 < 64)) = true →
    new h77 (([(0, (0, (0, (0, (0, (0, ((-9), ())))))))] : List (Den kapiCall)).flatMap (Kd.cells kapiCall)) fun p79 h80 =>
    appendM 7 56 h80 s76.1 ⟨some p79, 1, 1⟩ fun t81 h82 =>
    new h82 (([(-8)] : List (Den ((.int .i64) : Kd))).flatMap (Kd.cells ((.int .i64) : Kd))) fun p83 h84 =>
    appendM 1 8 h84 s76.2.1 ⟨some p83, 1, 1⟩ fun t85 h86 =>
    new h86 (([((-7), (0, (0, (0, (0, (false, ()))))))] : List (Den kapiAccess)).flatMap (Kd.cells kapiAccess)) fun p87 h88 =>
    appendM 6 48 h88 s76.2.2.1 ⟨some p87, 1, 1⟩ fun t89 h90 =>
    go78 (t81, t85, t89, (w64 (s76.2.2.2.1 + 1)), ()) h90) ∧
    ((decide (s76.2.2.2.1 < 64)) = false →
    (((decide ((w64 ((w64 ((s76.1.len : Int) + (s76.2.1.len : Int))) + (s76.2.2.1.len : Int))) ≠ (w64 ((w64 ((w64 ((s59.2.2.2.2.2.2.2.2.1.1.len : Int) + (s59.2.2.2.2.2.2.2.2.1.2.1.len : Int))) + (s59.2.2.2.2.2.2.2.2.1.2.2.1.len : Int))) + 192)))) = true →
    law3_DequePlay.j9 c_deque_Play c_ref3_Play c_law3_sameCalls c_law3_sameInts c_law3_sameLog Q s59 (true, ()) h77) ∧
    ((decide ((w64 ((w64 ((s76.1.len : Int) + (s76.2.1.len : Int))) + (s76.2.2.1.len : Int))) ≠ (w64 ((w64 ((w64 ((s59.2.2.2.2.2.2.2.2.1.1.len : Int) + (s59.2.2.2.2.2.2.2.2.1.2.1.len : Int))) + (s59.2.2.2.2.2.2.2.2.1.2.2.1.len : Int))) + 192)))) = false →
    c_law3_sameCalls s59.2.2.2.2.2.2.2.2.2.2.1.1 s59.2.2.2.2.2.2.2.2.2.1.1 h77 fun r156 h157 =>
    (((!r156) = true →
    law3_DequePlay.j9 c_deque_Play c_ref3_Play c_law3_sameCalls c_law3_sameInts c_law3_sameLog Q s59 (true, ()) h157) ∧
    ((!r156) = false →
    c_law3_sameInts s59.2.2.2.2.2.2.2.2.2.2.1.2.1 s59.2.2.2.2.2.2.2.2.2.1.2.1 h157 fun r158 h159 =>
    (((!r158) = true →
    law3_DequePlay.j9 c_deque_Play c_ref3_Play c_law3_sameCalls c_law3_sameInts c_law3_sameLog Q s59 (true, ()) h159) ∧
    ((!r158) = false →
    c_law3_sameLog s59.2.2.2.2.2.2.2.2.2.2.1.2.2.1 s59.2.2.2.2.2.2.2.2.2.1.2.2.1 h159 fun r160 h161 =>
    law3_DequePlay.j9 c_deque_Play c_ref3_Play c_law3_sameCalls c_law3_sameInts c_law3_sameLog Q s59 ((!r160), ()) h161))))))))
def law3_DequePlay.l11 (c_deque_Play : Int → Int → Sl → Int → Sl → Heap → ((Den kapiDequeRun × (Int × Unit)) → Heap → Prop) → Prop) (c_ref3_Play : Int → Int → Sl → Int → Sl → Heap → ((Den kapiDequeRun × (Int × Unit)) → Heap → Prop) → Prop) (c_law3_sameCalls : Sl → Sl → Heap → (Bool → Heap → Prop) → Prop) (c_law3_sameInts : Sl → Sl → Heap → (Bool → Heap → Prop) → Prop) (c_law3_sameLog : Sl → Sl → Heap → (Bool → Heap → Prop) → Prop) (Q : Bool → Heap → Prop) (s59 : (Int × (Int × (Sl × (Int × (Sl × (Sl × (Sl × (Int × (Den kapiDequeRun × (Den kapiDequeRun × (Den kapiDequeRun × Unit)))))))))))) (go73 : (Int × Unit) → Heap → Prop) (s71 : (Int × Unit)) (h72 : Heap) : Prop :=
    (((decide (s71.1 < (s59.2.2.2.2.2.2.2.2.1.2.2.1.len : Int))) = true →
    (0 ≤ s71.1 ∧ s71.1 < (s59.2.2.2.2.2.2.2.2.1.2.2.1.len : Int)) ∧
    deref s59.2.2.2.2.2.2.2.2.1.2.2.1.a fun a74 =>
    st ((.int .i64) : Kd) h72 ((a74.add ((s71.1 : Int).toNat * 6)).add 0) (-7) fun h75 =>
    go73 ((w64 (s71.1 + 1)), ()) h75) ∧
    ((decide (s71.1 < (s59.2.2.2.2.2.2.2.2.1.2.2.1.len : Int))) = false →
    Loop (law3_DequePlay.l10 c_deque_Play c_ref3_Play c_law3_sameCalls c_law3_sameInts c_law3_sameLog Q s59) (s59.2.2.2.2.2.2.2.2.1.1, s59.2.2.2.2.2.2.2.2.1.2.1, s59.2.2.2.2.2.2.2.2.1.2.2.1, 0, ()) h72))
def law3_DequePlay.l12 (c_deque_Play : Int → Int → Sl → Int → Sl → Heap → ((Den kapiDequeRun × (Int × Unit)) → Heap → Prop) → Prop) (c_ref3_Play : Int → Int → Sl → Int → Sl → Heap → ((Den kapiDequeRun × (Int × Unit)) → Heap → Prop) → Prop) (c_law3_sameCalls : Sl → Sl → Heap → (Bool → Heap → Prop) → Prop) (c_law3_sameInts : Sl → Sl → Heap → (Bool → Heap → Prop) → Prop) (c_law3_sameLog : Sl → Sl → Heap → (Bool → Heap → Prop) → Prop) (Q : Bool → Heap → Prop) (s59 : (Int × (Int × (Sl × (Int × (Sl × (Sl × (Sl × (Int × (Den kapiDequeRun × (Den kapiDequeRun × (Den kapiDequeRun × Unit)))))))))))) (go68 : (Int × Unit) → Heap → Prop) (s66 : (Int × Unit)) (h67 : Heap) : Prop :=
    (((decide (s66.1 < (s59.2.2.2.2.2.2.2.2.1.2.1.len : Int))) = true →
    (0 ≤ s66.1 ∧ s66.1 < (s59.2.2.2.2.2.2.2.2.1.2.1.len : Int)) ∧
    deref s59.2.2.2.2.2.2.2.2.1.2.1.a fun a69 =>
    st ((.int .i64) : Kd) h67 (a69.add ((s66.1 : Int).toNat * 1)) (-8) fun h70 =>
    go68 ((w64 (s66.1 + 1)), ()) h70) ∧
    ((decide (s66.1 < (s59.2.2.2.2.2.2.2.2.1.2.1.len : Int))) = false →
    Loop (law3_DequePlay.l11 c_deque_Play c_ref3_Play c_law3_sameCalls c_law3_sameInts c_law3_sameLog Q s59) (0, ()) h67))
def law3_DequePlay.l13 (c_deque_Play : Int → Int → Sl → Int → Sl → Heap → ((Den kapiDequeRun × (Int × Unit)) → Heap → Prop) → Prop) (c_ref3_Play : Int → Int → Sl → Int → Sl → Heap → ((Den kapiDequeRun × (Int × Unit)) → Heap → Prop) → Prop) (c_law3_sameCalls : Sl → Sl → Heap → (Bool → Heap → Prop) → Prop) (c_law3_sameInts : Sl → Sl → Heap → (Bool → Heap → Prop) → Prop) (c_law3_sameLog : Sl → Sl → Heap → (Bool → Heap → Prop) → Prop) (Q : Bool → Heap → Prop) (s59 : (Int × (Int × (Sl × (Int × (Sl × (Sl × (Sl × (Int × (Den kapiDequeRun × (Den kapiDequeRun × (Den kapiDequeRun × Unit)))))))))))) (go63 : (Int × Unit) → Heap → Prop) (s61 : (Int × Unit)) (h62 : Heap) : Prop :=
    (((decide (s61.1 < (s59.2.2.2.2.2.2.2.2.1.1.len : Int))) = true →
    (0 ≤ s61.1 ∧ s61.1 < (s59.2.2.2.2.2.2.2.2.1.1.len : Int)) ∧
    deref s59.2.2.2.2.2.2.2.2.1.1.a fun a64 =>
    st ((.int .i64) : Kd) h62 ((a64.add ((s61.1 : Int).toNat * 7)).add 6) (-9) fun h65 =>
    go63 ((w64 (s61.1 + 1)), ()) h65) ∧
    ((decide (s61.1 < (s59.2.2.2.2.2.2.2.2.1.1.len : Int))) = false →
    Loop (law3_DequePlay.l12 c_deque_Play c_ref3_Play c_law3_sameCalls c_law3_sameInts c_law3_sameLog Q s59) (0, ()) h62))
def law3_DequePlay.k14 (c_deque_Play : Int → Int → Sl → Int → Sl → Heap → ((Den kapiDequeRun × (Int × Unit)) → Heap → Prop) → Prop) (c_ref3_Play : Int → Int → Sl → Int → Sl → Heap → ((Den kapiDequeRun × (Int × Unit)) → Heap → Prop) → Prop) (c_law3_sameCalls : Sl → Sl → Heap → (Bool → Heap → Prop) → Prop) (c_law3_sameInts : Sl → Sl → Heap → (Bool → Heap → Prop) → Prop) (c_law3_sameLog : Sl → Sl → Heap → (Bool → Heap → Prop) → Prop) (Q : Bool → Heap → Prop) (s59 : (Int × (Int × (Sl × (Int × (Sl × (Sl × (Sl × (Int × (Den kapiDequeRun × (Den kapiDequeRun × (Den kapiDequeRun × Unit)))))))))))) (h60 : Heap) : Prop :=
    Loop (law3_DequePlay.l13 c_deque_Play c_ref3_Play c_law3_sameCalls c_law3_sameInts c_law3_sameLog Q s59) (0, ()) h60
def law3_DequePlay.j15 (c_deque_Play : Int → Int → Sl → Int → Sl → Heap → ((Den kapiDequeRun × (Int × Unit)) → Heap → Prop) → Prop) (c_ref3_Play : Int → Int → Sl → Int → Sl → Heap → ((Den kapiDequeRun × (Int × Unit)) → Heap → Prop) → Prop) (c_law3_sameCalls : Sl → Sl → Heap → (Bool → Heap → Prop) → Prop) (c_law3_sameInts : Sl → Sl → Heap → (Bool → Heap → Prop) → Prop) (c_law3_sameLog : Sl → Sl → Heap → (Bool → Heap → Prop) → Prop) (Q : Bool → Heap → Prop) (s53 : (Int × (Int × (Sl × (Int × (Sl × (Sl × (Sl × (Int × (Den kapiDequeRun × (Den kapiDequeRun × Unit))))))))))) (r55 : (Den kapiDequeRun × (Int × Unit))) (s162 : (Bool × Unit)) (h163 : Heap) : Prop :=
    ((s162.1 = true →
    Q false h163) ∧
    (s162.1 = false →
    law3_DequePlay.k14 c_deque_Play c_ref3_Play c_law3_sameCalls c_law3_sameInts c_law3_sameLog Q (s53.1, s53.2.1, s53.2.2.1, s53.2.2.2.1, s53.2.2.2.2.1, s53.2.2.2.2.2.1, s53.2.2.2.2.2.2.1, s53.2.2.2.2.2.2.2.1, (s53.2.2.2.2.2.2.2.2.1.1, (s53.2.2.2.2.2.2.2.2.1.2.1, (s53.2.2.2.2.2.2.2.2.1.2.2.1, ()))), (s53.2.2.2.2.2.2.2.2.2.1.1, (s53.2.2.2.2.2.2.2.2.2.1.2.1, (s53.2.2.2.2.2.2.2.2.2.1.2.2.1, ()))), (r55.1.1, (r55.1.2.1, (r55.1.2.2.1, ()))), ()) h163))
def law3_DequePlay.k16 (c_deque_Play : Int → Int → Sl → Int → Sl → Heap → ((Den kapiDequeRun × (Int × Unit)) → Heap → Prop) → Prop) (c_ref3_Play : Int → Int → Sl → Int → Sl → Heap → ((Den kapiDequeRun × (Int × Unit)) → Heap → Prop) → Prop) (c_law3_sameCalls : Sl → Sl → Heap → (Bool → Heap → Prop) → Prop) (c_law3_sameInts : Sl → Sl → Heap → (Bool → Heap → Prop) → Prop) (c_law3_sameLog : Sl → Sl → Heap → (Bool → Heap → Prop) → Prop) (Q : Bool → Heap → Prop) (s53 : (Int × (Int × (Sl × (Int × (Sl × (Sl × (Sl × (Int × (Den kapiDequeRun × (Den kapiDequeRun × Unit))))))))))) (h54 : Heap) : Prop :=
    c_deque_Play s53.1 s53.2.1 s53.2.2.1 s53.2.2.2.1 s53.2.2.2.2.1 h54 fun r55 h56 =>
    (2 : Int) ≠ 0 ∧
    (0 ≤ (w64 (Int.tdiv (s53.2.2.2.2.2.1.len : Int) 2)) ∧ (w64 (Int.tdiv (s53.2.2.2.2.2.1.len : Int) 2)) ≤ (s53.2.2.2.2.2.1.cap : Int)) ∧
    (2 : Int) ≠ 0 ∧
    (0 ≤ (w64 (Int.tdiv (s53.2.2.2.2.2.2.1.len : Int) 2)) ∧ (w64 (Int.tdiv (s53.2.2.2.2.2.2.1.len : Int) 2)) ≤ (s53.2.2.2.2.2.2.1.cap : Int)) ∧
    c_deque_Play s53.1 s53.2.1 (s53.2.2.2.2.2.1.cut 0 (((w64 (Int.tdiv (s53.2.2.2.2.2.1.len : Int) 2)) : Int).toNat) 2) s53.2.2.2.1 (s53.2.2.2.2.2.2.1.cut 0 (((w64 (Int.tdiv (s53.2.2.2.2.2.2.1.len : Int) 2)) : Int).toNat) 1) h56 fun r57 h58 =>
    (((decide (r55.2.1 ≠ s53.2.2.2.2.2.2.2.1)) = true →
    law3_DequePlay.j15 c_deque_Play c_ref3_Play c_law3_sameCalls c_law3_sameInts c_law3_sameLog Q s53 r55 (true, ()) h58) ∧
    ((decide (r55.2.1 ≠ s53.2.2.2.2.2.2.2.1)) = false →
    c_law3_sameCalls s53.2.2.2.2.2.2.2.2.1.1 s53.2.2.2.2.2.2.2.2.2.1.1 h58 fun r164 h165 =>
    (((!r164) = true →
    law3_DequePlay.j15 c_deque_Play c_ref3_Play c_law3_sameCalls c_law3_sameInts c_law3_sameLog Q s53 r55 (true, ()) h165) ∧
    ((!r164) = false →
    c_law3_sameInts s53.2.2.2.2.2.2.2.2.1.2.1 s53.2.2.2.2.2.2.2.2.2.1.2.1 h165 fun r166 h167 =>
    (((!r166) = true →
    law3_DequePlay.j15 c_deque_Play c_ref3_Play c_law3_sameCalls c_law3_sameInts c_law3_sameLog Q s53 r55 (true, ()) h167) ∧
    ((!r166) = false →
    c_law3_sameLog s53.2.2.2.2.2.2.2.2.1.2.2.1 s53.2.2.2.2.2.2.2.2.2.1.2.2.1 h167 fun r168 h169 =>
    law3_DequePlay.j15 c_deque_Play c_ref3_Play c_law3_sameCalls c_law3_sameInts c_law3_sameLog Q s53 r55 ((!r168), ()) h169))))))
def law3_DequePlay.j17 (c_deque_Play : Int → Int → Sl → Int → Sl → Heap → ((Den kapiDequeRun × (Int × Unit)) → Heap → Prop) → Prop) (c_ref3_Play : Int → Int → Sl → Int → Sl → Heap → ((Den kapiDequeRun × (Int × Unit)) → Heap → Prop) → Prop) (c_law3_sameCalls : Sl → Sl → Heap → (Bool → Heap → Prop) → Prop) (c_law3_sameInts : Sl → Sl → Heap → (Bool → Heap → Prop) → Prop) (c_law3_sameLog : Sl → Sl → Heap → (Bool → Heap → Prop) → Prop) (Q : Bool → Heap → Prop) (s33 : (Int × (Int × (Sl × (Int × (Sl × (Sl × (Sl × (Int × (Den kapiDequeRun × (Den kapiDequeRun × Unit))))))))))) (s170 : (Bool × Unit)) (h171 : Heap) : Prop :=
    ((s170.1 = true →
    Q false h171) ∧
    (s170.1 = false →
    law3_DequePlay.k16 c_deque_Play c_ref3_Play c_law3_sameCalls c_law3_sameInts c_law3_sameLog Q (s33.1, s33.2.1, s33.2.2.1, s33.2.2.2.1, s33.2.2.2.2.1, s33.2.2.2.2.2.1, s33.2.2.2.2.2.2.1, s33.2.2.2.2.2.2.2.1, (s33.2.2.2.2.2.2.2.2.1.1, (s33.2.2.2.2.2.2.2.2.1.2.1, (s33.2.2.2.2.2.2.2.2.1.2.2.1, ()))), (s33.2.2.2.2.2.2.2.2.2.1.1, (s33.2.2.2.2.2.2.2.2.2.1.2.1, (s33.2.2.2.2.2.2.2.2.2.1.2.2.1, ()))), ()) h171))
def law3_DequePlay.k18 (c_deque_Play : Int → Int → Sl → Int → Sl → Heap → ((Den kapiDequeRun × (Int × Unit)) → Heap → Prop) → Prop) (c_ref3_Play : Int → Int → Sl → Int → Sl → Heap → ((Den kapiDequeRun × (Int × Unit)) → Heap → Prop) → Prop) (c_law3_sameCalls : Sl → Sl → Heap → (Bool → Heap → Prop) → Prop) (c_law3_sameInts : Sl → Sl → Heap → (Bool → Heap → Prop) → Prop) (c_law3_sameLog : Sl → Sl → Heap → (Bool → Heap → Prop) → Prop) (Q : Bool → Heap → Prop) (s33 : (Int × (Int × (Sl × (Int × (Sl × (Sl × (Sl × (Int × (Den kapiDequeRun × (Den kapiDequeRun × Unit))))))))))) (h34 : Heap) : Prop :=
    new h34 (([] : List (Den kapiTodo)).flatMap (Kd.cells kapiTodo)) fun p35 h36 =>
    appendM 2 16 h36 ⟨some p35, 0, 0⟩ s33.2.2.2.2.2.1 fun t37 h38 =>
    new h38 (([(77, (78, ()))] : List (Den kapiTodo)).flatMap (Kd.cells kapiTodo)) fun p39 h40 =>
    appendM 2 16 h40 t37 ⟨some p39, 1, 1⟩ fun t41 h42 =>
    new h42 (([] : List (Den ((.int .i64) : Kd))).flatMap (Kd.cells ((.int .i64) : Kd))) fun p43 h44 =>
    appendM 1 8 h44 ⟨some p43, 0, 0⟩ s33.2.2.2.2.2.2.1 fun t45 h46 =>
    new h46 (([79] : List (Den ((.int .i64) : Kd))).flatMap (Kd.cells ((.int .i64) : Kd))) fun p47 h48 =>
    appendM 1 8 h48 t45 ⟨some p47, 1, 1⟩ fun t49 h50 =>
    (0 ≤ (s33.2.2.2.2.2.1.len : Int) ∧ (s33.2.2.2.2.2.1.len : Int) ≤ (t41.cap : Int)) ∧
    (0 ≤ (s33.2.2.2.2.2.2.1.len : Int) ∧ (s33.2.2.2.2.2.2.1.len : Int) ≤ (t49.cap : Int)) ∧
    c_deque_Play s33.1 s33.2.1 (t41.cut 0 (((s33.2.2.2.2.2.1.len : Int) : Int).toNat) 2) s33.2.2.2.1 (t49.cut 0 (((s33.2.2.2.2.2.2.1.len : Int) : Int).toNat) 1) h50 fun r51 h52 =>
    (0 ≤ (s33.2.2.2.2.2.1.len : Int) ∧ (s33.2.2.2.2.2.1.len : Int) < (t41.len : Int)) ∧
    deref t41.a fun a172 =>
    ld ((.int .i64) : Kd) h52 ((a172.add (((s33.2.2.2.2.2.1.len : Int) : Int).toNat * 2)).add 0) fun t173 =>
    (((decide (t173 ≠ 77)) = true →
    law3_DequePlay.j17 c_deque_Play c_ref3_Play c_law3_sameCalls c_law3_sameInts c_law3_sameLog Q s33 (true, ()) h52) ∧
    ((decide (t173 ≠ 77)) = false →
    (0 ≤ (s33.2.2.2.2.2.1.len : Int) ∧ (s33.2.2.2.2.2.1.len : Int) < (t41.len : Int)) ∧
    deref t41.a fun a174 =>
    ld ((.int .i64) : Kd) h52 ((a174.add (((s33.2.2.2.2.2.1.len : Int) : Int).toNat * 2)).add 1) fun t175 =>
    (((decide (t175 ≠ 78)) = true →
    law3_DequePlay.j17 c_deque_Play c_ref3_Play c_law3_sameCalls c_law3_sameInts c_law3_sameLog Q s33 (true, ()) h52) ∧
    ((decide (t175 ≠ 78)) = false →
    (0 ≤ (s33.2.2.2.2.2.2.1.len : Int) ∧ (s33.2.2.2.2.2.2.1.len : Int) < (t49.len : Int)) ∧
    deref t49.a fun a176 =>
    ld ((.int .i64) : Kd) h52 (a176.add (((s33.2.2.2.2.2.2.1.len : Int) : Int).toNat * 1)) fun t177 =>
    law3_DequePlay.j17 c_deque_Play c_ref3_Play c_law3_sameCalls c_law3_sameInts c_law3_sameLog Q s33 ((decide (t177 ≠ 79)), ()) h52))))
def law3_DequePlay.j19 (c_deque_Play : Int → Int → Sl → Int → Sl → Heap → ((Den kapiDequeRun × (Int × Unit)) → Heap → Prop) → Prop) (c_ref3_Play : Int → Int → Sl → Int → Sl → Heap → ((Den kapiDequeRun × (Int × Unit)) → Heap → Prop) → Prop) (c_law3_sameCalls : Sl → Sl → Heap → (Bool → Heap → Prop) → Prop) (c_law3_sameInts : Sl → Sl → Heap → (Bool → Heap → Prop) → Prop) (c_law3_sameLog : Sl → Sl → Heap → (Bool → Heap → Prop) → Prop) (first1 : Int) (most2 : Int) (todos3 : Sl) (thieves4 : Int) (picks5 : Sl) (Q : Bool → Heap → Prop) (t9 : Sl) (t13 : Sl) (r15 : (Den kapiDequeRun × (Int × Unit))) (r31 : (Den kapiDequeRun × (Int × Unit))) (s178 : (Bool × Unit)) (h179 : Heap) : Prop :=
    ((s178.1 = true →
    Q false h179) ∧
    (s178.1 = false →
    law3_DequePlay.k18 c_deque_Play c_ref3_Play c_law3_sameCalls c_law3_sameInts c_law3_sameLog Q (first1, most2, todos3, thieves4, picks5, t9, t13, r31.2.1, (r15.1.1, (r15.1.2.1, (r15.1.2.2.1, ()))), (r31.1.1, (r31.1.2.1, (r31.1.2.2.1, ()))), ()) h179))
def law3_DequePlay.l20 (c_deque_Play : Int → Int → Sl → Int → Sl → Heap → ((Den kapiDequeRun × (Int × Unit)) → Heap → Prop) → Prop) (c_ref3_Play : Int → Int → Sl → Int → Sl → Heap → ((Den kapiDequeRun × (Int × Unit)) → Heap → Prop) → Prop) (c_law3_sameCalls : Sl → Sl → Heap → (Bool → Heap → Prop) → Prop) (c_law3_sameInts : Sl → Sl → Heap → (Bool → Heap → Prop) → Prop) (c_law3_sameLog : Sl → Sl → Heap → (Bool → Heap → Prop) → Prop) (first1 : Int) (most2 : Int) (todos3 : Sl) (thieves4 : Int) (picks5 : Sl) (Q : Bool → Heap → Prop) (t9 : Sl) (t13 : Sl) (r15 : (Den kapiDequeRun × (Int × Unit))) (go26 : (Int × Unit) → Heap → Prop) (s24 : (Int × Unit)) (h25 : Heap) : Prop :=
    (((decide (s24.1 < (t13.len : Int))) = true →
    (0 ≤ s24.1 ∧ s24.1 < (picks5.len : Int)) ∧
    deref picks5.a fun a27 =>
    (0 ≤ s24.1 ∧ s24.1 < (t13.len : Int)) ∧
    deref t13.a fun a28 =>
    ld ((.int .i64) : Kd) h25 (a27.add ((s24.1 : Int).toNat * 1)) fun t29 =>
    ld ((.int .i64) : Kd) h25 (a28.add ((s24.1 : Int).toNat * 1)) fun t30 =>
    (((decide (t29 ≠ t30)) = true →
    Q false h25) ∧
    ((decide (t29 ≠ t30)) = false →
    go26 ((w64 (s24.1 + 1)), ()) h25))) ∧
    ((decide (s24.1 < (t13.len : Int))) = false →
    c_ref3_Play first1 most2 t9 thieves4 t13 h25 fun r31 h32 =>
    (((decide (r15.2.1 ≠ r31.2.1)) = true →
    law3_DequePlay.j19 c_deque_Play c_ref3_Play c_law3_sameCalls c_law3_sameInts c_law3_sameLog first1 most2 todos3 thieves4 picks5 Q t9 t13 r15 r31 (true, ()) h32) ∧
    ((decide (r15.2.1 ≠ r31.2.1)) = false →
    c_law3_sameCalls r15.1.1 r31.1.1 h32 fun r180 h181 =>
    (((!r180) = true →
    law3_DequePlay.j19 c_deque_Play c_ref3_Play c_law3_sameCalls c_law3_sameInts c_law3_sameLog first1 most2 todos3 thieves4 picks5 Q t9 t13 r15 r31 (true, ()) h181) ∧
    ((!r180) = false →
    c_law3_sameInts r15.1.2.1 r31.1.2.1 h181 fun r182 h183 =>
    (((!r182) = true →
    law3_DequePlay.j19 c_deque_Play c_ref3_Play c_law3_sameCalls c_law3_sameInts c_law3_sameLog first1 most2 todos3 thieves4 picks5 Q t9 t13 r15 r31 (true, ()) h183) ∧
    ((!r182) = false →
    c_law3_sameLog r15.1.2.2.1 r31.1.2.2.1 h183 fun r184 h185 =>
    law3_DequePlay.j19 c_deque_Play c_ref3_Play c_law3_sameCalls c_law3_sameInts c_law3_sameLog first1 most2 todos3 thieves4 picks5 Q t9 t13 r15 r31 ((!r184), ()) h185))))))))
def law3_DequePlay.l21 (c_deque_Play : Int → Int → Sl → Int → Sl → Heap → ((Den kapiDequeRun × (Int × Unit)) → Heap → Prop) → Prop) (c_ref3_Play : Int → Int → Sl → Int → Sl → Heap → ((Den kapiDequeRun × (Int × Unit)) → Heap → Prop) → Prop) (c_law3_sameCalls : Sl → Sl → Heap → (Bool → Heap → Prop) → Prop) (c_law3_sameInts : Sl → Sl → Heap → (Bool → Heap → Prop) → Prop) (c_law3_sameLog : Sl → Sl → Heap → (Bool → Heap → Prop) → Prop) (first1 : Int) (most2 : Int) (todos3 : Sl) (thieves4 : Int) (picks5 : Sl) (Q : Bool → Heap → Prop) (t9 : Sl) (t13 : Sl) (r15 : (Den kapiDequeRun × (Int × Unit))) (go19 : (Int × Unit) → Heap → Prop) (s17 : (Int × Unit)) (h18 : Heap) : Prop :=
    (((decide (s17.1 < (t9.len : Int))) = true →
    (0 ≤ s17.1 ∧ s17.1 < (todos3.len : Int)) ∧
    deref todos3.a fun a20 =>
    (0 ≤ s17.1 ∧ s17.1 < (t9.len : Int)) ∧
    deref t9.a fun a21 =>
    ld kapiTodo h18 (a20.add ((s17.1 : Int).toNat * 2)) fun t22 =>
    ld kapiTodo h18 (a21.add ((s17.1 : Int).toNat * 2)) fun t23 =>
    (((!(eqK kapiTodo t22 t23)) = true →
    Q false h18) ∧
    ((!(eqK kapiTodo t22 t23)) = false →
    go19 ((w64 (s17.1 + 1)), ()) h18))) ∧
    ((decide (s17.1 < (t9.len : Int))) = false →
    Loop (law3_DequePlay.l20 c_deque_Play c_ref3_Play c_law3_sameCalls c_law3_sameInts c_law3_sameLog first1 most2 todos3 thieves4 picks5 Q t9 t13 r15) (0, ()) h18))
def law3_DequePlay.M (c_deque_Play : Int → Int → Sl → Int → Sl → Heap → ((Den kapiDequeRun × (Int × Unit)) → Heap → Prop) → Prop) (c_ref3_Play : Int → Int → Sl → Int → Sl → Heap → ((Den kapiDequeRun × (Int × Unit)) → Heap → Prop) → Prop) (c_law3_sameCalls : Sl → Sl → Heap → (Bool → Heap → Prop) → Prop) (c_law3_sameInts : Sl → Sl → Heap → (Bool → Heap → Prop) → Prop) (c_law3_sameLog : Sl → Sl → Heap → (Bool → Heap → Prop) → Prop) (first1 : Int) (most2 : Int) (todos3 : Sl) (thieves4 : Int) (picks5 : Sl) (h6 : Heap) (Q : Bool → Heap → Prop) : Prop :=
    new h6 (([] : List (Den kapiTodo)).flatMap (Kd.cells kapiTodo)) fun p7 h8 =>
    appendM 2 16 h8 ⟨some p7, 0, 0⟩ todos3 fun t9 h10 =>
    new h10 (([] : List (Den ((.int .i64) : Kd))).flatMap (Kd.cells ((.int .i64) : Kd))) fun p11 h12 =>
    appendM 1 8 h12 ⟨some p11, 0, 0⟩ picks5 fun t13 h14 =>
    c_deque_Play first1 most2 todos3 thieves4 picks5 h14 fun r15 h16 =>
    Loop (law3_DequePlay.l21 c_deque_Play c_ref3_Play c_law3_sameCalls c_law3_sameInts c_law3_sameLog first1 most2 todos3 thieves4 picks5 Q t9 t13 r15) (0, ()) h16
def law3_DequePlay.mk : Mk := (.s .d (.s .d (.s .d (.s (.r [9]) (.s (.s .d (.b (.l [.slot 15 (.int .i64)] (.s (.s .d (.c .d .d)) (.s (.b (.s (.q [] [] [.p 0, .p 1, .p 2, .p 4, .p 5, .p 6, .w 3 [3, 8], .w 7 [7, 8], .p 8]) (.c (.s .d .d) .d))) .d))))) (.s (.s .d (.b (.l [.slot 16 (.int .i64)] (.s (.s .d (.c .d .d)) (.s (.b (.s (.q [] [] [.p 0, .p 1, .p 2, .p 4, .p 5, .p 6, .w 3 [3, 8], .w 7 [7, 8], .p 8]) (.c (.s .d .d) .d))) .d))))) (.s (.r [9]) (.k [.slot 0 (.int .i64), .slot 1 (.int .i64), .slot 2 .sl, .slot 3 (.int .i64), .slot 4 .sl, .slot 11 .sl, .slot 12 .sl, .slot 18 (.int .i64), .box 13 kapiDequeRun, .box 17 kapiDequeRun] [(13, 13, 0), (17, 17, 0)] (.j [.slot 123 .bool] .d (.c (.s .d .d) .d)) (.s .d (.s .d (.s (.q [] [] [.p 0, .p 1, .p 2, .p 3, .p 4, .p 5, .p 6, .p 7, .p 8, .p 9, .p 10, .o 11]) (.k [.slot 0 (.int .i64), .slot 1 (.int .i64), .slot 2 .sl, .slot 3 (.int .i64), .slot 4 .sl, .slot 11 .sl, .slot 12 .sl, .slot 18 (.int .i64), .box 13 kapiDequeRun, .box 17 kapiDequeRun] [(13, 13, 0), (17, 17, 0)] (.j [.slot 170 .bool] .d (.c (.s .d .d) .d)) (.s (.r [9]) (.s (.q [] [] [.p 0, .p 1, .p 2, .p 3, .p 4, .p 5, .p 6, .p 7, .p 8, .p 9, .p 10, .p 11, .p 12, .o 13]) (.k [.slot 0 (.int .i64), .slot 1 (.int .i64), .slot 2 .sl, .slot 3 (.int .i64), .slot 4 .sl, .slot 11 .sl, .slot 12 .sl, .slot 18 (.int .i64), .box 13 kapiDequeRun, .box 17 kapiDequeRun, .box 21 kapiDequeRun] [(13, 13, 0), (17, 17, 0), (21, 21, 0)] (.j [.slot 220 .bool] .d (.c (.s .d .d) .d)) (.s (.s .d (.b (.l [.slot 23 (.int .i64)] (.s (.s .d (.c .d .d)) (.s (.b .d) .d))))) (.s (.s .d (.b (.l [.slot 24 (.int .i64)] (.s (.s .d (.c .d .d)) (.s (.b .d) .d))))) (.s (.s .d (.b (.l [.slot 25 (.int .i64)] (.s (.s .d (.c .d .d)) (.s (.b .d) .d))))) (.s .d (.s .d (.s .d (.s (.s .d (.b (.l [.slot 26 .sl, .slot 27 .sl, .slot 28 .sl, .slot 29 (.int .i64)] (.s (.s .d (.c .d .d)) (.s (.b (.s .d (.s .d .d))) .d))))) (.k [.slot 0 (.int .i64), .slot 1 (.int .i64), .slot 2 .sl, .slot 3 (.int .i64), .slot 4 .sl, .slot 11 .sl, .slot 12 .sl, .slot 18 (.int .i64), .box 13 kapiDequeRun, .box 17 kapiDequeRun] [(13, 13, 0), (17, 17, 0)] (.j [.slot 321 .bool] .d (.c (.s .d .d) .d)) (.s (.r [9]) (.s (.s .d (.b (.l [.slot 32 (.int .i64)] (.s (.s .d (.c .d .d)) (.s (.b (.s .d (.c (.s .d .d) .d))) .d))))) (.s (.s .d (.b (.l [.slot 33 (.int .i64)] (.s (.s .d (.c .d .d)) (.s (.b (.s .d (.c (.s .d .d) .d))) .d))))) (.s (.s .d (.b (.l [.slot 34 (.int .i64)] (.s (.s .d (.c .d .d)) (.s (.b (.s .d (.c (.s .d .d) .d))) .d))))) (.k [.slot 0 (.int .i64), .slot 1 (.int .i64), .slot 3 (.int .i64), .slot 11 .sl, .slot 12 .sl] [] (.j [.slot 398 .bool] .d (.c (.s .d .d) .d)) (.s .d (.s (.s .d (.b (.l [.slot 35 (.int .i64)] (.s (.s .d (.c .d .d)) (.s (.b (.s (.r [4]) (.s .d .d))) .d))))) (.s (.s .d (.b (.l [.slot 37 (.int .i64)] (.s (.s .d (.c .d .d)) (.s (.b (.s .d (.s .d .d))) .d))))) (.s (.r [9]) (.s (.r [9]) (.s .d .d))))))))))))))))))))))))))))))))))

def deque_Play.l1 (c_ops_Mod : Int → Int → Heap → (Int → Heap → Prop) → Prop) (c_deque_game_step : Option Addr → Int → Int → Heap → (Unit → Heap → Prop) → Prop) (c_deque_game_rest : Option Addr → Heap → (Sl → Heap → Prop) → Prop) (c_cells_Arena_Log : Option Addr → Heap → (Sl → Heap → Prop) → Prop) (thieves4 : Int) (picks5 : Sl) (Q : (Den kapiDequeRun × (Int × Unit)) → Heap → Prop) (r11 : (Option Addr × (Int × Unit))) (p19 : Addr) (go30 : (Int × Unit) → Heap → Prop) (s28 : (Int × Unit)) (h29 : Heap) : Prop :=
    (((decide (s28.1 < (picks5.len : Int))) = true →
    (0 ≤ s28.1 ∧ s28.1 < (picks5.len : Int)) ∧
    deref picks5.a fun a31 =>
    ld ((.int .i64) : Kd) h29 (a31.add ((s28.1 : Int).toNat * 1)) fun t32 =>
    c_ops_Mod t32 (w64 (1 + thieves4)) h29 fun r33 h34 =>
    c_deque_game_step (some p19) s28.1 r33 h34 fun r35 h36 =>
    go30 ((w64 (s28.1 + 1)), ()) h36) ∧
    ((decide (s28.1 < (picks5.len : Int))) = false →
    ld (.sl : Kd) h29 (p19.add 5) fun t37 =>
    c_deque_game_rest (some p19) h29 fun r38 h39 =>
    sees h39 (some (p19.add 5)) (.sl : Kd) t37 ∧
    c_cells_Arena_Log r11.1 h39 fun r40 h41 =>
    sees h41 (some (p19.add 5)) (.sl : Kd) t37 ∧
    Q ((t37, (r38, (r40, ()))), 0, ()) h41))
def deque_Play.l2 (c_ops_Mod : Int → Int → Heap → (Int → Heap → Prop) → Prop) (c_deque_game_step : Option Addr → Int → Int → Heap → (Unit → Heap → Prop) → Prop) (c_deque_game_rest : Option Addr → Heap → (Sl → Heap → Prop) → Prop) (c_cells_Arena_Log : Option Addr → Heap → (Sl → Heap → Prop) → Prop) (thieves4 : Int) (picks5 : Sl) (Q : (Den kapiDequeRun × (Int × Unit)) → Heap → Prop) (r11 : (Option Addr × (Int × Unit))) (p19 : Addr) (t21 : Sl) (go24 : (Int × Unit) → Heap → Prop) (s22 : (Int × Unit)) (h23 : Heap) : Prop :=
    (((decide (s22.1 < (t21.len : Int))) = true →
    ld (.sl : Kd) h23 (p19.add 4) fun t25 =>
    (0 ≤ s22.1 ∧ s22.1 < (t25.len : Int)) ∧
    deref t25.a fun a26 =>
    st ((.int .i64) : Kd) h23 ((a26.add ((s22.1 : Int).toNat * 17)).add 16) (-1) fun h27 =>
    go24 ((w64 (s22.1 + 1)), ()) h27) ∧
    ((decide (s22.1 < (t21.len : Int))) = false →
    Loop (deque_Play.l1 c_ops_Mod c_deque_game_step c_deque_game_rest c_cells_Arena_Log thieves4 picks5 Q r11 p19) (0, ()) h23))
def deque_Play.M (c_deque_judged : Int → Int → Sl → Int → Sl → Heap → (Int → Heap → Prop) → Prop) (c_deque_Cells : Int → Int → Heap → (Int → Heap → Prop) → Prop) (c_cells_New : Int → Heap → ((Option Addr × (Int × Unit)) → Heap → Prop) → Prop) (c_deque_New : Value → Int → Int → Heap → ((Den kapiTodo × (Int × Unit)) → Heap → Prop) → Prop) (c_cells_Arena_Watch : Option Addr → Bool → Heap → (Unit → Heap → Prop) → Prop) (c_ops_Mod : Int → Int → Heap → (Int → Heap → Prop) → Prop) (c_deque_game_step : Option Addr → Int → Int → Heap → (Unit → Heap → Prop) → Prop) (c_deque_game_rest : Option Addr → Heap → (Sl → Heap → Prop) → Prop) (c_cells_Arena_Log : Option Addr → Heap → (Sl → Heap → Prop) → Prop) (low1 : Int) (most2 : Int) (todos3 : Sl) (thieves4 : Int) (picks5 : Sl) (h6 : Heap) (Q : (Den kapiDequeRun × (Int × Unit)) → Heap → Prop) : Prop :=
    c_deque_judged low1 most2 todos3 thieves4 picks5 h6 fun r7 h8 =>
    (((decide (r7 ≠ 0)) = true →
    Q ((Sl.none, (Sl.none, (Sl.none, ()))), r7, ()) h8) ∧
    ((decide (r7 ≠ 0)) = false →
    c_deque_Cells low1 most2 h8 fun r9 h10 =>
    c_cells_New r9 h10 fun r11 h12 =>
    (((decide (r11.2.1 ≠ 0)) = true →
    Q ((Sl.none, (Sl.none, (Sl.none, ()))), r11.2.1, ()) h12) ∧
    ((decide (r11.2.1 ≠ 0)) = false →
    c_deque_New (Value.iface 54 (Kd.val (.ptr : Kd) r11.1)) low1 most2 h12 fun r13 h14 =>
    (((decide (r13.2.1 ≠ 0)) = true →
    Q ((Sl.none, (Sl.none, (Sl.none, ()))), r13.2.1, ()) h14) ∧
    ((decide (r13.2.1 ≠ 0)) = false →
    c_cells_Arena_Watch r11.1 true h14 fun r15 h16 =>
    makeM kdequeactor 136 h16 (w64 (1 + thieves4)) (w64 (1 + thieves4)) fun s17 h18 =>
    new h18 (kdequegame.cells (r11.1, ((r13.1.1, (r13.1.2.1, ())), (todos3, (s17, (Sl.none, ())))))) fun p19 h20 =>
    ld (.sl : Kd) h20 (p19.add 4) fun t21 =>
    Loop (deque_Play.l2 c_ops_Mod c_deque_game_step c_deque_game_rest c_cells_Arena_Log thieves4 picks5 Q r11 p19 t21) (0, ()) h20))))))
def deque_Play.mk : Mk := (.s (.r [0]) (.s (.s .d (.s .d (.c (.s .d .d) .d))) (.s .d (.s (.s .d (.c (.s .d .d) .d)) (.s (.r [8]) (.s (.s .d (.c (.s .d .d) .d)) (.s .d (.s (.q [] [] [.p 0, .p 2, .p 3, .p 4, .w 1 [1, 6, 7, 8], .o 5, .p 6, .o 7, .p 8]) (.s (.s .d (.b (.l [.slot 68 (.int .i64)] (.s .d (.s (.c .d .d) (.s (.b (.s .d .d)) .d)))))) (.s (.s .d (.b (.l [.slot 81 (.int .i64)] (.s .d (.s (.c .d .d) (.s (.b (.s .d .d)) .d)))))) (.s (.q [] [10] [.p 0, .p 1, .p 2, .p 4, .p 6, .w 3 [3, 8, 9, 10], .o 5, .o 7, .p 8, .o 9, .p 10]) .d)))))))))))

def ref3_Play.l1 (c_ref3_Mod : Int → Int → Heap → (Int → Heap → Prop) → Prop) (c_ref3_Stage_pick : Option Addr → Int → Int → Heap → (Unit → Heap → Prop) → Prop) (c_ref3_Rest : Option Addr → Den kapiTodo → Heap → (Sl → Heap → Prop) → Prop) (thieves4 : Int) (picks5 : Sl) (Q : (Den kapiDequeRun × (Int × Unit)) → Heap → Prop) (p9 : Addr) (r11 : (Den kapiTodo × (Int × Unit))) (p14 : Addr) (go27 : (Int × Unit) → Heap → Prop) (s25 : (Int × Unit)) (h26 : Heap) : Prop :=
    (((decide (s25.1 < (picks5.len : Int))) = true →
    (0 ≤ s25.1 ∧ s25.1 < (picks5.len : Int)) ∧
    deref picks5.a fun a28 =>
    ld ((.int .i64) : Kd) h26 (a28.add ((s25.1 : Int).toNat * 1)) fun t29 =>
    c_ref3_Mod t29 (w64 (1 + thieves4)) h26 fun r30 h31 =>
    c_ref3_Stage_pick (some p14) r30 s25.1 h31 fun r32 h33 =>
    go27 ((w64 (s25.1 + 1)), ()) h33) ∧
    ((decide (s25.1 < (picks5.len : Int))) = false →
    c_ref3_Rest (some p9) (r11.1.1, (r11.1.2.1, ())) h26 fun r34 h35 =>
    st (.sl : Kd) h35 ((p14.add 6).add 1) r34 fun h36 =>
    ld (.sl : Kd) h36 (p9.add 3) fun t37 =>
    st (.sl : Kd) h36 ((p14.add 6).add 2) t37 fun h38 =>
    ld kapiDequeRun h38 (p14.add 6) fun t39 =>
    Q ((t39.1, (t39.2.1, (t39.2.2.1, ()))), 0, ()) h38))
def ref3_Play.l2 (c_ref3_Mod : Int → Int → Heap → (Int → Heap → Prop) → Prop) (c_ref3_Stage_pick : Option Addr → Int → Int → Heap → (Unit → Heap → Prop) → Prop) (c_ref3_Rest : Option Addr → Den kapiTodo → Heap → (Sl → Heap → Prop) → Prop) (thieves4 : Int) (picks5 : Sl) (Q : (Den kapiDequeRun × (Int × Unit)) → Heap → Prop) (p9 : Addr) (r11 : (Den kapiTodo × (Int × Unit))) (p14 : Addr) (go18 : (Int × Unit) → Heap → Prop) (s16 : (Int × Unit)) (h17 : Heap) : Prop :=
    (((decide (s16.1 ≤ thieves4)) = true →
    ld (.sl : Kd) h17 (p14.add 5) fun t19 =>
    new h17 (([((-1), ((0, ((0, (0, ())), (0, (Sl.none, (false, ()))))), ()))] : List (Den kref3Actor)).flatMap (Kd.cells kref3Actor)) fun p20 h21 =>
    appendM 7 72 h21 t19 ⟨some p20, 1, 1⟩ fun t22 h23 =>
    st (.sl : Kd) h23 (p14.add 5) t22 fun h24 =>
    go18 ((w64 (s16.1 + 1)), ()) h24) ∧
    ((decide (s16.1 ≤ thieves4)) = false →
    Loop (ref3_Play.l1 c_ref3_Mod c_ref3_Stage_pick c_ref3_Rest thieves4 picks5 Q p9 r11 p14) (0, ()) h17))
def ref3_Play.M (c_ref3_Bad : Int → Int → Sl → Int → Sl → Heap → (Int → Heap → Prop) → Prop) (c_ref3_New : Option Addr → Int → Int → Heap → ((Den kapiTodo × (Int × Unit)) → Heap → Prop) → Prop) (c_ref3_Mod : Int → Int → Heap → (Int → Heap → Prop) → Prop) (c_ref3_Stage_pick : Option Addr → Int → Int → Heap → (Unit → Heap → Prop) → Prop) (c_ref3_Rest : Option Addr → Den kapiTodo → Heap → (Sl → Heap → Prop) → Prop) (first1 : Int) (most2 : Int) (todos3 : Sl) (thieves4 : Int) (picks5 : Sl) (h6 : Heap) (Q : (Den kapiDequeRun × (Int × Unit)) → Heap → Prop) : Prop :=
    c_ref3_Bad first1 most2 todos3 thieves4 picks5 h6 fun r7 h8 =>
    (((decide (r7 ≠ 0)) = true →
    Q ((Sl.none, (Sl.none, (Sl.none, ()))), r7, ()) h8) ∧
    ((decide (r7 ≠ 0)) = false →
    new h8 (kref3Mem.cells (Sl.none, (1048576, (0, (Sl.none, ()))))) fun p9 h10 =>
    c_ref3_New (some p9) first1 most2 h10 fun r11 h12 =>
    st (.sl : Kd) h12 (p9.add 3) ⟨none, 0, 0⟩ fun h13 =>
    new h13 (kref3Stage.cells ((some p9), ((r11.1.1, (r11.1.2.1, ())), (todos3, (0, (Sl.none, ((Sl.none, (Sl.none, (Sl.none, ()))), ()))))))) fun p14 h15 =>
    Loop (ref3_Play.l2 c_ref3_Mod c_ref3_Stage_pick c_ref3_Rest thieves4 picks5 Q p9 r11 p14) (0, ()) h15))
def ref3_Play.mk : Mk := (.s (.r [0]) (.s .d (.s (.s .d (.c (.s .d .d) .d)) (.s .d (.s (.r [7]) (.s .d (.s .d (.s (.s .d (.b (.l [.slot 17 (.int .i64)] (.s (.s .d (.c .d .d)) (.s (.b .d) .d))))) (.s (.s .d (.b (.l [.slot 18 (.int .i64)] (.s (.s .d (.c .d .d)) (.s (.b .d) .d))))) (.s .d (.s .d (.s .d .d))))))))))))

def law3_sameCalls.l1 (a1 : Sl) (b2 : Sl) (Q : Bool → Heap → Prop) (go6 : (Int × Unit) → Heap → Prop) (s4 : (Int × Unit)) (h5 : Heap) : Prop :=
    (((decide (s4.1 < (a1.len : Int))) = true →
    (0 ≤ s4.1 ∧ s4.1 < (a1.len : Int)) ∧
    deref a1.a fun a7 =>
    (0 ≤ s4.1 ∧ s4.1 < (b2.len : Int)) ∧
    deref b2.a fun a8 =>
    ld kapiCall h5 (a7.add ((s4.1 : Int).toNat * 7)) fun t9 =>
    ld kapiCall h5 (a8.add ((s4.1 : Int).toNat * 7)) fun t10 =>
    (((!(eqK kapiCall t9 t10)) = true →
    Q false h5) ∧
    ((!(eqK kapiCall t9 t10)) = false →
    go6 ((w64 (s4.1 + 1)), ()) h5))) ∧
    ((decide (s4.1 < (a1.len : Int))) = false →
    Q true h5))
def law3_sameCalls.M  (a1 : Sl) (b2 : Sl) (h3 : Heap) (Q : Bool → Heap → Prop) : Prop :=
    (((decide ((a1.len : Int) ≠ (b2.len : Int))) = true →
    Q false h3) ∧
    ((decide ((a1.len : Int) ≠ (b2.len : Int))) = false →
    Loop (law3_sameCalls.l1 a1 b2 Q) (0, ()) h3))
def law3_sameCalls.mk : Mk := (.s .d (.s (.s .d (.c (.s .d .d) .d)) (.s (.s .d (.b (.l [.slot 5 (.int .i64)] (.s (.s .d (.c .d .d)) (.s (.b (.s (.q [] [] [.p 0, .p 1, .p 2, .p 4, .p 5, .p 6, .w 3 [3, 8], .w 7 [7, 8], .p 8]) (.c (.s .d .d) .d))) .d))))) (.s .d .d))))

def law3_sameInts.l1 (a1 : Sl) (b2 : Sl) (Q : Bool → Heap → Prop) (go6 : (Int × Unit) → Heap → Prop) (s4 : (Int × Unit)) (h5 : Heap) : Prop :=
    (((decide (s4.1 < (a1.len : Int))) = true →
    (0 ≤ s4.1 ∧ s4.1 < (a1.len : Int)) ∧
    deref a1.a fun a7 =>
    (0 ≤ s4.1 ∧ s4.1 < (b2.len : Int)) ∧
    deref b2.a fun a8 =>
    ld ((.int .i64) : Kd) h5 (a7.add ((s4.1 : Int).toNat * 1)) fun t9 =>
    ld ((.int .i64) : Kd) h5 (a8.add ((s4.1 : Int).toNat * 1)) fun t10 =>
    (((decide (t9 ≠ t10)) = true →
    Q false h5) ∧
    ((decide (t9 ≠ t10)) = false →
    go6 ((w64 (s4.1 + 1)), ()) h5))) ∧
    ((decide (s4.1 < (a1.len : Int))) = false →
    Q true h5))
def law3_sameInts.M  (a1 : Sl) (b2 : Sl) (h3 : Heap) (Q : Bool → Heap → Prop) : Prop :=
    (((decide ((a1.len : Int) ≠ (b2.len : Int))) = true →
    Q false h3) ∧
    ((decide ((a1.len : Int) ≠ (b2.len : Int))) = false →
    Loop (law3_sameInts.l1 a1 b2 Q) (0, ()) h3))
def law3_sameInts.mk : Mk := (.s .d (.s (.s .d (.c (.s .d .d) .d)) (.s (.s .d (.b (.l [.slot 5 (.int .i64)] (.s (.s .d (.c .d .d)) (.s (.b (.s (.q [] [] [.p 0, .p 1, .p 2, .p 4, .p 5, .p 6, .w 3 [3, 8], .w 7 [7, 8], .p 8]) (.c (.s .d .d) .d))) .d))))) (.s .d .d))))

def law3_sameLog.l1 (a1 : Sl) (b2 : Sl) (Q : Bool → Heap → Prop) (go6 : (Int × Unit) → Heap → Prop) (s4 : (Int × Unit)) (h5 : Heap) : Prop :=
    (((decide (s4.1 < (a1.len : Int))) = true →
    (0 ≤ s4.1 ∧ s4.1 < (a1.len : Int)) ∧
    deref a1.a fun a7 =>
    (0 ≤ s4.1 ∧ s4.1 < (b2.len : Int)) ∧
    deref b2.a fun a8 =>
    ld kapiAccess h5 (a7.add ((s4.1 : Int).toNat * 6)) fun t9 =>
    ld kapiAccess h5 (a8.add ((s4.1 : Int).toNat * 6)) fun t10 =>
    (((!(eqK kapiAccess t9 t10)) = true →
    Q false h5) ∧
    ((!(eqK kapiAccess t9 t10)) = false →
    go6 ((w64 (s4.1 + 1)), ()) h5))) ∧
    ((decide (s4.1 < (a1.len : Int))) = false →
    Q true h5))
def law3_sameLog.M  (a1 : Sl) (b2 : Sl) (h3 : Heap) (Q : Bool → Heap → Prop) : Prop :=
    (((decide ((a1.len : Int) ≠ (b2.len : Int))) = true →
    Q false h3) ∧
    ((decide ((a1.len : Int) ≠ (b2.len : Int))) = false →
    Loop (law3_sameLog.l1 a1 b2 Q) (0, ()) h3))
def law3_sameLog.mk : Mk := (.s .d (.s (.s .d (.c (.s .d .d) .d)) (.s (.s .d (.b (.l [.slot 5 (.int .i64)] (.s (.s .d (.c .d .d)) (.s (.b (.s (.q [] [] [.p 0, .p 1, .p 2, .p 4, .p 5, .p 6, .w 3 [3, 8], .w 7 [7, 8], .p 8]) (.c (.s .d .d) .d))) .d))))) (.s .d .d))))

def deque_judged.j1 (go11 : (Int × Unit) → Heap → Prop) (s9 : (Int × Unit)) (s12 : Unit) (h13 : Heap) : Prop :=
    go11 ((w64 (s9.1 + 1)), ()) h13
def deque_judged.j2 (Q : Int → Heap → Prop) (go11 : (Int × Unit) → Heap → Prop) (s9 : (Int × Unit)) (s16 : (Bool × Unit)) (h17 : Heap) : Prop :=
    ((s16.1 = true →
    Q 31 h17) ∧
    (s16.1 = false →
    deque_judged.j1 go11 s9 () h17))
def deque_judged.l3 (todos3 : Sl) (Q : Int → Heap → Prop) (go11 : (Int × Unit) → Heap → Prop) (s9 : (Int × Unit)) (h10 : Heap) : Prop :=
    (((decide (s9.1 < (todos3.len : Int))) = true →
    (0 ≤ s9.1 ∧ s9.1 < (todos3.len : Int)) ∧
    deref todos3.a fun a14 =>
    ld kapiTodo h10 (a14.add ((s9.1 : Int).toNat * 2)) fun t15 =>
    (((decide (t15.1 ≠ 0)) = true →
    deque_judged.j2 Q go11 s9 ((decide (t15.1 ≠ 1)), ()) h10) ∧
    ((decide (t15.1 ≠ 0)) = false →
    deque_judged.j2 Q go11 s9 (false, ()) h10))) ∧
    ((decide (s9.1 < (todos3.len : Int))) = false →
    Q 0 h10))
def deque_judged.j4 (todos3 : Sl) (Q : Int → Heap → Prop) (s7 : Unit) (h8 : Heap) : Prop :=
    Loop (deque_judged.l3 todos3 Q) (0, ()) h8
def deque_judged.j5 (todos3 : Sl) (Q : Int → Heap → Prop) (s22 : (Bool × Unit)) (h23 : Heap) : Prop :=
    ((s22.1 = true →
    Q 3 h23) ∧
    (s22.1 = false →
    deque_judged.j4 todos3 Q () h23))
def deque_judged.j6 (c_deque_capsOK : Int → Int → Heap → (Bool → Heap → Prop) → Prop) (low1 : Int) (most2 : Int) (todos3 : Sl) (thieves4 : Int) (Q : Int → Heap → Prop) (s18 : (Bool × Unit)) (h19 : Heap) : Prop :=
    ((s18.1 = true →
    Q 2 h19) ∧
    (s18.1 = false →
    c_deque_capsOK low1 most2 h19 fun r20 h21 =>
    (((!r20) = true →
    Q 30 h21) ∧
    ((!r20) = false →
    (((decide (thieves4 < 0)) = true →
    deque_judged.j5 todos3 Q (true, ()) h21) ∧
    ((decide (thieves4 < 0)) = false →
    deque_judged.j5 todos3 Q ((decide ((3 : Int) < thieves4)), ()) h21))))))
def deque_judged.M (c_deque_capsOK : Int → Int → Heap → (Bool → Heap → Prop) → Prop) (low1 : Int) (most2 : Int) (todos3 : Sl) (thieves4 : Int) (picks5 : Sl) (h6 : Heap) (Q : Int → Heap → Prop) : Prop :=
    (((decide ((4096 : Int) < (todos3.len : Int))) = true →
    deque_judged.j6 c_deque_capsOK low1 most2 todos3 thieves4 Q (true, ()) h6) ∧
    ((decide ((4096 : Int) < (todos3.len : Int))) = false →
    deque_judged.j6 c_deque_capsOK low1 most2 todos3 thieves4 Q ((decide ((1048576 : Int) < (picks5.len : Int))), ()) h6))
def deque_judged.mk : Mk := (.s .d (.j [] (.b (.j [.slot 13 .bool] .d (.c (.s .d .d) (.s .d (.c (.s .d .d) (.j [.slot 27 .bool] .d (.c (.s .d .d) .d))))))) (.s (.s .d (.b (.l [.slot 36 (.int .i64)] (.s .d (.s (.c .d .d) (.j [] (.b (.s (.r [2]) (.j [.slot 47 .bool] .d (.c (.s .d .d) .d)))) .d)))))) (.s .d .d))))

def cells_New.M (c_cells_good : Int → Heap → (Bool → Heap → Prop) → Prop) (size1 : Int) (h2 : Heap) (Q : (Option Addr × (Int × Unit)) → Heap → Prop) : Prop :=
    c_cells_good size1 h2 fun r3 h4 =>
    (((!r3) = true →
    Q (none, 3, ()) h4) ∧
    ((!r3) = false →
    new h4 (kcellsArena.cells ((size1, (0, ())), (Sl.none, (Sl.none, (0, (false, ())))))) fun p5 h6 =>
    Q ((some p5), 0, ()) h6))
def cells_New.mk : Mk := (.s .d (.s (.s .d (.c (.s .d .d) .d)) (.s .d .d)))

def deque_Cells.l1 (most2 : Int) (Q : Int → Heap → Prop) (go8 : Den kapiTodo → Heap → Prop) (s6 : Den kapiTodo) (h7 : Heap) : Prop :=
    (((decide (s6.2.1 < most2)) = true →
    go8 ((w64 (s6.1 + (w64 (1 + (if most2 < (w64 (2 * s6.2.1)) then most2 else (w64 (2 * s6.2.1))))))), (if most2 < (w64 (2 * s6.2.1)) then most2 else (w64 (2 * s6.2.1))), ()) h7) ∧
    ((decide (s6.2.1 < most2)) = false →
    Q s6.1 h7))
def deque_Cells.M (c_deque_capsOK : Int → Int → Heap → (Bool → Heap → Prop) → Prop) (low1 : Int) (most2 : Int) (h3 : Heap) (Q : Int → Heap → Prop) : Prop :=
    c_deque_capsOK low1 most2 h3 fun r4 h5 =>
    (((!r4) = true →
    Q 0 h5) ∧
    ((!r4) = false →
    Loop (deque_Cells.l1 most2 Q) ((w64 (4 + low1)), low1, ()) h5))
def deque_Cells.mk : Mk := (.s .d (.s (.s .d (.c (.s .d .d) .d)) (.s .d (.s (.s .d (.b (.l [.slot 5 (.int .i64), .slot 6 (.int .i64)] (.s (.s .d (.c .d .d)) (.b (.s .d .d)))))) (.s .d .d)))))

def deque_New.M (c_deque_capsOK : Int → Int → Heap → (Bool → Heap → Prop) → Prop) (c_inv_Reserve : Value → Int → Heap → (Den kapiTodo → Heap → Prop) → Prop) (c_inv_Store : Value → Int → Int → Heap → (Int → Heap → Prop) → Prop) (m1 : Value) (low2 : Int) (most3 : Int) (h4 : Heap) (Q : (Den kapiTodo × (Int × Unit)) → Heap → Prop) : Prop :=
    isI m1 ∧
    (((isNilI m1) = true →
    Q ((0, (0, ())), 1, ()) h4) ∧
    ((isNilI m1) = false →
    c_deque_capsOK low2 most3 h4 fun r5 h6 =>
    (((!r5) = true →
    Q ((0, (0, ())), 30, ()) h6) ∧
    ((!r5) = false →
    c_inv_Reserve m1 (w64 (4 + low2)) h6 fun r7 h8 =>
    (((decide (r7.2.1 ≠ 0)) = true →
    Q ((0, (0, ())), r7.2.1, ()) h8) ∧
    ((decide (r7.2.1 ≠ 0)) = false →
    c_inv_Store m1 (w64 (r7.1 + 2)) (w64 (r7.1 + 3)) h8 fun r9 h10 =>
    (((decide (r9 ≠ 0)) = true →
    Q ((0, (0, ())), r9, ()) h10) ∧
    ((decide (r9 ≠ 0)) = false →
    c_inv_Store m1 (w64 (r7.1 + 3)) low2 h10 fun r11 h12 =>
    (((decide (r11 ≠ 0)) = true →
    Q ((0, (0, ())), r11, ()) h12) ∧
    ((decide (r11 ≠ 0)) = false →
    Q ((r7.1, (most3, ())), 0, ()) h12))))))))))
def deque_New.mk : Mk := (.s (.r [0]) (.s (.s .d (.c (.s .d .d) .d)) (.s (.s .d (.c (.s .d .d) .d)) (.s .d (.s (.s .d (.c (.s .d .d) .d)) (.s (.s .d (.s .d (.c (.s .d .d) .d))) (.s (.s .d (.s .d (.c (.s .d .d) .d))) (.s .d .d))))))))

def cells_Arena_Watch.M  (a1 : Option Addr) (on2 : Bool) (h3 : Heap) (Q : Unit → Heap → Prop) : Prop :=
    (((Option.isSome a1) = true →
    deref a1 fun a4 =>
    st (.bool : Kd) h3 (a4.add 5) on2 fun h5 =>
    Q () h5) ∧
    ((Option.isSome a1) = false →
    Q () h3))
def cells_Arena_Watch.mk : Mk := (.s .d (.c .d .d))

def deque_game_step.j1 (c_cells_Arena_Who : Option Addr → Int → Heap → (Unit → Heap → Prop) → Prop) (c_deque_Step : Value → Den kdequeOp → Heap → (Den kdequeOp → Heap → Prop) → Prop) (c_deque_Answer : Den kdequeOp → Heap → (Den kapiTodo → Heap → Prop) → Prop) (g1 : Option Addr) (n2 : Int) (who3 : Int) (Q : Unit → Heap → Prop) (s5 : Unit) (h6 : Heap) : Prop :=
    deref g1 fun a7 =>
    ld (.sl : Kd) h6 (a7.add 4) fun t8 =>
    (0 ≤ who3 ∧ who3 < (t8.len : Int)) ∧
    deref t8.a fun a9 =>
    deref g1 fun a10 =>
    ld (.ptr : Kd) h6 (a10.add 0) fun t11 =>
    c_cells_Arena_Who t11 who3 h6 fun r12 h13 =>
    deref g1 fun a14 =>
    ld (.ptr : Kd) h13 (a14.add 0) fun t15 =>
    ld kdequeOp h13 ((a9.add ((who3 : Int).toNat * 17)).add 0) fun t16 =>
    c_deque_Step (Value.iface 54 (Kd.val (.ptr : Kd) t15)) t16 h13 fun r17 h18 =>
    st kdequeOp h18 ((a9.add ((who3 : Int).toNat * 17)).add 0) r17 fun h19 =>
    ld kdequeOp h19 ((a9.add ((who3 : Int).toNat * 17)).add 0) fun t20 =>
    c_deque_Answer t20 h19 fun r21 h22 =>
    (((decide (r21.1 = 0)) = true →
    Q () h22) ∧
    ((decide (r21.1 = 0)) = false →
    deref g1 fun a23 =>
    ld (.sl : Kd) h22 (a23.add 5) fun t24 =>
    ld ((.int .i64) : Kd) h22 ((a9.add ((who3 : Int).toNat * 17)).add 16) fun t25 =>
    (0 ≤ t25 ∧ t25 < (t24.len : Int)) ∧
    deref t24.a fun a26 =>
    st ((.int .i64) : Kd) h22 ((a26.add ((t25 : Int).toNat * 7)).add 4) n2 fun h27 =>
    st ((.int .i64) : Kd) h27 ((a26.add ((t25 : Int).toNat * 7)).add 5) r21.1 fun h28 =>
    st ((.int .i64) : Kd) h28 ((a26.add ((t25 : Int).toNat * 7)).add 6) r21.2.1 fun h29 =>
    st ((.int .i64) : Kd) h29 ((a9.add ((who3 : Int).toNat * 17)).add 16) (-1) fun h30 =>
    Q () h30))
def deque_game_step.j2 (c_cells_Arena_Who : Option Addr → Int → Heap → (Unit → Heap → Prop) → Prop) (c_deque_Step : Value → Den kdequeOp → Heap → (Den kdequeOp → Heap → Prop) → Prop) (c_deque_Answer : Den kdequeOp → Heap → (Den kapiTodo → Heap → Prop) → Prop) (g1 : Option Addr) (n2 : Int) (who3 : Int) (Q : Unit → Heap → Prop) (s31 : (Bool × Unit)) (h32 : Heap) : Prop :=
    ((s31.1 = true →
    Q () h32) ∧
    (s31.1 = false →
    deque_game_step.j1 c_cells_Arena_Who c_deque_Step c_deque_Answer g1 n2 who3 Q () h32))
def deque_game_step.M (c_deque_game_begin : Option Addr → Int → Int → Heap → (Bool → Heap → Prop) → Prop) (c_cells_Arena_Who : Option Addr → Int → Heap → (Unit → Heap → Prop) → Prop) (c_deque_Step : Value → Den kdequeOp → Heap → (Den kdequeOp → Heap → Prop) → Prop) (c_deque_Answer : Den kdequeOp → Heap → (Den kapiTodo → Heap → Prop) → Prop) (g1 : Option Addr) (n2 : Int) (who3 : Int) (h4 : Heap) (Q : Unit → Heap → Prop) : Prop :=
    deref g1 fun a33 =>
    ld (.sl : Kd) h4 (a33.add 4) fun t34 =>
    (0 ≤ who3 ∧ who3 < (t34.len : Int)) ∧
    deref t34.a fun a35 =>
    ld ((.int .i64) : Kd) h4 ((a35.add ((who3 : Int).toNat * 17)).add 16) fun t36 =>
    (((decide (t36 < 0)) = true →
    c_deque_game_begin g1 n2 who3 h4 fun r37 h38 =>
    deque_game_step.j2 c_cells_Arena_Who c_deque_Step c_deque_Answer g1 n2 who3 Q ((!r37), ()) h38) ∧
    ((decide (t36 < 0)) = false →
    deque_game_step.j2 c_cells_Arena_Who c_deque_Step c_deque_Answer g1 n2 who3 Q (false, ()) h4))
def deque_game_step.mk : Mk := (.j [] (.j [.slot 25 .bool] .d (.c .d .d)) (.s .d (.s .d (.s (.q [] [] [.p 0, .p 1, .p 2, .p 3, .p 6, .p 7, .p 8, .w 4 [4, 5, 10, 11, 12, 13], .p 5, .w 9 [9, 10, 11, 12, 13], .o 10, .p 11, .p 12, .o 13]) (.s .d (.s (.s .d (.c .d .d)) (.s (.q [] [] [.p 0, .p 1, .p 2, .p 4, .p 5, .p 6, .w 3 [3, 8, 9], .w 7 [7, 8, 9], .p 8, .p 9]) (.s .d .d))))))))

def ops_Mod.j1 (Q : Int → Heap → Prop) (s4 : (Int × Unit)) (h5 : Heap) : Prop :=
    Q s4.1 h5
def ops_Mod.M  (x1 : Int) (n2 : Int) (h3 : Heap) (Q : Int → Heap → Prop) : Prop :=
    (((decide (n2 < 1)) = true →
    Q 0 h3) ∧
    ((decide (n2 < 1)) = false →
    n2 ≠ 0 ∧
    (((decide ((Int.tmod x1 n2) < 0)) = true →
    ops_Mod.j1 Q ((w64 ((Int.tmod x1 n2) + n2)), ()) h3) ∧
    ((decide ((Int.tmod x1 n2) < 0)) = false →
    ops_Mod.j1 Q ((Int.tmod x1 n2), ()) h3))))
def ops_Mod.mk : Mk := (.s .d (.s (.s .d (.c (.s .d .d) .d)) (.s .d (.j [.slot 5 (.int .i64)] (.s .d (.c .d .d)) (.s .d .d)))))

def deque_game_rest.l1 (c_deque_place : Int → Int → Int → Heap → (Int → Heap → Prop) → Prop) (g1 : Option Addr) (Q : Sl → Heap → Prop) (r5 : Sl) (t12 : Int) (go19 : (Sl × (Int × Unit)) → Heap → Prop) (s17 : (Sl × (Int × Unit))) (h18 : Heap) : Prop :=
    deref g1 fun a20 =>
    ld ((.int .i64) : Kd) h18 ((a20.add 1).add 0) fun t21 =>
    (0 ≤ (w64 (t21 + 1)) ∧ (w64 (t21 + 1)) < (r5.len : Int)) ∧
    deref r5.a fun a22 =>
    ld ((.int .i64) : Kd) h18 (a22.add (((w64 (t21 + 1)) : Int).toNat * 1)) fun t23 =>
    (((decide (s17.2.1 < t23)) = true →
    (0 ≤ t12 ∧ t12 < (r5.len : Int)) ∧
    deref r5.a fun a24 =>
    ld ((.int .i64) : Kd) h18 (a24.add ((t12 : Int).toNat * 1)) fun t25 =>
    c_deque_place t12 t25 s17.2.1 h18 fun r26 h27 =>
    (0 ≤ r26 ∧ r26 < (r5.len : Int)) ∧
    deref r5.a fun a28 =>
    ld ((.int .i64) : Kd) h27 (a28.add ((r26 : Int).toNat * 1)) fun t29 =>
    new h27 (([t29] : List (Den ((.int .i64) : Kd))).flatMap (Kd.cells ((.int .i64) : Kd))) fun p30 h31 =>
    appendM 1 8 h31 s17.1 ⟨some p30, 1, 1⟩ fun t32 h33 =>
    go19 (t32, (w64 (s17.2.1 + 1)), ()) h33) ∧
    ((decide (s17.2.1 < t23)) = false →
    Q s17.1 h18))
def deque_game_rest.M (c_cells_Arena_Cells : Option Addr → Heap → (Sl → Heap → Prop) → Prop) (c_deque_place : Int → Int → Int → Heap → (Int → Heap → Prop) → Prop) (g1 : Option Addr) (h2 : Heap) (Q : Sl → Heap → Prop) : Prop :=
    deref g1 fun a3 =>
    ld (.ptr : Kd) h2 (a3.add 0) fun t4 =>
    c_cells_Arena_Cells t4 h2 fun r5 h6 =>
    deref g1 fun a7 =>
    ld ((.int .i64) : Kd) h6 ((a7.add 1).add 0) fun t8 =>
    (((decide ((r5.len : Int) ≤ (w64 (t8 + 2)))) = true →
    Q ⟨none, 0, 0⟩ h6) ∧
    ((decide ((r5.len : Int) ≤ (w64 (t8 + 2)))) = false →
    deref g1 fun a9 =>
    ld ((.int .i64) : Kd) h6 ((a9.add 1).add 0) fun t10 =>
    (0 ≤ (w64 (t10 + 2)) ∧ (w64 (t10 + 2)) < (r5.len : Int)) ∧
    deref r5.a fun a11 =>
    ld ((.int .i64) : Kd) h6 (a11.add (((w64 (t10 + 2)) : Int).toNat * 1)) fun t12 =>
    deref g1 fun a13 =>
    ld ((.int .i64) : Kd) h6 ((a13.add 1).add 0) fun t14 =>
    (0 ≤ (w64 (t14 + 0)) ∧ (w64 (t14 + 0)) < (r5.len : Int)) ∧
    deref r5.a fun a15 =>
    ld ((.int .i64) : Kd) h6 (a15.add (((w64 (t14 + 0)) : Int).toNat * 1)) fun t16 =>
    Loop (deque_game_rest.l1 c_deque_place g1 Q r5 t12) (⟨none, 0, 0⟩, t16, ()) h6))
def deque_game_rest.mk : Mk := (.s .d (.s .d (.s .d (.s (.s .d (.c (.s .d .d) .d)) (.s .d (.s (.s .d (.b (.l [.slot 3 .sl, .slot 6 (.int .i64)] (.s (.s .d (.c .d .d)) (.s (.b .d) .d))))) (.s .d .d)))))))

def cells_Arena_Log.M  (a1 : Option Addr) (h2 : Heap) (Q : Sl → Heap → Prop) : Prop :=
    (((Option.isNone a1) = true →
    Q ⟨none, 0, 0⟩ h2) ∧
    ((Option.isNone a1) = false →
    deref a1 fun a3 =>
    ld (.sl : Kd) h2 (a3.add 3) fun t4 =>
    makeM kapiAccess 48 h2 (t4.len : Int) (t4.len : Int) fun s5 h6 =>
    deref a1 fun a7 =>
    ld (.sl : Kd) h6 (a7.add 3) fun t8 =>
    copyM 6 h6 s5 t8 fun n9 h10 =>
    Q s5 h10))
def cells_Arena_Log.mk : Mk := (.s .d (.s (.s .d (.c (.s .d .d) .d)) (.s .d (.s .d (.s .d .d)))))

def ref3_Bad.j1 (go15 : (Int × Unit) → Heap → Prop) (s13 : (Int × Unit)) (s16 : Unit) (h17 : Heap) : Prop :=
    go15 ((w64 (s13.1 + 1)), ()) h17
def ref3_Bad.j2 (Q : Int → Heap → Prop) (go15 : (Int × Unit) → Heap → Prop) (s13 : (Int × Unit)) (s18 : (Bool × Unit)) (h19 : Heap) : Prop :=
    ((s18.1 = true →
    Q 31 h19) ∧
    (s18.1 = false →
    ref3_Bad.j1 go15 s13 () h19))
def ref3_Bad.l3 (todos3 : Sl) (Q : Int → Heap → Prop) (go15 : (Int × Unit) → Heap → Prop) (s13 : (Int × Unit)) (h14 : Heap) : Prop :=
    (((decide (s13.1 < (todos3.len : Int))) = true →
    (0 ≤ s13.1 ∧ s13.1 < (todos3.len : Int)) ∧
    deref todos3.a fun a20 =>
    ld ((.int .i64) : Kd) h14 ((a20.add ((s13.1 : Int).toNat * 2)).add 0) fun t21 =>
    (((decide (t21 ≠ 0)) = true →
    (0 ≤ s13.1 ∧ s13.1 < (todos3.len : Int)) ∧
    deref todos3.a fun a22 =>
    ld ((.int .i64) : Kd) h14 ((a22.add ((s13.1 : Int).toNat * 2)).add 0) fun t23 =>
    ref3_Bad.j2 Q go15 s13 ((decide (t23 ≠ 1)), ()) h14) ∧
    ((decide (t21 ≠ 0)) = false →
    ref3_Bad.j2 Q go15 s13 (false, ()) h14))) ∧
    ((decide (s13.1 < (todos3.len : Int))) = false →
    Q 0 h14))
def ref3_Bad.j4 (todos3 : Sl) (Q : Int → Heap → Prop) (s11 : Unit) (h12 : Heap) : Prop :=
    Loop (ref3_Bad.l3 todos3 Q) (0, ()) h12
def ref3_Bad.j5 (todos3 : Sl) (Q : Int → Heap → Prop) (s24 : (Bool × Unit)) (h25 : Heap) : Prop :=
    ((s24.1 = true →
    Q 3 h25) ∧
    (s24.1 = false →
    ref3_Bad.j4 todos3 Q () h25))
def ref3_Bad.j6 (c_ref3_CapOK : Int → Int → Heap → (Bool → Heap → Prop) → Prop) (first1 : Int) (most2 : Int) (todos3 : Sl) (thieves4 : Int) (Q : Int → Heap → Prop) (s7 : Unit) (h8 : Heap) : Prop :=
    c_ref3_CapOK first1 most2 h8 fun r9 h10 =>
    (((!r9) = true →
    Q 30 h10) ∧
    ((!r9) = false →
    (((decide (thieves4 < 0)) = true →
    ref3_Bad.j5 todos3 Q (true, ()) h10) ∧
    ((decide (thieves4 < 0)) = false →
    ref3_Bad.j5 todos3 Q ((decide ((3 : Int) < thieves4)), ()) h10))))
def ref3_Bad.j7 (c_ref3_CapOK : Int → Int → Heap → (Bool → Heap → Prop) → Prop) (first1 : Int) (most2 : Int) (todos3 : Sl) (thieves4 : Int) (Q : Int → Heap → Prop) (s26 : (Bool × Unit)) (h27 : Heap) : Prop :=
    ((s26.1 = true →
    Q 2 h27) ∧
    (s26.1 = false →
    ref3_Bad.j6 c_ref3_CapOK first1 most2 todos3 thieves4 Q () h27))
def ref3_Bad.M (c_ref3_CapOK : Int → Int → Heap → (Bool → Heap → Prop) → Prop) (first1 : Int) (most2 : Int) (todos3 : Sl) (thieves4 : Int) (picks5 : Sl) (h6 : Heap) (Q : Int → Heap → Prop) : Prop :=
    (((decide ((4096 : Int) < (todos3.len : Int))) = true →
    ref3_Bad.j7 c_ref3_CapOK first1 most2 todos3 thieves4 Q (true, ()) h6) ∧
    ((decide ((4096 : Int) < (todos3.len : Int))) = false →
    ref3_Bad.j7 c_ref3_CapOK first1 most2 todos3 thieves4 Q ((decide ((1048576 : Int) < (picks5.len : Int))), ()) h6))
def ref3_Bad.mk : Mk := (.s .d (.j [] (.j [.slot 19 .bool] .d (.c (.s .d .d) .d)) (.s (.s .d (.c (.s .d .d) .d)) (.j [] (.j [.slot 29 .bool] .d (.c (.s .d .d) .d)) (.s (.s .d (.b (.l [.slot 11 (.int .i64)] (.s (.s .d (.c .d .d)) (.j [] (.b (.j [.slot 49 .bool] .d (.c (.s .d .d) .d))) .d))))) (.s .d .d))))))

def ref3_New.M (c_ref3_CapOK : Int → Int → Heap → (Bool → Heap → Prop) → Prop) (c_ref3_Mem_Do : Option Addr → Den kref3Want → Heap → ((Int × (Bool × Unit)) → Heap → Prop) → Prop) (c_ref3_store : Int → Int → Heap → (Den kref3Want → Heap → Prop) → Prop) (m1 : Option Addr) (first2 : Int) (most3 : Int) (h4 : Heap) (Q : (Den kapiTodo × (Int × Unit)) → Heap → Prop) : Prop :=
    c_ref3_CapOK first2 most3 h4 fun r5 h6 =>
    (((!r5) = true →
    Q ((0, (0, ())), 30, ()) h6) ∧
    ((!r5) = false →
    c_ref3_Mem_Do m1 (4, (0, ((w64 (4 + first2)), (0, (0, (0, ())))))) h6 fun r7 h8 =>
    (((!r7.2.1) = true →
    Q ((0, (0, ())), 22, ()) h8) ∧
    ((!r7.2.1) = false →
    c_ref3_store (w64 (r7.1 + 2)) (w64 (r7.1 + 3)) h8 fun r9 h10 =>
    c_ref3_Mem_Do m1 r9 h10 fun r11 h12 =>
    c_ref3_store (w64 (r7.1 + 3)) first2 h12 fun r13 h14 =>
    c_ref3_Mem_Do m1 r13 h14 fun r15 h16 =>
    Q ((r7.1, (most3, ())), 0, ()) h16))))
def ref3_New.mk : Mk := (.s (.r [0]) (.s (.s .d (.c (.s .d .d) .d)) (.s .d (.s (.s .d (.c (.s .d .d) .d)) (.s .d (.s .d (.s .d .d)))))))

def ref3_Stage_pick.j1 (c_ref3_Step : Option Addr → Den kref3Op → Heap → (Den kref3Op → Heap → Prop) → Prop) (c_ref3_Answer : Den kref3Op → Heap → (Den kapiTodo → Heap → Prop) → Prop) (s1 : Option Addr) (i2 : Int) (n3 : Int) (Q : Unit → Heap → Prop) (s5 : Unit) (h6 : Heap) : Prop :=
    deref s1 fun a7 =>
    ld (.ptr : Kd) h6 (a7.add 0) fun t8 =>
    deref t8 fun a9 =>
    st ((.int .i64) : Kd) h6 (a9.add 2) i2 fun h10 =>
    deref s1 fun a11 =>
    deref s1 fun a12 =>
    ld (.ptr : Kd) h10 (a11.add 0) fun t13 =>
    ld (.sl : Kd) h10 (a12.add 5) fun t14 =>
    (0 ≤ i2 ∧ i2 < (t14.len : Int)) ∧
    deref t14.a fun a15 =>
    ld kref3Op h10 ((a15.add ((i2 : Int).toNat * 7)).add 1) fun t16 =>
    c_ref3_Step t13 t16 h10 fun r17 h18 =>
    deref s1 fun a19 =>
    ld (.sl : Kd) h18 (a19.add 5) fun t20 =>
    (0 ≤ i2 ∧ i2 < (t20.len : Int)) ∧
    deref t20.a fun a21 =>
    st kref3Op h18 ((a21.add ((i2 : Int).toNat * 7)).add 1) (r17.1, ((r17.2.1.1, (r17.2.1.2.1, ())), (r17.2.2.1, (r17.2.2.2.1, (r17.2.2.2.2.1, ()))))) fun h22 =>
    c_ref3_Answer (r17.1, ((r17.2.1.1, (r17.2.1.2.1, ())), (r17.2.2.1, (r17.2.2.2.1, (r17.2.2.2.2.1, ()))))) h22 fun r23 h24 =>
    (((decide (r23.1 = 0)) = true →
    Q () h24) ∧
    ((decide (r23.1 = 0)) = false →
    deref s1 fun a25 =>
    ld (.sl : Kd) h24 (a25.add 5) fun t26 =>
    (0 ≤ i2 ∧ i2 < (t26.len : Int)) ∧
    deref t26.a fun a27 =>
    ld ((.int .i64) : Kd) h24 ((a27.add ((i2 : Int).toNat * 7)).add 0) fun t28 =>
    deref s1 fun a29 =>
    ld (.sl : Kd) h24 ((a29.add 6).add 0) fun t30 =>
    (0 ≤ t28 ∧ t28 < (t30.len : Int)) ∧
    deref t30.a fun a31 =>
    st ((.int .i64) : Kd) h24 ((a31.add ((t28 : Int).toNat * 7)).add 4) n3 fun h32 =>
    deref s1 fun a33 =>
    ld (.sl : Kd) h32 ((a33.add 6).add 0) fun t34 =>
    (0 ≤ t28 ∧ t28 < (t34.len : Int)) ∧
    deref t34.a fun a35 =>
    st ((.int .i64) : Kd) h32 ((a35.add ((t28 : Int).toNat * 7)).add 5) r23.1 fun h36 =>
    deref s1 fun a37 =>
    ld (.sl : Kd) h36 ((a37.add 6).add 0) fun t38 =>
    (0 ≤ t28 ∧ t28 < (t38.len : Int)) ∧
    deref t38.a fun a39 =>
    st ((.int .i64) : Kd) h36 ((a39.add ((t28 : Int).toNat * 7)).add 6) r23.2.1 fun h40 =>
    deref s1 fun a41 =>
    ld (.sl : Kd) h40 (a41.add 5) fun t42 =>
    (0 ≤ i2 ∧ i2 < (t42.len : Int)) ∧
    deref t42.a fun a43 =>
    st ((.int .i64) : Kd) h40 ((a43.add ((i2 : Int).toNat * 7)).add 0) (-1) fun h44 =>
    Q () h44))
def ref3_Stage_pick.M (c_ref3_Stage_begin : Option Addr → Int → Int → Heap → (Bool → Heap → Prop) → Prop) (c_ref3_Step : Option Addr → Den kref3Op → Heap → (Den kref3Op → Heap → Prop) → Prop) (c_ref3_Answer : Den kref3Op → Heap → (Den kapiTodo → Heap → Prop) → Prop) (s1 : Option Addr) (i2 : Int) (n3 : Int) (h4 : Heap) (Q : Unit → Heap → Prop) : Prop :=
    deref s1 fun a45 =>
    ld (.sl : Kd) h4 (a45.add 5) fun t46 =>
    (0 ≤ i2 ∧ i2 < (t46.len : Int)) ∧
    deref t46.a fun a47 =>
    ld ((.int .i64) : Kd) h4 ((a47.add ((i2 : Int).toNat * 7)).add 0) fun t48 =>
    (((decide (t48 < 0)) = true →
    c_ref3_Stage_begin s1 i2 n3 h4 fun r49 h50 =>
    (((!r49) = true →
    Q () h50) ∧
    ((!r49) = false →
    ref3_Stage_pick.j1 c_ref3_Step c_ref3_Answer s1 i2 n3 Q () h50))) ∧
    ((decide (t48 < 0)) = false →
    ref3_Stage_pick.j1 c_ref3_Step c_ref3_Answer s1 i2 n3 Q () h4))
def ref3_Stage_pick.mk : Mk := (.j [] (.s .d (.c (.s .d (.s .d (.c .d .d))) .d)) (.s .d (.s (.q [13] [7] [.p 0, .p 1, .p 2, .p 4, .p 5, .p 6, .p 8, .w 3 [3, 12, 14], .w 7 [7, 9, 10, 11, 12, 14], .p 9, .p 10, .w 11 [11, 12, 14], .o 12, .a 13, .o 14]) (.s (.q [] [] [.p 0, .p 1, .p 2, .p 4, .w 3 [3, 6, 7, 8], .w 5 [5, 6, 7, 8], .p 6, .p 7, .o 8]) (.s .d (.s (.s .d (.c .d .d)) (.s .d (.s .d (.s .d (.s .d .d))))))))))

def ref3_Mod.j1 (Q : Int → Heap → Prop) (s4 : (Int × Unit)) (h5 : Heap) : Prop :=
    Q s4.1 h5
def ref3_Mod.M  (x1 : Int) (n2 : Int) (h3 : Heap) (Q : Int → Heap → Prop) : Prop :=
    n2 ≠ 0 ∧
    (((decide ((Int.tmod x1 n2) < 0)) = true →
    ref3_Mod.j1 Q ((w64 ((Int.tmod x1 n2) + n2)), ()) h3) ∧
    ((decide ((Int.tmod x1 n2) < 0)) = false →
    ref3_Mod.j1 Q ((Int.tmod x1 n2), ()) h3))
def ref3_Mod.mk : Mk := (.s .d (.s .d (.j [.slot 5 (.int .i64)] (.s .d (.c .d .d)) (.s .d .d))))

def ref3_Rest.l1 (c_ref3_at : Int → Int → Int → Heap → (Int → Heap → Prop) → Prop) (m1 : Option Addr) (d2 : Den kapiTodo) (Q : Sl → Heap → Prop) (t7 : Int) (t11 : Int) (go18 : (Sl × (Int × Unit)) → Heap → Prop) (s16 : (Sl × (Int × Unit))) (h17 : Heap) : Prop :=
    deref m1 fun a19 =>
    ld (.sl : Kd) h17 (a19.add 0) fun t20 =>
    (0 ≤ (w64 (d2.1 + 1)) ∧ (w64 (d2.1 + 1)) < (t20.len : Int)) ∧
    deref t20.a fun a21 =>
    ld ((.int .i64) : Kd) h17 (a21.add (((w64 (d2.1 + 1)) : Int).toNat * 1)) fun t22 =>
    (((decide (s16.2.1 < t22)) = true →
    deref m1 fun a23 =>
    ld (.sl : Kd) h17 (a23.add 0) fun t24 =>
    c_ref3_at t7 t11 s16.2.1 h17 fun r25 h26 =>
    sees h26 (some (a23.add 0)) (.sl : Kd) t24 ∧
    (0 ≤ r25 ∧ r25 < (t24.len : Int)) ∧
    deref t24.a fun a27 =>
    ld ((.int .i64) : Kd) h26 (a27.add ((r25 : Int).toNat * 1)) fun t28 =>
    new h26 (([t28] : List (Den ((.int .i64) : Kd))).flatMap (Kd.cells ((.int .i64) : Kd))) fun p29 h30 =>
    appendM 1 8 h30 s16.1 ⟨some p29, 1, 1⟩ fun t31 h32 =>
    go18 (t31, (w64 (s16.2.1 + 1)), ()) h32) ∧
    ((decide (s16.2.1 < t22)) = false →
    Q s16.1 h17))
def ref3_Rest.M (c_ref3_at : Int → Int → Int → Heap → (Int → Heap → Prop) → Prop) (m1 : Option Addr) (d2 : Den kapiTodo) (h3 : Heap) (Q : Sl → Heap → Prop) : Prop :=
    deref m1 fun a4 =>
    ld (.sl : Kd) h3 (a4.add 0) fun t5 =>
    (0 ≤ (w64 (d2.1 + 2)) ∧ (w64 (d2.1 + 2)) < (t5.len : Int)) ∧
    deref t5.a fun a6 =>
    ld ((.int .i64) : Kd) h3 (a6.add (((w64 (d2.1 + 2)) : Int).toNat * 1)) fun t7 =>
    deref m1 fun a8 =>
    ld (.sl : Kd) h3 (a8.add 0) fun t9 =>
    (0 ≤ t7 ∧ t7 < (t9.len : Int)) ∧
    deref t9.a fun a10 =>
    ld ((.int .i64) : Kd) h3 (a10.add ((t7 : Int).toNat * 1)) fun t11 =>
    deref m1 fun a12 =>
    ld (.sl : Kd) h3 (a12.add 0) fun t13 =>
    (0 ≤ d2.1 ∧ d2.1 < (t13.len : Int)) ∧
    deref t13.a fun a14 =>
    ld ((.int .i64) : Kd) h3 (a14.add ((d2.1 : Int).toNat * 1)) fun t15 =>
    Loop (ref3_Rest.l1 c_ref3_at m1 d2 Q t7 t11) (⟨none, 0, 0⟩, t15, ()) h3
def ref3_Rest.mk : Mk := (.s (.r [0]) (.s .d (.s (.q [] [] [.p 0, .p 1, .p 2, .p 4, .w 3 [3, 7, 8, 9], .w 5 [5, 6, 7, 8, 9], .p 6, .p 7, .w 8 [8, 9], .p 9]) (.s .d (.s (.s (.q [] [] [.p 0, .p 1, .p 2, .p 4, .w 3 [3, 6, 7, 8], .w 5 [5, 6, 7, 8], .p 6, .w 7 [7, 8], .p 8]) (.b (.l [.slot 5 .sl, .slot 8 (.int .i64)] (.s (.s (.q [] [] [.p 0, .p 1, .p 2, .p 3, .p 5, .w 4 [4, 8, 9, 10], .w 6 [6, 7, 8, 9, 10], .p 7, .p 8, .w 9 [9, 10], .p 10]) (.c .d .d)) (.s (.b (.q [] [] [.p 0, .p 1, .p 2, .p 3, .p 5, .p 6, .p 7, .w 4 [4, 9, 10, 11, 12, 13], .o 8, .p 9, .w 10 [10, 11, 12, 13], .o 11, .o 12, .p 13])) .d))))) (.s .d .d))))))

def deque_capsOK.M  (low1 : Int) (most2 : Int) (h3 : Heap) (Q : Bool → Heap → Prop) : Prop :=
    (((decide ((1 : Int) ≤ low1)) = true →
    (((decide (low1 ≤ most2)) = true →
    Q (decide (most2 ≤ 4096)) h3) ∧
    ((decide (low1 ≤ most2)) = false →
    Q false h3))) ∧
    ((decide ((1 : Int) ≤ low1)) = false →
    Q false h3))
def deque_capsOK.mk : Mk := (.s .d (.s .d .d))

def cells_good.M  (size1 : Int) (h2 : Heap) (Q : Bool → Heap → Prop) : Prop :=
    (((decide ((0 : Int) ≤ size1)) = true →
    Q (decide (size1 ≤ 1048576)) h2) ∧
    ((decide ((0 : Int) ≤ size1)) = false →
    Q false h2))
def cells_good.mk : Mk := (.s .d (.s .d .d))

def deque_game_begin.j1 (g1 : Option Addr) (who3 : Int) (Q : Bool → Heap → Prop) (s9 : (Den kapiCall × ((Int × (Int × (Int × (Int × (Int × (Int × (Int × (Int × (Int × (Int × (Int × (Int × (Int × (Bool × Den kapiTodo)))))))))))))) × Unit))) (h10 : Heap) : Prop :=
    deref g1 fun a11 =>
    deref g1 fun a12 =>
    ld (.sl : Kd) h10 (a11.add 4) fun t13 =>
    ld (.sl : Kd) h10 (a12.add 5) fun t14 =>
    (0 ≤ who3 ∧ who3 < (t13.len : Int)) ∧
    deref t13.a fun a15 =>
    st kdequeactor h10 (a15.add ((who3 : Int).toNat * 17)) ((s9.2.1.1, (s9.2.1.2.1, ((s9.2.1.2.2.1, (s9.2.1.2.2.2.1, ())), (s9.2.1.2.2.2.2.1, (s9.2.1.2.2.2.2.2.1, (s9.2.1.2.2.2.2.2.2.1, (s9.2.1.2.2.2.2.2.2.2.1, (s9.2.1.2.2.2.2.2.2.2.2.1, (s9.2.1.2.2.2.2.2.2.2.2.2.1, (s9.2.1.2.2.2.2.2.2.2.2.2.2.1, (s9.2.1.2.2.2.2.2.2.2.2.2.2.2.1, (s9.2.1.2.2.2.2.2.2.2.2.2.2.2.2.1, (s9.2.1.2.2.2.2.2.2.2.2.2.2.2.2.2.1, (s9.2.1.2.2.2.2.2.2.2.2.2.2.2.2.2.2.1, (s9.2.1.2.2.2.2.2.2.2.2.2.2.2.2.2.2.2.1, ()))))))))))))))), ((t14.len : Int), ())) fun h16 =>
    deref g1 fun a17 =>
    ld (.sl : Kd) h16 (a17.add 5) fun t18 =>
    new h16 (([(s9.1.1, (s9.1.2.1, (s9.1.2.2.1, (s9.1.2.2.2.1, (s9.1.2.2.2.2.1, (s9.1.2.2.2.2.2.1, (s9.1.2.2.2.2.2.2.1, ())))))))] : List (Den kapiCall)).flatMap (Kd.cells kapiCall)) fun p19 h20 =>
    appendM 7 56 h20 t18 ⟨some p19, 1, 1⟩ fun t21 h22 =>
    deref g1 fun a23 =>
    st (.sl : Kd) h22 (a23.add 5) t21 fun h24 =>
    Q true h24
def deque_game_begin.M (c_deque_Steal : Den kapiTodo → Heap → (Den kdequeOp → Heap → Prop) → Prop) (c_deque_Push : Den kapiTodo → Int → Heap → (Den kdequeOp → Heap → Prop) → Prop) (c_deque_Pop : Den kapiTodo → Heap → (Den kdequeOp → Heap → Prop) → Prop) (g1 : Option Addr) (n2 : Int) (who3 : Int) (h4 : Heap) (Q : Bool → Heap → Prop) : Prop :=
    deref g1 fun a5 =>
    ld kapiTodo h4 (a5.add 1) fun t6 =>
    c_deque_Steal t6 h4 fun r7 h8 =>
    (((decide (who3 = 0)) = true →
    deref g1 fun a25 =>
    ld (.sl : Kd) h8 (a25.add 3) fun t26 =>
    (((decide ((t26.len : Int) = 0)) = true →
    Q false h8) ∧
    ((decide ((t26.len : Int) = 0)) = false →
    deref g1 fun a27 =>
    ld (.sl : Kd) h8 (a27.add 3) fun t28 =>
    (0 ≤ (0 : Int) ∧ (0 : Int) < (t28.len : Int)) ∧
    deref t28.a fun a29 =>
    ld kapiTodo h8 (a29.add (((0 : Int) : Int).toNat * 2)) fun t30 =>
    deref g1 fun a31 =>
    ld (.sl : Kd) h8 (a31.add 3) fun t32 =>
    (0 ≤ (1 : Int) ∧ (1 : Int) ≤ (t32.len : Int)) ∧
    deref g1 fun a33 =>
    st (.sl : Kd) h8 (a33.add 3) (t32.cut (((1 : Int) : Int).toNat) t32.len 2) fun h34 =>
    (((decide (t30.1 = 0)) = true →
    deref g1 fun a35 =>
    ld kapiTodo h34 (a35.add 1) fun t36 =>
    c_deque_Push t36 t30.2.1 h34 fun r37 h38 =>
    deque_game_begin.j1 g1 who3 Q ((who3, (t30.1, (t30.2.1, (n2, ((-1), (0, (0, ()))))))), (r37.1, (r37.2.1, (r37.2.2.1.1, (r37.2.2.1.2.1, (r37.2.2.2.1, (r37.2.2.2.2.1, (r37.2.2.2.2.2.1, (r37.2.2.2.2.2.2.1, (r37.2.2.2.2.2.2.2.1, (r37.2.2.2.2.2.2.2.2.1, (r37.2.2.2.2.2.2.2.2.2.1, (r37.2.2.2.2.2.2.2.2.2.2.1, (r37.2.2.2.2.2.2.2.2.2.2.2.1, (r37.2.2.2.2.2.2.2.2.2.2.2.2.1, (r37.2.2.2.2.2.2.2.2.2.2.2.2.2.1, (r37.2.2.2.2.2.2.2.2.2.2.2.2.2.2.1, ())))))))))))))))), ()) h38) ∧
    ((decide (t30.1 = 0)) = false →
    deref g1 fun a39 =>
    ld kapiTodo h34 (a39.add 1) fun t40 =>
    c_deque_Pop t40 h34 fun r41 h42 =>
    deque_game_begin.j1 g1 who3 Q ((who3, (t30.1, (0, (n2, ((-1), (0, (0, ()))))))), (r41.1, (r41.2.1, (r41.2.2.1.1, (r41.2.2.1.2.1, (r41.2.2.2.1, (r41.2.2.2.2.1, (r41.2.2.2.2.2.1, (r41.2.2.2.2.2.2.1, (r41.2.2.2.2.2.2.2.1, (r41.2.2.2.2.2.2.2.2.1, (r41.2.2.2.2.2.2.2.2.2.1, (r41.2.2.2.2.2.2.2.2.2.2.1, (r41.2.2.2.2.2.2.2.2.2.2.2.1, (r41.2.2.2.2.2.2.2.2.2.2.2.2.1, (r41.2.2.2.2.2.2.2.2.2.2.2.2.2.1, (r41.2.2.2.2.2.2.2.2.2.2.2.2.2.2.1, ())))))))))))))))), ()) h42))))) ∧
    ((decide (who3 = 0)) = false →
    deque_game_begin.j1 g1 who3 Q ((who3, (2, (0, (n2, ((-1), (0, (0, ()))))))), (r7.1, (r7.2.1, (r7.2.2.1.1, (r7.2.2.1.2.1, (r7.2.2.2.1, (r7.2.2.2.2.1, (r7.2.2.2.2.2.1, (r7.2.2.2.2.2.2.1, (r7.2.2.2.2.2.2.2.1, (r7.2.2.2.2.2.2.2.2.1, (r7.2.2.2.2.2.2.2.2.2.1, (r7.2.2.2.2.2.2.2.2.2.2.1, (r7.2.2.2.2.2.2.2.2.2.2.2.1, (r7.2.2.2.2.2.2.2.2.2.2.2.2.1, (r7.2.2.2.2.2.2.2.2.2.2.2.2.2.1, (r7.2.2.2.2.2.2.2.2.2.2.2.2.2.2.1, ())))))))))))))))), ()) h8))
def deque_game_begin.mk : Mk := (.s .d (.s (.r [3]) (.s (.r [5]) (.j [.box 7 kapiCall, .box 8 (.pair (.int .i64) (.pair (.int .i64) (.pair (.int .i64) (.pair (.int .i64) (.pair (.int .i64) (.pair (.int .i64) (.pair (.int .i64) (.pair (.int .i64) (.pair (.int .i64) (.pair (.int .i64) (.pair (.int .i64) (.pair (.int .i64) (.pair (.int .i64) (.pair .bool kapiTodo))))))))))))))] (.s .d (.c (.s (.s .d (.c (.s .d .d) .d)) (.s (.r [6]) (.s .d (.s .d (.s .d (.c (.s .d (.q [] [8] [.p 0, .p 1, .p 2, .p 4, .w 3 [3, 6, 7], .w 5 [5, 6, 7], .o 6, .o 7])) .d)))))) .d)) (.s (.q [] [] [.p 0, .p 1, .p 2, .p 4, .p 6, .p 7, .p 8, .w 3 [3, 12, 13], .w 5 [5, 11, 12, 13], .w 9 [9, 10, 11, 12, 13], .p 10, .p 11, .p 12, .o 13]) (.s (.q [] [] [.p 0, .p 1, .p 2, .p 3, .w 4 [4, 7, 8, 9, 10], .w 5 [5, 6, 7, 8, 9, 10], .o 6, .o 7, .p 8, .p 9, .o 10]) (.s .d .d)))))))

def cells_Arena_Who.M  (a1 : Option Addr) (actor2 : Int) (h3 : Heap) (Q : Unit → Heap → Prop) : Prop :=
    (((Option.isSome a1) = true →
    deref a1 fun a4 =>
    st ((.int .i64) : Kd) h3 (a4.add 4) actor2 fun h5 =>
    Q () h5) ∧
    ((Option.isSome a1) = false →
    Q () h3))
def cells_Arena_Who.mk : Mk := (.s .d (.c .d .d))

def deque_Step.j1 (c_deque_Op_over : Den kdequeOp → Int → Int → Heap → (Den kdequeOp → Heap → Prop) → Prop) (c_deque_Op_access : Den kdequeOp → Value → Heap → (Den kapiTodo → Heap → Prop) → Prop) (c_deque_Op_pushed : Den kdequeOp → Int → Heap → (Den kdequeOp → Heap → Prop) → Prop) (c_deque_Op_popped : Den kdequeOp → Int → Heap → (Den kdequeOp → Heap → Prop) → Prop) (c_deque_Op_stolen : Den kdequeOp → Int → Heap → (Den kdequeOp → Heap → Prop) → Prop) (c_deque_Op_looked : Den kdequeOp → Int → Heap → (Den kdequeOp → Heap → Prop) → Prop) (m1 : Value) (o2 : Den kdequeOp) (Q : Den kdequeOp → Heap → Prop) (s4 : ((Int × (Int × (Int × (Int × (Int × (Int × (Int × (Int × (Int × (Int × (Int × (Int × (Int × (Bool × Den kapiTodo)))))))))))))) × Unit)) (h5 : Heap) : Prop :=
    isI m1 ∧
    (((isNilI m1) = true →
    c_deque_Op_over (o2.1, (o2.2.1, ((o2.2.2.1.1, (o2.2.2.1.2.1, ())), (o2.2.2.2.1, (o2.2.2.2.2.1, (o2.2.2.2.2.2.1, (o2.2.2.2.2.2.2.1, (o2.2.2.2.2.2.2.2.1, (o2.2.2.2.2.2.2.2.2.1, (o2.2.2.2.2.2.2.2.2.2.1, (o2.2.2.2.2.2.2.2.2.2.2.1, (o2.2.2.2.2.2.2.2.2.2.2.2.1, (o2.2.2.2.2.2.2.2.2.2.2.2.2.1, (o2.2.2.2.2.2.2.2.2.2.2.2.2.2.1, (o2.2.2.2.2.2.2.2.2.2.2.2.2.2.2.1, ()))))))))))))))) 1 0 h5 fun r6 h7 =>
    Q (r6.1, (r6.2.1, ((r6.2.2.1.1, (r6.2.2.1.2.1, ())), (r6.2.2.2.1, (r6.2.2.2.2.1, (r6.2.2.2.2.2.1, (r6.2.2.2.2.2.2.1, (r6.2.2.2.2.2.2.2.1, (r6.2.2.2.2.2.2.2.2.1, (r6.2.2.2.2.2.2.2.2.2.1, (r6.2.2.2.2.2.2.2.2.2.2.1, (r6.2.2.2.2.2.2.2.2.2.2.2.1, (r6.2.2.2.2.2.2.2.2.2.2.2.2.1, (r6.2.2.2.2.2.2.2.2.2.2.2.2.2.1, (r6.2.2.2.2.2.2.2.2.2.2.2.2.2.2.1, ()))))))))))))))) h7) ∧
    ((isNilI m1) = false →
    c_deque_Op_access (o2.1, (o2.2.1, ((o2.2.2.1.1, (o2.2.2.1.2.1, ())), (o2.2.2.2.1, (o2.2.2.2.2.1, (o2.2.2.2.2.2.1, (o2.2.2.2.2.2.2.1, (o2.2.2.2.2.2.2.2.1, (o2.2.2.2.2.2.2.2.2.1, (o2.2.2.2.2.2.2.2.2.2.1, (o2.2.2.2.2.2.2.2.2.2.2.1, (o2.2.2.2.2.2.2.2.2.2.2.2.1, (o2.2.2.2.2.2.2.2.2.2.2.2.2.1, (o2.2.2.2.2.2.2.2.2.2.2.2.2.2.1, (o2.2.2.2.2.2.2.2.2.2.2.2.2.2.2.1, ()))))))))))))))) m1 h5 fun r8 h9 =>
    (((decide (r8.2.1 ≠ 0)) = true →
    c_deque_Op_over (o2.1, (o2.2.1, ((o2.2.2.1.1, (o2.2.2.1.2.1, ())), (o2.2.2.2.1, (o2.2.2.2.2.1, (o2.2.2.2.2.2.1, (o2.2.2.2.2.2.2.1, (o2.2.2.2.2.2.2.2.1, (o2.2.2.2.2.2.2.2.2.1, (o2.2.2.2.2.2.2.2.2.2.1, (o2.2.2.2.2.2.2.2.2.2.2.1, (o2.2.2.2.2.2.2.2.2.2.2.2.1, (o2.2.2.2.2.2.2.2.2.2.2.2.2.1, (o2.2.2.2.2.2.2.2.2.2.2.2.2.2.1, (o2.2.2.2.2.2.2.2.2.2.2.2.2.2.2.1, ()))))))))))))))) 1 0 h9 fun r10 h11 =>
    Q (r10.1, (r10.2.1, ((r10.2.2.1.1, (r10.2.2.1.2.1, ())), (r10.2.2.2.1, (r10.2.2.2.2.1, (r10.2.2.2.2.2.1, (r10.2.2.2.2.2.2.1, (r10.2.2.2.2.2.2.2.1, (r10.2.2.2.2.2.2.2.2.1, (r10.2.2.2.2.2.2.2.2.2.1, (r10.2.2.2.2.2.2.2.2.2.2.1, (r10.2.2.2.2.2.2.2.2.2.2.2.1, (r10.2.2.2.2.2.2.2.2.2.2.2.2.1, (r10.2.2.2.2.2.2.2.2.2.2.2.2.2.1, (r10.2.2.2.2.2.2.2.2.2.2.2.2.2.2.1, ()))))))))))))))) h11) ∧
    ((decide (r8.2.1 ≠ 0)) = false →
    (((decide (o2.1 = 1)) = true →
    c_deque_Op_pushed (o2.1, (o2.2.1, ((o2.2.2.1.1, (o2.2.2.1.2.1, ())), (o2.2.2.2.1, (o2.2.2.2.2.1, (o2.2.2.2.2.2.1, (o2.2.2.2.2.2.2.1, (o2.2.2.2.2.2.2.2.1, (o2.2.2.2.2.2.2.2.2.1, (o2.2.2.2.2.2.2.2.2.2.1, (o2.2.2.2.2.2.2.2.2.2.2.1, (o2.2.2.2.2.2.2.2.2.2.2.2.1, (o2.2.2.2.2.2.2.2.2.2.2.2.2.1, (o2.2.2.2.2.2.2.2.2.2.2.2.2.2.1, (o2.2.2.2.2.2.2.2.2.2.2.2.2.2.2.1, ()))))))))))))))) r8.1 h9 fun r12 h13 =>
    Q (r12.1, (r12.2.1, ((r12.2.2.1.1, (r12.2.2.1.2.1, ())), (r12.2.2.2.1, (r12.2.2.2.2.1, (r12.2.2.2.2.2.1, (r12.2.2.2.2.2.2.1, (r12.2.2.2.2.2.2.2.1, (r12.2.2.2.2.2.2.2.2.1, (r12.2.2.2.2.2.2.2.2.2.1, (r12.2.2.2.2.2.2.2.2.2.2.1, (r12.2.2.2.2.2.2.2.2.2.2.2.1, (r12.2.2.2.2.2.2.2.2.2.2.2.2.1, (r12.2.2.2.2.2.2.2.2.2.2.2.2.2.1, (r12.2.2.2.2.2.2.2.2.2.2.2.2.2.2.1, ()))))))))))))))) h13) ∧
    ((decide (o2.1 = 1)) = false →
    (((decide (o2.1 = 2)) = true →
    c_deque_Op_popped (o2.1, (o2.2.1, ((o2.2.2.1.1, (o2.2.2.1.2.1, ())), (o2.2.2.2.1, (o2.2.2.2.2.1, (o2.2.2.2.2.2.1, (o2.2.2.2.2.2.2.1, (o2.2.2.2.2.2.2.2.1, (o2.2.2.2.2.2.2.2.2.1, (o2.2.2.2.2.2.2.2.2.2.1, (o2.2.2.2.2.2.2.2.2.2.2.1, (o2.2.2.2.2.2.2.2.2.2.2.2.1, (o2.2.2.2.2.2.2.2.2.2.2.2.2.1, (o2.2.2.2.2.2.2.2.2.2.2.2.2.2.1, (o2.2.2.2.2.2.2.2.2.2.2.2.2.2.2.1, ()))))))))))))))) r8.1 h9 fun r14 h15 =>
    Q (r14.1, (r14.2.1, ((r14.2.2.1.1, (r14.2.2.1.2.1, ())), (r14.2.2.2.1, (r14.2.2.2.2.1, (r14.2.2.2.2.2.1, (r14.2.2.2.2.2.2.1, (r14.2.2.2.2.2.2.2.1, (r14.2.2.2.2.2.2.2.2.1, (r14.2.2.2.2.2.2.2.2.2.1, (r14.2.2.2.2.2.2.2.2.2.2.1, (r14.2.2.2.2.2.2.2.2.2.2.2.1, (r14.2.2.2.2.2.2.2.2.2.2.2.2.1, (r14.2.2.2.2.2.2.2.2.2.2.2.2.2.1, (r14.2.2.2.2.2.2.2.2.2.2.2.2.2.2.1, ()))))))))))))))) h15) ∧
    ((decide (o2.1 = 2)) = false →
    (((decide (o2.1 = 3)) = true →
    c_deque_Op_stolen (o2.1, (o2.2.1, ((o2.2.2.1.1, (o2.2.2.1.2.1, ())), (o2.2.2.2.1, (o2.2.2.2.2.1, (o2.2.2.2.2.2.1, (o2.2.2.2.2.2.2.1, (o2.2.2.2.2.2.2.2.1, (o2.2.2.2.2.2.2.2.2.1, (o2.2.2.2.2.2.2.2.2.2.1, (o2.2.2.2.2.2.2.2.2.2.2.1, (o2.2.2.2.2.2.2.2.2.2.2.2.1, (o2.2.2.2.2.2.2.2.2.2.2.2.2.1, (o2.2.2.2.2.2.2.2.2.2.2.2.2.2.1, (o2.2.2.2.2.2.2.2.2.2.2.2.2.2.2.1, ()))))))))))))))) r8.1 h9 fun r16 h17 =>
    Q (r16.1, (r16.2.1, ((r16.2.2.1.1, (r16.2.2.1.2.1, ())), (r16.2.2.2.1, (r16.2.2.2.2.1, (r16.2.2.2.2.2.1, (r16.2.2.2.2.2.2.1, (r16.2.2.2.2.2.2.2.1, (r16.2.2.2.2.2.2.2.2.1, (r16.2.2.2.2.2.2.2.2.2.1, (r16.2.2.2.2.2.2.2.2.2.2.1, (r16.2.2.2.2.2.2.2.2.2.2.2.1, (r16.2.2.2.2.2.2.2.2.2.2.2.2.1, (r16.2.2.2.2.2.2.2.2.2.2.2.2.2.1, (r16.2.2.2.2.2.2.2.2.2.2.2.2.2.2.1, ()))))))))))))))) h17) ∧
    ((decide (o2.1 = 3)) = false →
    c_deque_Op_looked (o2.1, (o2.2.1, ((o2.2.2.1.1, (o2.2.2.1.2.1, ())), (o2.2.2.2.1, (o2.2.2.2.2.1, (o2.2.2.2.2.2.1, (o2.2.2.2.2.2.2.1, (o2.2.2.2.2.2.2.2.1, (o2.2.2.2.2.2.2.2.2.1, (o2.2.2.2.2.2.2.2.2.2.1, (o2.2.2.2.2.2.2.2.2.2.2.1, (o2.2.2.2.2.2.2.2.2.2.2.2.1, (o2.2.2.2.2.2.2.2.2.2.2.2.2.1, (o2.2.2.2.2.2.2.2.2.2.2.2.2.2.1, (o2.2.2.2.2.2.2.2.2.2.2.2.2.2.2.1, ()))))))))))))))) r8.1 h9 fun r18 h19 =>
    Q (r18.1, (r18.2.1, ((r18.2.2.1.1, (r18.2.2.1.2.1, ())), (r18.2.2.2.1, (r18.2.2.2.2.1, (r18.2.2.2.2.2.1, (r18.2.2.2.2.2.2.1, (r18.2.2.2.2.2.2.2.1, (r18.2.2.2.2.2.2.2.2.1, (r18.2.2.2.2.2.2.2.2.2.1, (r18.2.2.2.2.2.2.2.2.2.2.1, (r18.2.2.2.2.2.2.2.2.2.2.2.1, (r18.2.2.2.2.2.2.2.2.2.2.2.2.1, (r18.2.2.2.2.2.2.2.2.2.2.2.2.2.1, (r18.2.2.2.2.2.2.2.2.2.2.2.2.2.2.1, ()))))))))))))))) h19))))))))))
def deque_Step.j2 (c_deque_Op_over : Den kdequeOp → Int → Int → Heap → (Den kdequeOp → Heap → Prop) → Prop) (c_deque_Op_access : Den kdequeOp → Value → Heap → (Den kapiTodo → Heap → Prop) → Prop) (c_deque_Op_pushed : Den kdequeOp → Int → Heap → (Den kdequeOp → Heap → Prop) → Prop) (c_deque_Op_popped : Den kdequeOp → Int → Heap → (Den kdequeOp → Heap → Prop) → Prop) (c_deque_Op_stolen : Den kdequeOp → Int → Heap → (Den kdequeOp → Heap → Prop) → Prop) (c_deque_Op_looked : Den kdequeOp → Int → Heap → (Den kdequeOp → Heap → Prop) → Prop) (m1 : Value) (o2 : Den kdequeOp) (Q : Den kdequeOp → Heap → Prop) (s20 : (Bool × Unit)) (h21 : Heap) : Prop :=
    ((s20.1 = true →
    Q (o2.1, (o2.2.1, ((o2.2.2.1.1, (o2.2.2.1.2.1, ())), (o2.2.2.2.1, (o2.2.2.2.2.1, (o2.2.2.2.2.2.1, (o2.2.2.2.2.2.2.1, (o2.2.2.2.2.2.2.2.1, (o2.2.2.2.2.2.2.2.2.1, (o2.2.2.2.2.2.2.2.2.2.1, (o2.2.2.2.2.2.2.2.2.2.2.1, (o2.2.2.2.2.2.2.2.2.2.2.2.1, (o2.2.2.2.2.2.2.2.2.2.2.2.2.1, (o2.2.2.2.2.2.2.2.2.2.2.2.2.2.1, (o2.2.2.2.2.2.2.2.2.2.2.2.2.2.2.1, ()))))))))))))))) h21) ∧
    (s20.1 = false →
    deque_Step.j1 c_deque_Op_over c_deque_Op_access c_deque_Op_pushed c_deque_Op_popped c_deque_Op_stolen c_deque_Op_looked m1 o2 Q ((0, (0, (0, (0, (0, (0, (0, (0, (0, (0, (0, (0, (0, (false, (0, (0, ())))))))))))))))), ()) h21))
def deque_Step.M (c_deque_Op_over : Den kdequeOp → Int → Int → Heap → (Den kdequeOp → Heap → Prop) → Prop) (c_deque_Op_access : Den kdequeOp → Value → Heap → (Den kapiTodo → Heap → Prop) → Prop) (c_deque_Op_pushed : Den kdequeOp → Int → Heap → (Den kdequeOp → Heap → Prop) → Prop) (c_deque_Op_popped : Den kdequeOp → Int → Heap → (Den kdequeOp → Heap → Prop) → Prop) (c_deque_Op_stolen : Den kdequeOp → Int → Heap → (Den kdequeOp → Heap → Prop) → Prop) (c_deque_Op_looked : Den kdequeOp → Int → Heap → (Den kdequeOp → Heap → Prop) → Prop) (m1 : Value) (o2 : Den kdequeOp) (h3 : Heap) (Q : Den kdequeOp → Heap → Prop) : Prop :=
    (((eqK kdequeOp (o2.1, (o2.2.1, ((o2.2.2.1.1, (o2.2.2.1.2.1, ())), (o2.2.2.2.1, (o2.2.2.2.2.1, (o2.2.2.2.2.2.1, (o2.2.2.2.2.2.2.1, (o2.2.2.2.2.2.2.2.1, (o2.2.2.2.2.2.2.2.2.1, (o2.2.2.2.2.2.2.2.2.2.1, (o2.2.2.2.2.2.2.2.2.2.2.1, (o2.2.2.2.2.2.2.2.2.2.2.2.1, (o2.2.2.2.2.2.2.2.2.2.2.2.2.1, (o2.2.2.2.2.2.2.2.2.2.2.2.2.2.1, (o2.2.2.2.2.2.2.2.2.2.2.2.2.2.2.1, ()))))))))))))))) (0, (0, ((0, (0, ())), (0, (0, (0, (0, (0, (0, (0, (0, (0, (false, (0, (0, ())))))))))))))))) = true →
    deque_Step.j2 c_deque_Op_over c_deque_Op_access c_deque_Op_pushed c_deque_Op_popped c_deque_Op_stolen c_deque_Op_looked m1 o2 Q (true, ()) h3) ∧
    ((eqK kdequeOp (o2.1, (o2.2.1, ((o2.2.2.1.1, (o2.2.2.1.2.1, ())), (o2.2.2.2.1, (o2.2.2.2.2.1, (o2.2.2.2.2.2.1, (o2.2.2.2.2.2.2.1, (o2.2.2.2.2.2.2.2.1, (o2.2.2.2.2.2.2.2.2.1, (o2.2.2.2.2.2.2.2.2.2.1, (o2.2.2.2.2.2.2.2.2.2.2.1, (o2.2.2.2.2.2.2.2.2.2.2.2.1, (o2.2.2.2.2.2.2.2.2.2.2.2.2.1, (o2.2.2.2.2.2.2.2.2.2.2.2.2.2.1, (o2.2.2.2.2.2.2.2.2.2.2.2.2.2.2.1, ()))))))))))))))) (0, (0, ((0, (0, ())), (0, (0, (0, (0, (0, (0, (0, (0, (0, (false, (0, (0, ())))))))))))))))) = false →
    deque_Step.j2 c_deque_Op_over c_deque_Op_access c_deque_Op_pushed c_deque_Op_popped c_deque_Op_stolen c_deque_Op_looked m1 o2 Q ((decide (o2.2.1 = 0)), ()) h3))
def deque_Step.mk : Mk := (.s (.r [0, 1]) (.j [.box 4 (.pair (.int .i64) (.pair (.int .i64) (.pair (.int .i64) (.pair (.int .i64) (.pair (.int .i64) (.pair (.int .i64) (.pair (.int .i64) (.pair (.int .i64) (.pair (.int .i64) (.pair (.int .i64) (.pair (.int .i64) (.pair (.int .i64) (.pair (.int .i64) (.pair .bool kapiTodo))))))))))))))] (.j [.slot 14 .bool] .d (.c (.s .d .d) .d)) (.s (.s .d (.c (.s .d .d) .d)) (.s .d (.s (.s .d (.c (.s .d .d) .d)) (.s (.s .d (.b (.s .d (.c (.s .d .d) (.s .d (.c (.s .d .d) (.s .d (.c (.s .d .d) .d)))))))) (.s .d .d)))))))

def deque_Answer.M  (o1 : Den kdequeOp) (h2 : Heap) (Q : Den kapiTodo → Heap → Prop) : Prop :=
    (((eqK kdequeOp (o1.1, (o1.2.1, ((o1.2.2.1.1, (o1.2.2.1.2.1, ())), (o1.2.2.2.1, (o1.2.2.2.2.1, (o1.2.2.2.2.2.1, (o1.2.2.2.2.2.2.1, (o1.2.2.2.2.2.2.2.1, (o1.2.2.2.2.2.2.2.2.1, (o1.2.2.2.2.2.2.2.2.2.1, (o1.2.2.2.2.2.2.2.2.2.2.1, (o1.2.2.2.2.2.2.2.2.2.2.2.1, (o1.2.2.2.2.2.2.2.2.2.2.2.2.1, (o1.2.2.2.2.2.2.2.2.2.2.2.2.2.1, (o1.2.2.2.2.2.2.2.2.2.2.2.2.2.2.1, ()))))))))))))))) (0, (0, ((0, (0, ())), (0, (0, (0, (0, (0, (0, (0, (0, (0, (false, (0, (0, ())))))))))))))))) = true →
    Q (1, 0, ()) h2) ∧
    ((eqK kdequeOp (o1.1, (o1.2.1, ((o1.2.2.1.1, (o1.2.2.1.2.1, ())), (o1.2.2.2.1, (o1.2.2.2.2.1, (o1.2.2.2.2.2.1, (o1.2.2.2.2.2.2.1, (o1.2.2.2.2.2.2.2.1, (o1.2.2.2.2.2.2.2.2.1, (o1.2.2.2.2.2.2.2.2.2.1, (o1.2.2.2.2.2.2.2.2.2.2.1, (o1.2.2.2.2.2.2.2.2.2.2.2.1, (o1.2.2.2.2.2.2.2.2.2.2.2.2.1, (o1.2.2.2.2.2.2.2.2.2.2.2.2.2.1, (o1.2.2.2.2.2.2.2.2.2.2.2.2.2.2.1, ()))))))))))))))) (0, (0, ((0, (0, ())), (0, (0, (0, (0, (0, (0, (0, (0, (0, (false, (0, (0, ())))))))))))))))) = false →
    (((decide (o1.2.1 ≠ 0)) = true →
    Q (0, 0, ()) h2) ∧
    ((decide (o1.2.1 ≠ 0)) = false →
    Q (o1.2.2.2.2.2.2.2.2.2.2.2.2.2.1, o1.2.2.2.2.2.2.2.2.2.2.2.2.2.2.1, ()) h2))))
def deque_Answer.mk : Mk := (.s (.r [0]) (.s (.b (.s .d (.c (.s .d .d) (.s .d (.c (.s .d .d) .d))))) (.s (.q [] [] [.p 0, .p 2, .w 1 [1, 4, 5], .p 4, .w 3 [3, 5], .p 5]) .d)))

def cells_Arena_Cells.M  (a1 : Option Addr) (h2 : Heap) (Q : Sl → Heap → Prop) : Prop :=
    (((Option.isNone a1) = true →
    Q ⟨none, 0, 0⟩ h2) ∧
    ((Option.isNone a1) = false →
    deref a1 fun a3 =>
    ld (.sl : Kd) h2 (a3.add 2) fun t4 =>
    makeM ((.int .i64) : Kd) 8 h2 (t4.len : Int) (t4.len : Int) fun s5 h6 =>
    deref a1 fun a7 =>
    ld (.sl : Kd) h6 (a7.add 2) fun t8 =>
    copyM 1 h6 s5 t8 fun n9 h10 =>
    Q s5 h10))
def cells_Arena_Cells.mk : Mk := (.s .d (.s (.s .d (.c (.s .d .d) .d)) (.s .d (.s .d (.s .d .d)))))

def deque_place.j1 (a1 : Int) (Q : Int → Heap → Prop) (s5 : (Int × Unit)) (h6 : Heap) : Prop :=
    Q (w64 ((w64 (a1 + 1)) + s5.1)) h6
def deque_place.M  (a1 : Int) (c2 : Int) (i3 : Int) (h4 : Heap) (Q : Int → Heap → Prop) : Prop :=
    c2 ≠ 0 ∧
    (((decide ((Int.tmod i3 c2) < 0)) = true →
    deque_place.j1 a1 Q ((w64 ((Int.tmod i3 c2) + c2)), ()) h4) ∧
    ((decide ((Int.tmod i3 c2) < 0)) = false →
    deque_place.j1 a1 Q ((Int.tmod i3 c2), ()) h4))
def deque_place.mk : Mk := (.s .d (.s .d (.j [.slot 7 (.int .i64)] (.s .d (.c .d .d)) (.s .d .d))))

def ref3_CapOK.M  (first1 : Int) (most2 : Int) (h3 : Heap) (Q : Bool → Heap → Prop) : Prop :=
    (((decide ((1 : Int) ≤ first1)) = true →
    (((decide (first1 ≤ most2)) = true →
    Q (decide (most2 ≤ 4096)) h3) ∧
    ((decide (first1 ≤ most2)) = false →
    Q false h3))) ∧
    ((decide ((1 : Int) ≤ first1)) = false →
    Q false h3))
def ref3_CapOK.mk : Mk := (.s .d (.s .d .d))

def ref3_Mem_Do.l1 (m1 : Option Addr) (w2 : Den kref3Want) (Q : (Int × (Bool × Unit)) → Heap → Prop) (t5 : Int) (t9 : Sl) (go12 : (Int × Unit) → Heap → Prop) (s10 : (Int × Unit)) (h11 : Heap) : Prop :=
    (((decide (s10.1 < w2.2.2.1)) = true →
    deref m1 fun a13 =>
    ld (.sl : Kd) h11 (a13.add 0) fun t14 =>
    new h11 (([0] : List (Den ((.int .i64) : Kd))).flatMap (Kd.cells ((.int .i64) : Kd))) fun p15 h16 =>
    appendM 1 8 h16 t14 ⟨some p15, 1, 1⟩ fun t17 h18 =>
    deref m1 fun a19 =>
    st (.sl : Kd) h18 (a19.add 0) t17 fun h20 =>
    go12 ((w64 (s10.1 + 1)), ()) h20) ∧
    ((decide (s10.1 < w2.2.2.1)) = false →
    deref m1 fun a21 =>
    ld (.sl : Kd) h11 (a21.add 3) fun t22 =>
    new h11 (([(t5, (w2.1, ((t9.len : Int), (w2.2.2.1, (w2.2.2.2.1, (true, ()))))))] : List (Den kapiAccess)).flatMap (Kd.cells kapiAccess)) fun p23 h24 =>
    appendM 6 48 h24 t22 ⟨some p23, 1, 1⟩ fun t25 h26 =>
    deref m1 fun a27 =>
    st (.sl : Kd) h26 (a27.add 3) t25 fun h28 =>
    Q ((t9.len : Int), true, ()) h28))
def ref3_Mem_Do.j2 (m1 : Option Addr) (w2 : Den kref3Want) (Q : (Int × (Bool × Unit)) → Heap → Prop) (t5 : Int) (s6 : Unit) (h7 : Heap) : Prop :=
    deref m1 fun a8 =>
    ld (.sl : Kd) h7 (a8.add 0) fun t9 =>
    Loop (ref3_Mem_Do.l1 m1 w2 Q t5 t9) (0, ()) h7
def ref3_Mem_Do.j3 (m1 : Option Addr) (w2 : Den kref3Want) (Q : (Int × (Bool × Unit)) → Heap → Prop) (t5 : Int) (s29 : (Bool × Unit)) (h30 : Heap) : Prop :=
    ((s29.1 = true →
    Q (0, false, ()) h30) ∧
    (s29.1 = false →
    ref3_Mem_Do.j2 m1 w2 Q t5 () h30))
def ref3_Mem_Do.j4 (m1 : Option Addr) (Q : (Int × (Bool × Unit)) → Heap → Prop) (s37 : (Int × (Den kapiAccess × Unit))) (h38 : Heap) : Prop :=
    deref m1 fun a39 =>
    ld (.sl : Kd) h38 (a39.add 3) fun t40 =>
    new h38 (([(s37.2.1.1, (s37.2.1.2.1, (s37.2.1.2.2.1, (s37.2.1.2.2.2.1, (s37.2.1.2.2.2.2.1, (s37.2.1.2.2.2.2.2.1, ()))))))] : List (Den kapiAccess)).flatMap (Kd.cells kapiAccess)) fun p41 h42 =>
    appendM 6 48 h42 t40 ⟨some p41, 1, 1⟩ fun t43 h44 =>
    deref m1 fun a45 =>
    st (.sl : Kd) h44 (a45.add 3) t43 fun h46 =>
    Q (s37.1, true, ()) h46
def ref3_Mem_Do.j5 (m1 : Option Addr) (w2 : Den kref3Want) (Q : (Int × (Bool × Unit)) → Heap → Prop) (t5 : Int) (s35 : Unit) (h36 : Heap) : Prop :=
    (((decide (w2.1 = 0)) = true →
    deref m1 fun a47 =>
    ld (.sl : Kd) h36 (a47.add 0) fun t48 =>
    (0 ≤ w2.2.1 ∧ w2.2.1 < (t48.len : Int)) ∧
    deref t48.a fun a49 =>
    ld ((.int .i64) : Kd) h36 (a49.add ((w2.2.1 : Int).toNat * 1)) fun t50 =>
    ref3_Mem_Do.j4 m1 Q (t50, (t5, (w2.1, (w2.2.1, (t50, (w2.2.2.2.1, (true, ())))))), ()) h36) ∧
    ((decide (w2.1 = 0)) = false →
    (((decide (w2.1 = 1)) = true →
    deref m1 fun a51 =>
    ld (.sl : Kd) h36 (a51.add 0) fun t52 =>
    (0 ≤ w2.2.1 ∧ w2.2.1 < (t52.len : Int)) ∧
    deref t52.a fun a53 =>
    st ((.int .i64) : Kd) h36 (a53.add ((w2.2.1 : Int).toNat * 1)) w2.2.2.1 fun h54 =>
    ref3_Mem_Do.j4 m1 Q (0, (t5, (w2.1, (w2.2.1, (w2.2.2.1, (w2.2.2.2.1, (true, ())))))), ()) h54) ∧
    ((decide (w2.1 = 1)) = false →
    (((decide (w2.1 = 3)) = true →
    deref m1 fun a55 =>
    deref m1 fun a56 =>
    ld (.sl : Kd) h36 (a55.add 0) fun t57 =>
    ld (.sl : Kd) h36 (a56.add 0) fun t58 =>
    (0 ≤ w2.2.1 ∧ w2.2.1 < (t58.len : Int)) ∧
    deref t58.a fun a59 =>
    ld ((.int .i64) : Kd) h36 (a59.add ((w2.2.1 : Int).toNat * 1)) fun t60 =>
    (0 ≤ w2.2.1 ∧ w2.2.1 < (t57.len : Int)) ∧
    deref t57.a fun a61 =>
    st ((.int .i64) : Kd) h36 (a61.add ((w2.2.1 : Int).toNat * 1)) (w64 (t60 + w2.2.2.1)) fun h62 =>
    deref m1 fun a63 =>
    ld (.sl : Kd) h62 (a63.add 0) fun t64 =>
    (0 ≤ w2.2.1 ∧ w2.2.1 < (t64.len : Int)) ∧
    deref t64.a fun a65 =>
    ld ((.int .i64) : Kd) h62 (a65.add ((w2.2.1 : Int).toNat * 1)) fun t66 =>
    ref3_Mem_Do.j4 m1 Q (t66, (t5, (w2.1, (w2.2.1, (w2.2.2.1, (t66, (true, ())))))), ()) h62) ∧
    ((decide (w2.1 = 3)) = false →
    (((decide (w2.1 = 2)) = true →
    deref m1 fun a67 =>
    ld (.sl : Kd) h36 (a67.add 0) fun t68 =>
    (0 ≤ w2.2.1 ∧ w2.2.1 < (t68.len : Int)) ∧
    deref t68.a fun a69 =>
    ld ((.int .i64) : Kd) h36 (a69.add ((w2.2.1 : Int).toNat * 1)) fun t70 =>
    (((decide (t70 = w2.2.2.1)) = true →
    deref m1 fun a71 =>
    ld (.sl : Kd) h36 (a71.add 0) fun t72 =>
    (0 ≤ w2.2.1 ∧ w2.2.1 < (t72.len : Int)) ∧
    deref t72.a fun a73 =>
    st ((.int .i64) : Kd) h36 (a73.add ((w2.2.1 : Int).toNat * 1)) w2.2.2.2.1 fun h74 =>
    ref3_Mem_Do.j4 m1 Q (1, (t5, (w2.1, (w2.2.1, (w2.2.2.1, (w2.2.2.2.1, ((decide (t70 = w2.2.2.1)), ())))))), ()) h74) ∧
    ((decide (t70 = w2.2.2.1)) = false →
    ref3_Mem_Do.j4 m1 Q (0, (t5, (w2.1, (w2.2.1, (w2.2.2.1, (w2.2.2.2.1, ((decide (t70 = w2.2.2.1)), ())))))), ()) h36))) ∧
    ((decide (w2.1 = 2)) = false →
    ref3_Mem_Do.j4 m1 Q (0, (t5, (w2.1, (w2.2.1, (w2.2.2.1, (w2.2.2.2.1, (true, ())))))), ()) h36))))))))
def ref3_Mem_Do.j6 (m1 : Option Addr) (w2 : Den kref3Want) (Q : (Int × (Bool × Unit)) → Heap → Prop) (t5 : Int) (s75 : (Bool × Unit)) (h76 : Heap) : Prop :=
    ((s75.1 = true →
    Q (0, false, ()) h76) ∧
    (s75.1 = false →
    ref3_Mem_Do.j5 m1 w2 Q t5 () h76))
def ref3_Mem_Do.M  (m1 : Option Addr) (w2 : Den kref3Want) (h3 : Heap) (Q : (Int × (Bool × Unit)) → Heap → Prop) : Prop :=
    deref m1 fun a4 =>
    ld ((.int .i64) : Kd) h3 (a4.add 2) fun t5 =>
    (((decide (w2.1 = 4)) = true →
    (((decide (w2.2.2.1 < 1)) = true →
    ref3_Mem_Do.j3 m1 w2 Q t5 (true, ()) h3) ∧
    ((decide (w2.2.2.1 < 1)) = false →
    deref m1 fun a31 =>
    deref m1 fun a32 =>
    ld ((.int .i64) : Kd) h3 (a31.add 1) fun t33 =>
    ld (.sl : Kd) h3 (a32.add 0) fun t34 =>
    ref3_Mem_Do.j3 m1 w2 Q t5 ((decide ((w64 (t33 - (t34.len : Int))) < w2.2.2.1)), ()) h3))) ∧
    ((decide (w2.1 = 4)) = false →
    (((decide (w2.2.1 < 0)) = true →
    ref3_Mem_Do.j6 m1 w2 Q t5 (true, ()) h3) ∧
    ((decide (w2.2.1 < 0)) = false →
    deref m1 fun a77 =>
    ld (.sl : Kd) h3 (a77.add 0) fun t78 =>
    ref3_Mem_Do.j6 m1 w2 Q t5 ((decide ((t78.len : Int) ≤ w2.2.1)), ()) h3))))
def ref3_Mem_Do.mk : Mk := (.s (.r [0]) (.s (.q [13] [6] [.p 0, .p 1, .p 2, .p 4, .p 6, .p 8, .p 10, .w 3 [3, 12, 14], .w 5 [5, 12, 14], .w 7 [7, 12, 14], .w 9 [9, 12, 14], .w 11 [11, 12, 14], .p 12, .o 13, .o 14]) (.s (.s .d (.c (.j [] (.j [.slot 42 .bool] (.q [] [] [.p 0, .w 1 [1, 2, 3, 4, 5, 6, 7, 8, 9, 10, 11, 12, 13, 14, 15, 16, 17], .p 2, .p 3, .p 4, .p 6, .p 7, .p 8, .p 10, .p 11, .p 12, .w 5 [5, 16, 17], .w 9 [9, 15, 16, 17], .w 13 [13, 14, 15, 16, 17], .p 14, .p 15, .p 16, .p 17]) (.c (.s .d .d) .d)) (.s .d (.s (.s .d (.b (.l [.slot 7 (.int .i64)] (.s (.s .d (.c .d .d)) (.s (.b .d) .d))))) (.s (.q [] [] [.p 0, .p 1, .p 2, .p 3, .w 4 [4, 7, 8, 9, 10], .w 5 [5, 6, 7, 8, 9, 10], .o 6, .o 7, .p 8, .p 9, .o 10]) (.s .d .d))))) .d)) (.j [] (.j [.slot 88 .bool] (.q [] [] [.p 0, .w 1 [1, 2, 3, 4, 5, 6, 7, 8, 9, 10, 11, 12], .p 2, .p 3, .p 4, .p 6, .p 7, .p 8, .w 5 [5, 11, 12], .w 9 [9, 10, 11, 12], .p 10, .p 11, .p 12]) (.c (.s .d .d) .d)) (.s .d (.j [.slot 8 (.int .i64), .box 6 kapiAccess] (.s .d (.b (.s .d (.c (.s (.q [] [] [.p 0, .p 1, .p 2, .p 4, .w 3 [3, 6, 7, 8], .w 5 [5, 6, 7, 8], .p 6, .w 7 [7, 8], .p 8]) .d) (.s .d (.c (.q [] [] [.p 0, .p 1, .p 2, .p 4, .p 6, .w 3 [3, 8, 9], .w 5 [5, 8, 9], .w 7 [7, 8, 9], .p 8, .o 9]) (.s .d (.c (.s (.q [] [] [.p 0, .p 1, .p 2, .p 4, .p 6, .p 7, .p 8, .p 10, .p 14, .w 3 [3, 17, 18], .w 5 [5, 17, 18], .w 9 [9, 12, 13, 16, 17, 18], .w 11 [11, 12, 13, 16, 17, 18], .p 12, .w 13 [13, 16, 17, 18], .w 15 [15, 16, 17, 18], .p 16, .p 17, .o 18]) (.s (.q [] [] [.p 0, .p 1, .p 2, .p 4, .w 3 [3, 6, 7, 8], .w 5 [5, 6, 7, 8], .p 6, .w 7 [7, 8], .p 8]) .d)) (.s .d (.c (.s (.q [] [6] [.p 0, .p 1, .p 2, .p 4, .p 8, .w 3 [3, 6, 7, 10, 11, 12], .w 5 [5, 6, 7, 10, 11, 12], .p 6, .w 7 [7, 10, 11, 12], .w 9 [9, 10, 11, 12], .p 10, .p 11, .o 12]) (.s .d (.c (.s (.q [] [] [.p 0, .p 1, .p 2, .p 4, .p 6, .w 3 [3, 8, 9], .w 5 [5, 8, 9], .w 7 [7, 8, 9], .p 8, .o 9]) .d) .d))) .d)))))))))) (.s (.q [] [] [.p 0, .p 1, .p 2, .p 3, .w 4 [4, 7, 8, 9, 10], .w 5 [5, 6, 7, 8, 9, 10], .o 6, .o 7, .p 8, .p 9, .o 10]) (.s .d .d))))))))

def ref3_store.M  (addr1 : Int) (v2 : Int) (h3 : Heap) (Q : Den kref3Want → Heap → Prop) : Prop :=
    Q (1, (addr1, (v2, (0, (0, (0, ())))))) h3
def ref3_store.mk : Mk := (.s (.r [0]) (.s .d .d))

def ref3_Stage_begin.j1 (s1 : Option Addr) (i2 : Int) (Q : Bool → Heap → Prop) (s7 : ((Int × (Int × (Int × (Int × (Sl × (Bool × Unit)))))) × (Den kapiCall × Unit))) (h8 : Heap) : Prop :=
    deref s1 fun a9 =>
    deref s1 fun a10 =>
    ld (.sl : Kd) h8 (a9.add 5) fun t11 =>
    ld (.sl : Kd) h8 ((a10.add 6).add 0) fun t12 =>
    (0 ≤ i2 ∧ i2 < (t11.len : Int)) ∧
    deref t11.a fun a13 =>
    st ((.int .i64) : Kd) h8 ((a13.add ((i2 : Int).toNat * 7)).add 0) (t12.len : Int) fun h14 =>
    deref s1 fun a15 =>
    ld (.sl : Kd) h14 (a15.add 5) fun t16 =>
    (0 ≤ i2 ∧ i2 < (t16.len : Int)) ∧
    deref t16.a fun a17 =>
    st kref3Op h14 ((a17.add ((i2 : Int).toNat * 7)).add 1) (s7.1.1, ((s7.1.2.1, (s7.1.2.2.1, ())), (s7.1.2.2.2.1, (s7.1.2.2.2.2.1, (s7.1.2.2.2.2.2.1, ()))))) fun h18 =>
    deref s1 fun a19 =>
    ld (.sl : Kd) h18 ((a19.add 6).add 0) fun t20 =>
    new h18 (([(s7.2.1.1, (s7.2.1.2.1, (s7.2.1.2.2.1, (s7.2.1.2.2.2.1, (s7.2.1.2.2.2.2.1, (s7.2.1.2.2.2.2.2.1, (s7.2.1.2.2.2.2.2.2.1, ())))))))] : List (Den kapiCall)).flatMap (Kd.cells kapiCall)) fun p21 h22 =>
    appendM 7 56 h22 t20 ⟨some p21, 1, 1⟩ fun t23 h24 =>
    deref s1 fun a25 =>
    st (.sl : Kd) h24 ((a25.add 6).add 0) t23 fun h26 =>
    Q true h26
def ref3_Stage_begin.M  (s1 : Option Addr) (i2 : Int) (n3 : Int) (h4 : Heap) (Q : Bool → Heap → Prop) : Prop :=
    deref s1 fun a5 =>
    ld kapiTodo h4 (a5.add 1) fun t6 =>
    (((decide (i2 = 0)) = true →
    deref s1 fun a27 =>
    deref s1 fun a28 =>
    ld ((.int .i64) : Kd) h4 (a27.add 4) fun t29 =>
    ld (.sl : Kd) h4 (a28.add 3) fun t30 =>
    (((decide ((t30.len : Int) ≤ t29)) = true →
    Q false h4) ∧
    ((decide ((t30.len : Int) ≤ t29)) = false →
    deref s1 fun a31 =>
    deref s1 fun a32 =>
    ld (.sl : Kd) h4 (a31.add 3) fun t33 =>
    ld ((.int .i64) : Kd) h4 (a32.add 4) fun t34 =>
    (0 ≤ t34 ∧ t34 < (t33.len : Int)) ∧
    deref t33.a fun a35 =>
    ld kapiTodo h4 (a35.add ((t34 : Int).toNat * 2)) fun t36 =>
    deref s1 fun a37 =>
    ld ((.int .i64) : Kd) h4 (a37.add 4) fun t38 =>
    deref s1 fun a39 =>
    st ((.int .i64) : Kd) h4 (a39.add 4) (w64 (t38 + 1)) fun h40 =>
    (((decide (t36.1 = 0)) = true →
    ref3_Stage_begin.j1 s1 i2 Q ((t36.1, (t6.1, (t6.2.1, (t36.2.1, (Sl.none, (false, ())))))), (i2, (t36.1, (t36.2.1, (n3, ((-1), (0, (0, ()))))))), ()) h40) ∧
    ((decide (t36.1 = 0)) = false →
    ref3_Stage_begin.j1 s1 i2 Q ((t36.1, (t6.1, (t6.2.1, (0, (Sl.none, (false, ())))))), (i2, (t36.1, (0, (n3, ((-1), (0, (0, ()))))))), ()) h40))))) ∧
    ((decide (i2 = 0)) = false →
    ref3_Stage_begin.j1 s1 i2 Q ((2, (t6.1, (t6.2.1, (0, (Sl.none, (false, ())))))), (i2, (2, (0, (n3, ((-1), (0, (0, ()))))))), ()) h4))
def ref3_Stage_begin.mk : Mk := (.s .d (.s (.r [5]) (.s (.r [3]) (.j [.box 7 (.pair (.int .i64) (.pair (.int .i64) (.pair (.int .i64) (.pair (.int .i64) (.pair .sl (.pair .bool .nil)))))), .box 8 kapiCall] (.s .d (.c (.s (.s (.q [] [] [.p 0, .p 1, .p 2, .p 4, .p 5, .p 6, .w 3 [3, 9], .w 7 [7, 8, 9], .p 8, .p 9]) (.c (.s .d .d) .d)) (.s (.q [10] [9] [.p 0, .p 1, .p 2, .p 4, .p 5, .p 6, .w 3 [3, 8, 9, 11], .w 7 [7, 8, 9, 11], .p 8, .w 9 [9, 11], .o 10, .o 11]) (.s .d (.s .d (.s .d (.s .d (.c (.s .d .d) .d))))))) .d)) (.s (.q [] [] [.p 0, .p 1, .p 2, .p 4, .p 5, .p 6, .p 7, .p 8, .w 3 [3, 11, 12, 13], .w 9 [9, 10, 11, 12, 13], .p 10, .p 11, .p 12, .o 13]) (.s (.q [] [] [.p 0, .p 1, .p 2, .p 4, .w 3 [3, 6, 7, 8], .w 5 [5, 6, 7, 8], .p 6, .p 7, .o 8]) (.s (.q [] [] [.p 0, .p 1, .p 2, .p 3, .p 4, .w 5 [5, 8, 9, 10, 11, 12], .w 6 [6, 7, 8, 9, 10, 11, 12], .o 7, .o 8, .p 9, .p 10, .p 11, .o 12]) (.s .d .d))))))))

def ref3_Step.M (c_ref3_Next : Den kref3Op → Heap → (Den kref3Want → Heap → Prop) → Prop) (c_ref3_Mem_Do : Option Addr → Den kref3Want → Heap → ((Int × (Bool × Unit)) → Heap → Prop) → Prop) (m1 : Option Addr) (o2 : Den kref3Op) (h3 : Heap) (Q : Den kref3Op → Heap → Prop) : Prop :=
    c_ref3_Next (o2.1, ((o2.2.1.1, (o2.2.1.2.1, ())), (o2.2.2.1, (o2.2.2.2.1, (o2.2.2.2.2.1, ()))))) h3 fun r4 h5 =>
    (((decide (r4.1 < 0)) = true →
    Q (o2.1, ((o2.2.1.1, (o2.2.1.2.1, ())), (o2.2.2.1, (o2.2.2.2.1, (o2.2.2.2.2.1, ()))))) h5) ∧
    ((decide (r4.1 < 0)) = false →
    c_ref3_Mem_Do m1 (r4.1, (r4.2.1, (r4.2.2.1, (r4.2.2.2.1, (r4.2.2.2.2.1, (r4.2.2.2.2.2.1, ())))))) h5 fun r6 h7 =>
    (((!r6.2.1) = true →
    Q (o2.1, ((o2.2.1.1, (o2.2.1.2.1, ())), (o2.2.2.1, (o2.2.2.2.1, (true, ()))))) h7) ∧
    ((!r6.2.1) = false →
    new h7 (([] : List (Den ((.int .i64) : Kd))).flatMap (Kd.cells ((.int .i64) : Kd))) fun p8 h9 =>
    appendM 1 8 h9 ⟨some p8, 0, 0⟩ o2.2.2.2.1 fun t10 h11 =>
    new h11 (([r6.1] : List (Den ((.int .i64) : Kd))).flatMap (Kd.cells ((.int .i64) : Kd))) fun p12 h13 =>
    appendM 1 8 h13 t10 ⟨some p12, 1, 1⟩ fun t14 h15 =>
    Q (o2.1, ((o2.2.1.1, (o2.2.1.2.1, ())), (o2.2.2.1, (t14, (o2.2.2.2.2.1, ()))))) h15))))
def ref3_Step.mk : Mk := (.s (.r [0, 1]) (.s (.r [2]) (.s (.s .d (.c (.s .d .d) .d)) (.s .d (.s (.s .d (.c (.s .d (.s .d .d)) .d)) (.s .d (.s .d (.s .d (.s .d .d)))))))))

def ref3_Answer.M (c_ref3_Next : Den kref3Op → Heap → (Den kref3Want → Heap → Prop) → Prop) (o1 : Den kref3Op) (h2 : Heap) (Q : Den kapiTodo → Heap → Prop) : Prop :=
    c_ref3_Next (o1.1, ((o1.2.1.1, (o1.2.1.2.1, ())), (o1.2.2.1, (o1.2.2.2.1, (o1.2.2.2.2.1, ()))))) h2 fun r3 h4 =>
    (((decide ((0 : Int) ≤ r3.1)) = true →
    Q (0, 0, ()) h4) ∧
    ((decide ((0 : Int) ≤ r3.1)) = false →
    Q (r3.2.2.2.2.1, r3.2.2.2.2.2.1, ()) h4))
def ref3_Answer.mk : Mk := (.s (.r [0]) (.s (.r [2]) (.s (.s .d (.c (.s .d .d) .d)) (.s (.q [] [] [.p 0, .p 2, .w 1 [1, 4, 5], .p 4, .w 3 [3, 5], .p 5]) .d))))

def ref3_at.M (c_ref3_Mod : Int → Int → Heap → (Int → Heap → Prop) → Prop) (a1 : Int) (c2 : Int) (i3 : Int) (h4 : Heap) (Q : Int → Heap → Prop) : Prop :=
    c_ref3_Mod i3 c2 h4 fun r5 h6 =>
    Q (w64 ((w64 (a1 + 1)) + r5)) h6
def ref3_at.mk : Mk := (.s .d (.s .d .d))

def deque_Steal.M (c_deque_begin : Int → Int → Den kapiTodo → Int → Heap → (Den kdequeOp → Heap → Prop) → Prop) (d1 : Den kapiTodo) (h2 : Heap) (Q : Den kdequeOp → Heap → Prop) : Prop :=
    c_deque_begin 3 2 (d1.1, (d1.2.1, ())) 0 h2 fun r3 h4 =>
    Q (r3.1, (r3.2.1, ((r3.2.2.1.1, (r3.2.2.1.2.1, ())), (r3.2.2.2.1, (r3.2.2.2.2.1, (r3.2.2.2.2.2.1, (r3.2.2.2.2.2.2.1, (r3.2.2.2.2.2.2.2.1, (r3.2.2.2.2.2.2.2.2.1, (r3.2.2.2.2.2.2.2.2.2.1, (r3.2.2.2.2.2.2.2.2.2.2.1, (r3.2.2.2.2.2.2.2.2.2.2.2.1, (r3.2.2.2.2.2.2.2.2.2.2.2.2.1, (r3.2.2.2.2.2.2.2.2.2.2.2.2.2.1, (r3.2.2.2.2.2.2.2.2.2.2.2.2.2.2.1, ()))))))))))))))) h4
def deque_Steal.mk : Mk := (.s (.r [0, 1]) (.s .d .d))

def deque_Push.M (c_deque_begin : Int → Int → Den kapiTodo → Int → Heap → (Den kdequeOp → Heap → Prop) → Prop) (d1 : Den kapiTodo) (v2 : Int) (h3 : Heap) (Q : Den kdequeOp → Heap → Prop) : Prop :=
    c_deque_begin 1 1 (d1.1, (d1.2.1, ())) v2 h3 fun r4 h5 =>
    Q (r4.1, (r4.2.1, ((r4.2.2.1.1, (r4.2.2.1.2.1, ())), (r4.2.2.2.1, (r4.2.2.2.2.1, (r4.2.2.2.2.2.1, (r4.2.2.2.2.2.2.1, (r4.2.2.2.2.2.2.2.1, (r4.2.2.2.2.2.2.2.2.1, (r4.2.2.2.2.2.2.2.2.2.1, (r4.2.2.2.2.2.2.2.2.2.2.1, (r4.2.2.2.2.2.2.2.2.2.2.2.1, (r4.2.2.2.2.2.2.2.2.2.2.2.2.1, (r4.2.2.2.2.2.2.2.2.2.2.2.2.2.1, (r4.2.2.2.2.2.2.2.2.2.2.2.2.2.2.1, ()))))))))))))))) h5
def deque_Push.mk : Mk := (.s (.r [0, 1]) (.s .d .d))

def deque_Pop.M (c_deque_begin : Int → Int → Den kapiTodo → Int → Heap → (Den kdequeOp → Heap → Prop) → Prop) (d1 : Den kapiTodo) (h2 : Heap) (Q : Den kdequeOp → Heap → Prop) : Prop :=
    c_deque_begin 2 1 (d1.1, (d1.2.1, ())) 0 h2 fun r3 h4 =>
    Q (r3.1, (r3.2.1, ((r3.2.2.1.1, (r3.2.2.1.2.1, ())), (r3.2.2.2.1, (r3.2.2.2.2.1, (r3.2.2.2.2.2.1, (r3.2.2.2.2.2.2.1, (r3.2.2.2.2.2.2.2.1, (r3.2.2.2.2.2.2.2.2.1, (r3.2.2.2.2.2.2.2.2.2.1, (r3.2.2.2.2.2.2.2.2.2.2.1, (r3.2.2.2.2.2.2.2.2.2.2.2.1, (r3.2.2.2.2.2.2.2.2.2.2.2.2.1, (r3.2.2.2.2.2.2.2.2.2.2.2.2.2.1, (r3.2.2.2.2.2.2.2.2.2.2.2.2.2.2.1, ()))))))))))))))) h4
def deque_Pop.mk : Mk := (.s (.r [0, 1]) (.s .d .d))

def deque_Op_over.M  (o1 : Den kdequeOp) (code2 : Int) (v3 : Int) (h4 : Heap) (Q : Den kdequeOp → Heap → Prop) : Prop :=
    Q (o1.1, (0, ((o1.2.2.1.1, (o1.2.2.1.2.1, ())), (o1.2.2.2.1, (o1.2.2.2.2.1, (o1.2.2.2.2.2.1, (o1.2.2.2.2.2.2.1, (o1.2.2.2.2.2.2.2.1, (o1.2.2.2.2.2.2.2.2.1, (o1.2.2.2.2.2.2.2.2.2.1, (o1.2.2.2.2.2.2.2.2.2.2.1, (o1.2.2.2.2.2.2.2.2.2.2.2.1, (o1.2.2.2.2.2.2.2.2.2.2.2.2.1, (code2, (v3, ()))))))))))))))) h4
def deque_Op_over.mk : Mk := (.s (.r [0, 1]) (.s .d (.s .d .d)))

def deque_Op_access.j1 (c_inv_Load : Value → Int → Heap → (Den kapiTodo → Heap → Prop) → Prop) (c_deque_place : Int → Int → Int → Heap → (Int → Heap → Prop) → Prop) (c_nil : Value → Prop) (o1 : Den kdequeOp) (m2 : Value) (Q : Den kapiTodo → Heap → Prop) (s34 : (Int × Unit)) (h35 : Heap) : Prop :=
    c_nil (Value.func (.method "Load") (List.toArray [Kd.val (.iface : Kd) m2]) (List.toArray [])) ∧
    c_deque_place o1.2.2.2.2.2.2.1 o1.2.2.2.2.2.2.2.1 s34.1 h35 fun r36 h37 =>
    c_inv_Load m2 r36 h37 fun r38 h39 =>
    Q (r38.1, r38.2.1, ()) h39
def deque_Op_access.M (c_inv_Load : Value → Int → Heap → (Den kapiTodo → Heap → Prop) → Prop) (c_inv_Reserve : Value → Int → Heap → (Den kapiTodo → Heap → Prop) → Prop) (c_inv_Store : Value → Int → Int → Heap → (Int → Heap → Prop) → Prop) (c_deque_place : Int → Int → Int → Heap → (Int → Heap → Prop) → Prop) (c_deque_Op_next : Den kdequeOp → Heap → (Int → Heap → Prop) → Prop) (c_inv_CAS : Value → Int → Int → Int → Heap → ((Bool × (Int × Unit)) → Heap → Prop) → Prop) (c_nil : Value → Prop) (o1 : Den kdequeOp) (m2 : Value) (h3 : Heap) (Q : Den kapiTodo → Heap → Prop) : Prop :=
    (((decide (o1.2.1 = 1)) = true →
    c_inv_Load m2 (w64 (o1.2.2.1.1 + 1)) h3 fun r4 h5 =>
    Q (r4.1, r4.2.1, ()) h5) ∧
    ((decide (o1.2.1 = 1)) = false →
    (((decide (o1.2.1 = 2)) = true →
    c_inv_Load m2 (w64 (o1.2.2.1.1 + 0)) h3 fun r6 h7 =>
    Q (r6.1, r6.2.1, ()) h7) ∧
    ((decide (o1.2.1 = 2)) = false →
    (((decide (o1.2.1 = 3)) = true →
    c_inv_Load m2 (w64 (o1.2.2.1.1 + 2)) h3 fun r8 h9 =>
    Q (r8.1, r8.2.1, ()) h9) ∧
    ((decide (o1.2.1 = 3)) = false →
    (((decide (o1.2.1 = 4)) = true →
    c_inv_Load m2 o1.2.2.2.2.2.2.1 h3 fun r10 h11 =>
    Q (r10.1, r10.2.1, ()) h11) ∧
    ((decide (o1.2.1 = 4)) = false →
    (((decide (o1.2.1 = 5)) = true →
    c_inv_Reserve m2 (w64 (1 + o1.2.2.2.2.2.2.2.2.2.1)) h3 fun r12 h13 =>
    Q (r12.1, r12.2.1, ()) h13) ∧
    ((decide (o1.2.1 = 5)) = false →
    (((decide (o1.2.1 = 6)) = true →
    c_inv_Store m2 o1.2.2.2.2.2.2.2.2.1 o1.2.2.2.2.2.2.2.2.2.1 h3 fun r14 h15 =>
    Q (0, r14, ()) h15) ∧
    ((decide (o1.2.1 = 6)) = false →
    (((decide (o1.2.1 = 7)) = true →
    c_nil (Value.func (.method "Load") (List.toArray [Kd.val (.iface : Kd) m2]) (List.toArray [])) ∧
    c_deque_place o1.2.2.2.2.2.2.1 o1.2.2.2.2.2.2.2.1 o1.2.2.2.2.2.2.2.2.2.2.1 h3 fun r16 h17 =>
    c_inv_Load m2 r16 h17 fun r18 h19 =>
    Q (r18.1, r18.2.1, ()) h19) ∧
    ((decide (o1.2.1 = 7)) = false →
    (((decide (o1.2.1 = 8)) = true →
    c_nil (Value.func (.method "Store") (List.toArray [Kd.val (.iface : Kd) m2]) (List.toArray [])) ∧
    c_deque_place o1.2.2.2.2.2.2.2.2.1 o1.2.2.2.2.2.2.2.2.2.1 o1.2.2.2.2.2.2.2.2.2.2.1 h3 fun r20 h21 =>
    c_inv_Store m2 r20 o1.2.2.2.2.2.2.2.2.2.2.2.1 h21 fun r22 h23 =>
    Q (0, r22, ()) h23) ∧
    ((decide (o1.2.1 = 8)) = false →
    (((decide (o1.2.1 = 9)) = true →
    c_inv_Store m2 (w64 (o1.2.2.1.1 + 2)) o1.2.2.2.2.2.2.2.2.1 h3 fun r24 h25 =>
    Q (0, r24, ()) h25) ∧
    ((decide (o1.2.1 = 9)) = false →
    (((decide (o1.2.1 = 10)) = true →
    c_nil (Value.func (.method "Store") (List.toArray [Kd.val (.iface : Kd) m2]) (List.toArray [])) ∧
    c_deque_place o1.2.2.2.2.2.2.1 o1.2.2.2.2.2.2.2.1 o1.2.2.2.2.2.1 h3 fun r26 h27 =>
    c_inv_Store m2 r26 o1.2.2.2.1 h27 fun r28 h29 =>
    Q (0, r28, ()) h29) ∧
    ((decide (o1.2.1 = 10)) = false →
    (((decide (o1.2.1 = 11)) = true →
    c_nil (Value.func (.method "Store") (List.toArray [Kd.val (.iface : Kd) m2]) (List.toArray [])) ∧
    c_deque_Op_next (o1.1, (o1.2.1, ((o1.2.2.1.1, (o1.2.2.1.2.1, ())), (o1.2.2.2.1, (o1.2.2.2.2.1, (o1.2.2.2.2.2.1, (o1.2.2.2.2.2.2.1, (o1.2.2.2.2.2.2.2.1, (o1.2.2.2.2.2.2.2.2.1, (o1.2.2.2.2.2.2.2.2.2.1, (o1.2.2.2.2.2.2.2.2.2.2.1, (o1.2.2.2.2.2.2.2.2.2.2.2.1, (o1.2.2.2.2.2.2.2.2.2.2.2.2.1, (o1.2.2.2.2.2.2.2.2.2.2.2.2.2.1, (o1.2.2.2.2.2.2.2.2.2.2.2.2.2.2.1, ()))))))))))))))) h3 fun r30 h31 =>
    c_inv_Store m2 (w64 (o1.2.2.1.1 + 1)) r30 h31 fun r32 h33 =>
    Q (0, r32, ()) h33) ∧
    ((decide (o1.2.1 = 11)) = false →
    (((decide (o1.2.1 = 12)) = true →
    (((decide (o1.1 = 2)) = true →
    deque_Op_access.j1 c_inv_Load c_deque_place c_nil o1 m2 Q (o1.2.2.2.2.2.1, ()) h3) ∧
    ((decide (o1.1 = 2)) = false →
    deque_Op_access.j1 c_inv_Load c_deque_place c_nil o1 m2 Q (o1.2.2.2.2.1, ()) h3))) ∧
    ((decide (o1.2.1 = 12)) = false →
    c_inv_CAS m2 (w64 (o1.2.2.1.1 + 0)) o1.2.2.2.2.1 (w64 (o1.2.2.2.2.1 + 1)) h3 fun r40 h41 =>
    ((r40.1 = true →
    Q (1, r40.2.1, ()) h41) ∧
    (r40.1 = false →
    Q (0, r40.2.1, ()) h41))))))))))))))))))))))))))
def deque_Op_access.mk : Mk := (.s (.r [0]) (.s .d (.s (.s .d (.b (.s .d (.c (.s .d .d) (.s .d (.c (.s .d .d) (.s .d (.c (.s .d .d) (.s .d (.c (.s .d .d) (.s .d (.c (.s .d (.s .d .d)) (.s .d (.c (.s .d .d) (.s .d (.c (.s (.q [] [] [.p 0, .p 1, .p 3, .p 5, .p 8, .p 9, .p 10, .w 2 [2, 7, 11, 12, 13, 14, 15], .w 4 [4, 7, 11, 12, 13, 14, 15], .w 6 [6, 7, 11, 12, 13, 14, 15], .o 7, .o 11, .p 12, .p 13, .p 14, .p 15]) .d) (.s .d (.c (.s (.q [] [] [.p 0, .p 1, .p 3, .p 5, .p 8, .p 10, .p 11, .p 12, .w 2 [2, 7, 13, 14, 15], .w 4 [4, 7, 13, 14, 15], .w 6 [6, 7, 13, 14, 15], .w 9 [9, 13, 14, 15], .o 7, .o 13, .p 14, .p 15]) .d) (.s .d (.c (.s .d .d) (.s .d (.c (.s (.q [] [] [.p 0, .p 1, .p 3, .p 5, .p 8, .p 10, .p 11, .p 12, .w 2 [2, 7, 13, 14, 15], .w 4 [4, 7, 13, 14, 15], .w 6 [6, 7, 13, 14, 15], .w 9 [9, 13, 14, 15], .o 7, .o 13, .p 14, .p 15]) .d) (.s .d (.c (.s (.q [] [] [.p 0, .p 1, .p 2, .p 5, .p 6, .p 7, .w 3 [3, 4, 8, 9, 10], .o 4, .o 8, .p 9, .p 10]) .d) (.s .d (.c (.s .d (.j [.slot 9 (.int .i64)] (.s .d (.c .d .d)) (.s (.q [] [] [.p 0, .p 1, .p 3, .p 5, .p 7, .p 8, .p 9, .w 2 [2, 6, 10, 11, 12, 13, 14], .w 4 [4, 6, 10, 11, 12, 13, 14], .o 6, .o 10, .p 11, .p 12, .p 13, .p 14]) .d))) .d)))))))))))))))))))))))))) (.s .d (.s (.s .d (.c (.s .d .d) .d)) (.s .d .d))))))

def deque_Op_pushed.j1 (Q : Den kdequeOp → Heap → Prop) (s4 : ((Int × (Int × (Int × (Int × (Int × (Int × (Int × (Int × (Int × (Int × (Int × (Int × (Int × (Bool × Den kapiTodo)))))))))))))) × ((Int × (Int × (Int × (Int × (Int × (Int × (Int × (Int × (Int × (Int × (Int × (Int × (Int × (Bool × Den kapiTodo)))))))))))))) × Unit))) (h5 : Heap) : Prop :=
    Q (s4.1.1, (s4.1.2.1, ((s4.1.2.2.1, (s4.1.2.2.2.1, ())), (s4.1.2.2.2.2.1, (s4.1.2.2.2.2.2.1, (s4.1.2.2.2.2.2.2.1, (s4.1.2.2.2.2.2.2.2.1, (s4.1.2.2.2.2.2.2.2.2.1, (s4.1.2.2.2.2.2.2.2.2.2.1, (s4.1.2.2.2.2.2.2.2.2.2.2.1, (s4.1.2.2.2.2.2.2.2.2.2.2.2.1, (s4.1.2.2.2.2.2.2.2.2.2.2.2.2.1, (s4.1.2.2.2.2.2.2.2.2.2.2.2.2.2.1, (s4.1.2.2.2.2.2.2.2.2.2.2.2.2.2.2.1, (s4.1.2.2.2.2.2.2.2.2.2.2.2.2.2.2.2.1, ()))))))))))))))) h5
def deque_Op_pushed.M (c_deque_Op_over : Den kdequeOp → Int → Int → Heap → (Den kdequeOp → Heap → Prop) → Prop) (o1 : Den kdequeOp) (got2 : Int) (h3 : Heap) (Q : Den kdequeOp → Heap → Prop) : Prop :=
    (((decide (o1.2.1 = 1)) = true →
    deque_Op_pushed.j1 Q ((o1.1, (2, (o1.2.2.1.1, (o1.2.2.1.2.1, (o1.2.2.2.1, (o1.2.2.2.2.1, (got2, (o1.2.2.2.2.2.2.1, (o1.2.2.2.2.2.2.2.1, (o1.2.2.2.2.2.2.2.2.1, (o1.2.2.2.2.2.2.2.2.2.1, (o1.2.2.2.2.2.2.2.2.2.2.1, (o1.2.2.2.2.2.2.2.2.2.2.2.1, (o1.2.2.2.2.2.2.2.2.2.2.2.2.1, (o1.2.2.2.2.2.2.2.2.2.2.2.2.2.1, (o1.2.2.2.2.2.2.2.2.2.2.2.2.2.2.1, ())))))))))))))))), (0, (0, (0, (0, (0, (0, (0, (0, (0, (0, (0, (0, (0, (false, (0, (0, ())))))))))))))))), ()) h3) ∧
    ((decide (o1.2.1 = 1)) = false →
    (((decide (o1.2.1 = 2)) = true →
    deque_Op_pushed.j1 Q ((o1.1, (3, (o1.2.2.1.1, (o1.2.2.1.2.1, (o1.2.2.2.1, (got2, (o1.2.2.2.2.2.1, (o1.2.2.2.2.2.2.1, (o1.2.2.2.2.2.2.2.1, (o1.2.2.2.2.2.2.2.2.1, (o1.2.2.2.2.2.2.2.2.2.1, (o1.2.2.2.2.2.2.2.2.2.2.1, (o1.2.2.2.2.2.2.2.2.2.2.2.1, (o1.2.2.2.2.2.2.2.2.2.2.2.2.1, (o1.2.2.2.2.2.2.2.2.2.2.2.2.2.1, (o1.2.2.2.2.2.2.2.2.2.2.2.2.2.2.1, ())))))))))))))))), (0, (0, (0, (0, (0, (0, (0, (0, (0, (0, (0, (0, (0, (false, (0, (0, ())))))))))))))))), ()) h3) ∧
    ((decide (o1.2.1 = 2)) = false →
    (((decide (o1.2.1 = 3)) = true →
    deque_Op_pushed.j1 Q ((o1.1, (4, (o1.2.2.1.1, (o1.2.2.1.2.1, (o1.2.2.2.1, (o1.2.2.2.2.1, (o1.2.2.2.2.2.1, (got2, (o1.2.2.2.2.2.2.2.1, (o1.2.2.2.2.2.2.2.2.1, (o1.2.2.2.2.2.2.2.2.2.1, (o1.2.2.2.2.2.2.2.2.2.2.1, (o1.2.2.2.2.2.2.2.2.2.2.2.1, (o1.2.2.2.2.2.2.2.2.2.2.2.2.1, (o1.2.2.2.2.2.2.2.2.2.2.2.2.2.1, (o1.2.2.2.2.2.2.2.2.2.2.2.2.2.2.1, ())))))))))))))))), (0, (0, (0, (0, (0, (0, (0, (0, (0, (0, (0, (0, (0, (false, (0, (0, ())))))))))))))))), ()) h3) ∧
    ((decide (o1.2.1 = 3)) = false →
    (((decide (o1.2.1 = 4)) = true →
    (((decide (got2 < 1)) = true →
    c_deque_Op_over (o1.1, (10, ((o1.2.2.1.1, (o1.2.2.1.2.1, ())), (o1.2.2.2.1, (o1.2.2.2.2.1, (o1.2.2.2.2.2.1, (o1.2.2.2.2.2.2.1, (got2, (o1.2.2.2.2.2.2.2.2.1, (o1.2.2.2.2.2.2.2.2.2.1, (o1.2.2.2.2.2.2.2.2.2.2.1, (o1.2.2.2.2.2.2.2.2.2.2.2.1, (o1.2.2.2.2.2.2.2.2.2.2.2.2.1, (o1.2.2.2.2.2.2.2.2.2.2.2.2.2.1, (o1.2.2.2.2.2.2.2.2.2.2.2.2.2.2.1, ()))))))))))))))) 1 0 h3 fun r6 h7 =>
    Q (r6.1, (r6.2.1, ((r6.2.2.1.1, (r6.2.2.1.2.1, ())), (r6.2.2.2.1, (r6.2.2.2.2.1, (r6.2.2.2.2.2.1, (r6.2.2.2.2.2.2.1, (r6.2.2.2.2.2.2.2.1, (r6.2.2.2.2.2.2.2.2.1, (r6.2.2.2.2.2.2.2.2.2.1, (r6.2.2.2.2.2.2.2.2.2.2.1, (r6.2.2.2.2.2.2.2.2.2.2.2.1, (r6.2.2.2.2.2.2.2.2.2.2.2.2.1, (r6.2.2.2.2.2.2.2.2.2.2.2.2.2.1, (r6.2.2.2.2.2.2.2.2.2.2.2.2.2.2.1, ()))))))))))))))) h7) ∧
    ((decide (got2 < 1)) = false →
    (((decide ((w64 (o1.2.2.2.2.2.1 - o1.2.2.2.2.1)) < got2)) = true →
    deque_Op_pushed.j1 Q ((o1.1, (10, (o1.2.2.1.1, (o1.2.2.1.2.1, (o1.2.2.2.1, (o1.2.2.2.2.1, (o1.2.2.2.2.2.1, (o1.2.2.2.2.2.2.1, (got2, (o1.2.2.2.2.2.2.2.2.1, (o1.2.2.2.2.2.2.2.2.2.1, (o1.2.2.2.2.2.2.2.2.2.2.1, (o1.2.2.2.2.2.2.2.2.2.2.2.1, (o1.2.2.2.2.2.2.2.2.2.2.2.2.1, (o1.2.2.2.2.2.2.2.2.2.2.2.2.2.1, (o1.2.2.2.2.2.2.2.2.2.2.2.2.2.2.1, ())))))))))))))))), (0, (0, (0, (0, (0, (0, (0, (0, (0, (0, (0, (0, (0, (false, (0, (0, ())))))))))))))))), ()) h3) ∧
    ((decide ((w64 (o1.2.2.2.2.2.1 - o1.2.2.2.2.1)) < got2)) = false →
    (((decide (o1.2.2.1.2.1 ≤ got2)) = true →
    c_deque_Op_over (o1.1, (10, ((o1.2.2.1.1, (o1.2.2.1.2.1, ())), (o1.2.2.2.1, (o1.2.2.2.2.1, (o1.2.2.2.2.2.1, (o1.2.2.2.2.2.2.1, (got2, (o1.2.2.2.2.2.2.2.2.1, (o1.2.2.2.2.2.2.2.2.2.1, (o1.2.2.2.2.2.2.2.2.2.2.1, (o1.2.2.2.2.2.2.2.2.2.2.2.1, (o1.2.2.2.2.2.2.2.2.2.2.2.2.1, (o1.2.2.2.2.2.2.2.2.2.2.2.2.2.1, (o1.2.2.2.2.2.2.2.2.2.2.2.2.2.2.1, ()))))))))))))))) 3 0 h3 fun r8 h9 =>
    Q (r8.1, (r8.2.1, ((r8.2.2.1.1, (r8.2.2.1.2.1, ())), (r8.2.2.2.1, (r8.2.2.2.2.1, (r8.2.2.2.2.2.1, (r8.2.2.2.2.2.2.1, (r8.2.2.2.2.2.2.2.1, (r8.2.2.2.2.2.2.2.2.1, (r8.2.2.2.2.2.2.2.2.2.1, (r8.2.2.2.2.2.2.2.2.2.2.1, (r8.2.2.2.2.2.2.2.2.2.2.2.1, (r8.2.2.2.2.2.2.2.2.2.2.2.2.1, (r8.2.2.2.2.2.2.2.2.2.2.2.2.2.1, (r8.2.2.2.2.2.2.2.2.2.2.2.2.2.2.1, ()))))))))))))))) h9) ∧
    ((decide (o1.2.2.1.2.1 ≤ got2)) = false →
    deque_Op_pushed.j1 Q ((o1.1, (5, (o1.2.2.1.1, (o1.2.2.1.2.1, (o1.2.2.2.1, (o1.2.2.2.2.1, (o1.2.2.2.2.2.1, (o1.2.2.2.2.2.2.1, (got2, (o1.2.2.2.2.2.2.2.2.1, ((if o1.2.2.1.2.1 < (w64 (2 * got2)) then o1.2.2.1.2.1 else (w64 (2 * got2))), (o1.2.2.2.2.2.2.2.2.2.2.1, (o1.2.2.2.2.2.2.2.2.2.2.2.1, (o1.2.2.2.2.2.2.2.2.2.2.2.2.1, (o1.2.2.2.2.2.2.2.2.2.2.2.2.2.1, (o1.2.2.2.2.2.2.2.2.2.2.2.2.2.2.1, ())))))))))))))))), (0, (0, (0, (0, (0, (0, (0, (0, (0, (0, (0, (0, (0, (false, (0, (0, ())))))))))))))))), ()) h3))))))) ∧
    ((decide (o1.2.1 = 4)) = false →
    (((decide (o1.2.1 = 5)) = true →
    deque_Op_pushed.j1 Q ((o1.1, (6, (o1.2.2.1.1, (o1.2.2.1.2.1, (o1.2.2.2.1, (o1.2.2.2.2.1, (o1.2.2.2.2.2.1, (o1.2.2.2.2.2.2.1, (o1.2.2.2.2.2.2.2.1, (got2, (o1.2.2.2.2.2.2.2.2.2.1, (o1.2.2.2.2.2.2.2.2.2.2.1, (o1.2.2.2.2.2.2.2.2.2.2.2.1, (o1.2.2.2.2.2.2.2.2.2.2.2.2.1, (o1.2.2.2.2.2.2.2.2.2.2.2.2.2.1, (o1.2.2.2.2.2.2.2.2.2.2.2.2.2.2.1, ())))))))))))))))), (0, (0, (0, (0, (0, (0, (0, (0, (0, (0, (0, (0, (0, (false, (0, (0, ())))))))))))))))), ()) h3) ∧
    ((decide (o1.2.1 = 5)) = false →
    (((decide (o1.2.1 = 6)) = true →
    deque_Op_pushed.j1 Q ((o1.1, (7, (o1.2.2.1.1, (o1.2.2.1.2.1, (o1.2.2.2.1, (o1.2.2.2.2.1, (o1.2.2.2.2.2.1, (o1.2.2.2.2.2.2.1, (o1.2.2.2.2.2.2.2.1, (o1.2.2.2.2.2.2.2.2.1, (o1.2.2.2.2.2.2.2.2.2.1, (o1.2.2.2.2.1, (o1.2.2.2.2.2.2.2.2.2.2.2.1, (o1.2.2.2.2.2.2.2.2.2.2.2.2.1, (o1.2.2.2.2.2.2.2.2.2.2.2.2.2.1, (o1.2.2.2.2.2.2.2.2.2.2.2.2.2.2.1, ())))))))))))))))), (0, (0, (0, (0, (0, (0, (0, (0, (0, (0, (0, (0, (0, (false, (0, (0, ())))))))))))))))), ()) h3) ∧
    ((decide (o1.2.1 = 6)) = false →
    (((decide (o1.2.1 = 7)) = true →
    deque_Op_pushed.j1 Q ((o1.1, (8, (o1.2.2.1.1, (o1.2.2.1.2.1, (o1.2.2.2.1, (o1.2.2.2.2.1, (o1.2.2.2.2.2.1, (o1.2.2.2.2.2.2.1, (o1.2.2.2.2.2.2.2.1, (o1.2.2.2.2.2.2.2.2.1, (o1.2.2.2.2.2.2.2.2.2.1, (o1.2.2.2.2.2.2.2.2.2.2.1, (got2, (o1.2.2.2.2.2.2.2.2.2.2.2.2.1, (o1.2.2.2.2.2.2.2.2.2.2.2.2.2.1, (o1.2.2.2.2.2.2.2.2.2.2.2.2.2.2.1, ())))))))))))))))), (0, (0, (0, (0, (0, (0, (0, (0, (0, (0, (0, (0, (0, (false, (0, (0, ())))))))))))))))), ()) h3) ∧
    ((decide (o1.2.1 = 7)) = false →
    (((decide (o1.2.1 = 8)) = true →
    (((decide ((w64 (o1.2.2.2.2.2.2.2.2.2.2.1 + 1)) = o1.2.2.2.2.2.1)) = true →
    deque_Op_pushed.j1 Q ((o1.1, (9, (o1.2.2.1.1, (o1.2.2.1.2.1, (o1.2.2.2.1, (o1.2.2.2.2.1, (o1.2.2.2.2.2.1, (o1.2.2.2.2.2.2.1, (o1.2.2.2.2.2.2.2.1, (o1.2.2.2.2.2.2.2.2.1, (o1.2.2.2.2.2.2.2.2.2.1, ((w64 (o1.2.2.2.2.2.2.2.2.2.2.1 + 1)), (o1.2.2.2.2.2.2.2.2.2.2.2.1, (o1.2.2.2.2.2.2.2.2.2.2.2.2.1, (o1.2.2.2.2.2.2.2.2.2.2.2.2.2.1, (o1.2.2.2.2.2.2.2.2.2.2.2.2.2.2.1, ())))))))))))))))), (0, (0, (0, (0, (0, (0, (0, (0, (0, (0, (0, (0, (0, (false, (0, (0, ())))))))))))))))), ()) h3) ∧
    ((decide ((w64 (o1.2.2.2.2.2.2.2.2.2.2.1 + 1)) = o1.2.2.2.2.2.1)) = false →
    deque_Op_pushed.j1 Q ((o1.1, (7, (o1.2.2.1.1, (o1.2.2.1.2.1, (o1.2.2.2.1, (o1.2.2.2.2.1, (o1.2.2.2.2.2.1, (o1.2.2.2.2.2.2.1, (o1.2.2.2.2.2.2.2.1, (o1.2.2.2.2.2.2.2.2.1, (o1.2.2.2.2.2.2.2.2.2.1, ((w64 (o1.2.2.2.2.2.2.2.2.2.2.1 + 1)), (o1.2.2.2.2.2.2.2.2.2.2.2.1, (o1.2.2.2.2.2.2.2.2.2.2.2.2.1, (o1.2.2.2.2.2.2.2.2.2.2.2.2.2.1, (o1.2.2.2.2.2.2.2.2.2.2.2.2.2.2.1, ())))))))))))))))), (0, (0, (0, (0, (0, (0, (0, (0, (0, (0, (0, (0, (0, (false, (0, (0, ())))))))))))))))), ()) h3))) ∧
    ((decide (o1.2.1 = 8)) = false →
    (((decide (o1.2.1 = 9)) = true →
    deque_Op_pushed.j1 Q ((o1.1, (10, (o1.2.2.1.1, (o1.2.2.1.2.1, (o1.2.2.2.1, (o1.2.2.2.2.1, (o1.2.2.2.2.2.1, (o1.2.2.2.2.2.2.2.2.1, (o1.2.2.2.2.2.2.2.2.2.1, (o1.2.2.2.2.2.2.2.2.1, (o1.2.2.2.2.2.2.2.2.2.1, (o1.2.2.2.2.2.2.2.2.2.2.1, (o1.2.2.2.2.2.2.2.2.2.2.2.1, (o1.2.2.2.2.2.2.2.2.2.2.2.2.1, (o1.2.2.2.2.2.2.2.2.2.2.2.2.2.1, (o1.2.2.2.2.2.2.2.2.2.2.2.2.2.2.1, ())))))))))))))))), (0, (0, (0, (0, (0, (0, (0, (0, (0, (0, (0, (0, (0, (false, (0, (0, ())))))))))))))))), ()) h3) ∧
    ((decide (o1.2.1 = 9)) = false →
    (((decide (o1.2.1 = 10)) = true →
    deque_Op_pushed.j1 Q ((o1.1, (11, (o1.2.2.1.1, (o1.2.2.1.2.1, (o1.2.2.2.1, (o1.2.2.2.2.1, (o1.2.2.2.2.2.1, (o1.2.2.2.2.2.2.1, (o1.2.2.2.2.2.2.2.1, (o1.2.2.2.2.2.2.2.2.1, (o1.2.2.2.2.2.2.2.2.2.1, (o1.2.2.2.2.2.2.2.2.2.2.1, (o1.2.2.2.2.2.2.2.2.2.2.2.1, (o1.2.2.2.2.2.2.2.2.2.2.2.2.1, (o1.2.2.2.2.2.2.2.2.2.2.2.2.2.1, (o1.2.2.2.2.2.2.2.2.2.2.2.2.2.2.1, ())))))))))))))))), (0, (0, (0, (0, (0, (0, (0, (0, (0, (0, (0, (0, (0, (false, (0, (0, ())))))))))))))))), ()) h3) ∧
    ((decide (o1.2.1 = 10)) = false →
    (((decide (o1.2.1 = 11)) = true →
    c_deque_Op_over (o1.1, (o1.2.1, ((o1.2.2.1.1, (o1.2.2.1.2.1, ())), (o1.2.2.2.1, (o1.2.2.2.2.1, (o1.2.2.2.2.2.1, (o1.2.2.2.2.2.2.1, (o1.2.2.2.2.2.2.2.1, (o1.2.2.2.2.2.2.2.2.1, (o1.2.2.2.2.2.2.2.2.2.1, (o1.2.2.2.2.2.2.2.2.2.2.1, (o1.2.2.2.2.2.2.2.2.2.2.2.1, (o1.2.2.2.2.2.2.2.2.2.2.2.2.1, (o1.2.2.2.2.2.2.2.2.2.2.2.2.2.1, (o1.2.2.2.2.2.2.2.2.2.2.2.2.2.2.1, ()))))))))))))))) 2 0 h3 fun r10 h11 =>
    Q (r10.1, (r10.2.1, ((r10.2.2.1.1, (r10.2.2.1.2.1, ())), (r10.2.2.2.1, (r10.2.2.2.2.1, (r10.2.2.2.2.2.1, (r10.2.2.2.2.2.2.1, (r10.2.2.2.2.2.2.2.1, (r10.2.2.2.2.2.2.2.2.1, (r10.2.2.2.2.2.2.2.2.2.1, (r10.2.2.2.2.2.2.2.2.2.2.1, (r10.2.2.2.2.2.2.2.2.2.2.2.1, (r10.2.2.2.2.2.2.2.2.2.2.2.2.1, (r10.2.2.2.2.2.2.2.2.2.2.2.2.2.1, (r10.2.2.2.2.2.2.2.2.2.2.2.2.2.2.1, ()))))))))))))))) h11) ∧
    ((decide (o1.2.1 = 11)) = false →
    deque_Op_pushed.j1 Q ((o1.1, (o1.2.1, (o1.2.2.1.1, (o1.2.2.1.2.1, (o1.2.2.2.1, (o1.2.2.2.2.1, (o1.2.2.2.2.2.1, (o1.2.2.2.2.2.2.1, (o1.2.2.2.2.2.2.2.1, (o1.2.2.2.2.2.2.2.2.1, (o1.2.2.2.2.2.2.2.2.2.1, (o1.2.2.2.2.2.2.2.2.2.2.1, (o1.2.2.2.2.2.2.2.2.2.2.2.1, (o1.2.2.2.2.2.2.2.2.2.2.2.2.1, (o1.2.2.2.2.2.2.2.2.2.2.2.2.2.1, (o1.2.2.2.2.2.2.2.2.2.2.2.2.2.2.1, ())))))))))))))))), (0, (0, (0, (0, (0, (0, (0, (0, (0, (0, (0, (0, (0, (false, (0, (0, ())))))))))))))))), ()) h3))))))))))))))))))))))
def deque_Op_pushed.mk : Mk := (.s (.r [0, 1]) (.j [.box 2 (.pair (.int .i64) (.pair (.int .i64) (.pair (.int .i64) (.pair (.int .i64) (.pair (.int .i64) (.pair (.int .i64) (.pair (.int .i64) (.pair (.int .i64) (.pair (.int .i64) (.pair (.int .i64) (.pair (.int .i64) (.pair (.int .i64) (.pair (.int .i64) (.pair .bool kapiTodo)))))))))))))), .box 4 (.pair (.int .i64) (.pair (.int .i64) (.pair (.int .i64) (.pair (.int .i64) (.pair (.int .i64) (.pair (.int .i64) (.pair (.int .i64) (.pair (.int .i64) (.pair (.int .i64) (.pair (.int .i64) (.pair (.int .i64) (.pair (.int .i64) (.pair (.int .i64) (.pair .bool kapiTodo))))))))))))))] (.s .d (.b (.s .d (.c .d (.s .d (.c .d (.s .d (.c .d (.s .d (.c (.s .d (.b (.s .d (.c (.s .d .d) (.s .d (.c .d (.s .d (.c (.s .d .d) .d)))))))) (.s .d (.c .d (.s .d (.c .d (.s .d (.c .d (.s .d (.c (.s .d (.s .d (.s .d (.c .d .d)))) (.s .d (.c .d (.s .d (.c .d (.s .d (.c (.s .d .d) .d)))))))))))))))))))))))) (.s .d .d)))

def deque_Op_popped.j1 (Q : Den kdequeOp → Heap → Prop) (s4 : ((Int × (Int × (Int × (Int × (Int × (Int × (Int × (Int × (Int × (Int × (Int × (Int × (Int × (Bool × Den kapiTodo)))))))))))))) × ((Int × (Int × (Int × (Int × (Int × (Int × (Int × (Int × (Int × (Int × (Int × (Int × (Int × (Bool × Den kapiTodo)))))))))))))) × Unit))) (h5 : Heap) : Prop :=
    Q (s4.1.1, (s4.1.2.1, ((s4.1.2.2.1, (s4.1.2.2.2.1, ())), (s4.1.2.2.2.2.1, (s4.1.2.2.2.2.2.1, (s4.1.2.2.2.2.2.2.1, (s4.1.2.2.2.2.2.2.2.1, (s4.1.2.2.2.2.2.2.2.2.1, (s4.1.2.2.2.2.2.2.2.2.2.1, (s4.1.2.2.2.2.2.2.2.2.2.2.1, (s4.1.2.2.2.2.2.2.2.2.2.2.2.1, (s4.1.2.2.2.2.2.2.2.2.2.2.2.2.1, (s4.1.2.2.2.2.2.2.2.2.2.2.2.2.2.1, (s4.1.2.2.2.2.2.2.2.2.2.2.2.2.2.2.1, (s4.1.2.2.2.2.2.2.2.2.2.2.2.2.2.2.2.1, ()))))))))))))))) h5
def deque_Op_popped.M (c_deque_Op_over : Den kdequeOp → Int → Int → Heap → (Den kdequeOp → Heap → Prop) → Prop) (o1 : Den kdequeOp) (got2 : Int) (h3 : Heap) (Q : Den kdequeOp → Heap → Prop) : Prop :=
    (((decide (o1.2.1 = 1)) = true →
    deque_Op_popped.j1 Q ((o1.1, (3, (o1.2.2.1.1, (o1.2.2.1.2.1, (o1.2.2.2.1, (o1.2.2.2.2.1, ((w64 (got2 - 1)), (o1.2.2.2.2.2.2.1, (o1.2.2.2.2.2.2.2.1, (o1.2.2.2.2.2.2.2.2.1, (o1.2.2.2.2.2.2.2.2.2.1, (o1.2.2.2.2.2.2.2.2.2.2.1, (o1.2.2.2.2.2.2.2.2.2.2.2.1, (o1.2.2.2.2.2.2.2.2.2.2.2.2.1, (o1.2.2.2.2.2.2.2.2.2.2.2.2.2.1, (o1.2.2.2.2.2.2.2.2.2.2.2.2.2.2.1, ())))))))))))))))), (0, (0, (0, (0, (0, (0, (0, (0, (0, (0, (0, (0, (0, (false, (0, (0, ())))))))))))))))), ()) h3) ∧
    ((decide (o1.2.1 = 1)) = false →
    (((decide (o1.2.1 = 3)) = true →
    deque_Op_popped.j1 Q ((o1.1, (11, (o1.2.2.1.1, (o1.2.2.1.2.1, (o1.2.2.2.1, (o1.2.2.2.2.1, (o1.2.2.2.2.2.1, (got2, (o1.2.2.2.2.2.2.2.1, (o1.2.2.2.2.2.2.2.2.1, (o1.2.2.2.2.2.2.2.2.2.1, (o1.2.2.2.2.2.2.2.2.2.2.1, (o1.2.2.2.2.2.2.2.2.2.2.2.1, (o1.2.2.2.2.2.2.2.2.2.2.2.2.1, (o1.2.2.2.2.2.2.2.2.2.2.2.2.2.1, (o1.2.2.2.2.2.2.2.2.2.2.2.2.2.2.1, ())))))))))))))))), (0, (0, (0, (0, (0, (0, (0, (0, (0, (0, (0, (0, (0, (false, (0, (0, ())))))))))))))))), ()) h3) ∧
    ((decide (o1.2.1 = 3)) = false →
    (((decide (o1.2.1 = 11)) = true →
    (((decide (o1.2.2.2.2.2.2.2.2.2.2.1 = 0)) = true →
    deque_Op_popped.j1 Q ((o1.1, (2, (o1.2.2.1.1, (o1.2.2.1.2.1, (o1.2.2.2.1, (o1.2.2.2.2.1, (o1.2.2.2.2.2.1, (o1.2.2.2.2.2.2.1, (o1.2.2.2.2.2.2.2.1, (o1.2.2.2.2.2.2.2.2.1, (o1.2.2.2.2.2.2.2.2.2.1, (o1.2.2.2.2.2.2.2.2.2.2.1, (o1.2.2.2.2.2.2.2.2.2.2.2.1, (o1.2.2.2.2.2.2.2.2.2.2.2.2.1, (o1.2.2.2.2.2.2.2.2.2.2.2.2.2.1, (o1.2.2.2.2.2.2.2.2.2.2.2.2.2.2.1, ())))))))))))))))), (0, (0, (0, (0, (0, (0, (0, (0, (0, (0, (0, (0, (0, (false, (0, (0, ())))))))))))))))), ()) h3) ∧
    ((decide (o1.2.2.2.2.2.2.2.2.2.2.1 = 0)) = false →
    ((o1.2.2.2.2.2.2.2.2.2.2.2.2.1 = true →
    c_deque_Op_over (o1.1, (o1.2.1, ((o1.2.2.1.1, (o1.2.2.1.2.1, ())), (o1.2.2.2.1, (o1.2.2.2.2.1, (o1.2.2.2.2.2.1, (o1.2.2.2.2.2.2.1, (o1.2.2.2.2.2.2.2.1, (o1.2.2.2.2.2.2.2.2.1, (o1.2.2.2.2.2.2.2.2.2.1, (o1.2.2.2.2.2.2.2.2.2.2.1, (o1.2.2.2.2.2.2.2.2.2.2.2.1, (o1.2.2.2.2.2.2.2.2.2.2.2.2.1, (o1.2.2.2.2.2.2.2.2.2.2.2.2.2.1, (o1.2.2.2.2.2.2.2.2.2.2.2.2.2.2.1, ()))))))))))))))) 4 o1.2.2.2.2.2.2.2.2.2.2.2.1 h3 fun r6 h7 =>
    Q (r6.1, (r6.2.1, ((r6.2.2.1.1, (r6.2.2.1.2.1, ())), (r6.2.2.2.1, (r6.2.2.2.2.1, (r6.2.2.2.2.2.1, (r6.2.2.2.2.2.2.1, (r6.2.2.2.2.2.2.2.1, (r6.2.2.2.2.2.2.2.2.1, (r6.2.2.2.2.2.2.2.2.2.1, (r6.2.2.2.2.2.2.2.2.2.2.1, (r6.2.2.2.2.2.2.2.2.2.2.2.1, (r6.2.2.2.2.2.2.2.2.2.2.2.2.1, (r6.2.2.2.2.2.2.2.2.2.2.2.2.2.1, (r6.2.2.2.2.2.2.2.2.2.2.2.2.2.2.1, ()))))))))))))))) h7) ∧
    (o1.2.2.2.2.2.2.2.2.2.2.2.2.1 = false →
    c_deque_Op_over (o1.1, (o1.2.1, ((o1.2.2.1.1, (o1.2.2.1.2.1, ())), (o1.2.2.2.1, (o1.2.2.2.2.1, (o1.2.2.2.2.2.1, (o1.2.2.2.2.2.2.1, (o1.2.2.2.2.2.2.2.1, (o1.2.2.2.2.2.2.2.2.1, (o1.2.2.2.2.2.2.2.2.2.1, (o1.2.2.2.2.2.2.2.2.2.2.1, (o1.2.2.2.2.2.2.2.2.2.2.2.1, (o1.2.2.2.2.2.2.2.2.2.2.2.2.1, (o1.2.2.2.2.2.2.2.2.2.2.2.2.2.1, (o1.2.2.2.2.2.2.2.2.2.2.2.2.2.2.1, ()))))))))))))))) 5 0 h3 fun r8 h9 =>
    Q (r8.1, (r8.2.1, ((r8.2.2.1.1, (r8.2.2.1.2.1, ())), (r8.2.2.2.1, (r8.2.2.2.2.1, (r8.2.2.2.2.2.1, (r8.2.2.2.2.2.2.1, (r8.2.2.2.2.2.2.2.1, (r8.2.2.2.2.2.2.2.2.1, (r8.2.2.2.2.2.2.2.2.2.1, (r8.2.2.2.2.2.2.2.2.2.2.1, (r8.2.2.2.2.2.2.2.2.2.2.2.1, (r8.2.2.2.2.2.2.2.2.2.2.2.2.1, (r8.2.2.2.2.2.2.2.2.2.2.2.2.2.1, (r8.2.2.2.2.2.2.2.2.2.2.2.2.2.2.1, ()))))))))))))))) h9))))) ∧
    ((decide (o1.2.1 = 11)) = false →
    (((decide (o1.2.1 = 2)) = true →
    (((decide (o1.2.2.2.2.2.1 < got2)) = true →
    deque_Op_popped.j1 Q ((o1.1, (11, (o1.2.2.1.1, (o1.2.2.1.2.1, (o1.2.2.2.1, (got2, (o1.2.2.2.2.2.1, (o1.2.2.2.2.2.2.1, (o1.2.2.2.2.2.2.2.1, (o1.2.2.2.2.2.2.2.2.1, (o1.2.2.2.2.2.2.2.2.2.1, (1, (o1.2.2.2.2.2.2.2.2.2.2.2.1, (o1.2.2.2.2.2.2.2.2.2.2.2.2.1, (o1.2.2.2.2.2.2.2.2.2.2.2.2.2.1, (o1.2.2.2.2.2.2.2.2.2.2.2.2.2.2.1, ())))))))))))))))), (0, (0, (0, (0, (0, (0, (0, (0, (0, (0, (0, (0, (0, (false, (0, (0, ())))))))))))))))), ()) h3) ∧
    ((decide (o1.2.2.2.2.2.1 < got2)) = false →
    deque_Op_popped.j1 Q ((o1.1, (4, (o1.2.2.1.1, (o1.2.2.1.2.1, (o1.2.2.2.1, (got2, (o1.2.2.2.2.2.1, (o1.2.2.2.2.2.2.1, (o1.2.2.2.2.2.2.2.1, (o1.2.2.2.2.2.2.2.2.1, (o1.2.2.2.2.2.2.2.2.2.1, (1, (o1.2.2.2.2.2.2.2.2.2.2.2.1, (o1.2.2.2.2.2.2.2.2.2.2.2.2.1, (o1.2.2.2.2.2.2.2.2.2.2.2.2.2.1, (o1.2.2.2.2.2.2.2.2.2.2.2.2.2.2.1, ())))))))))))))))), (0, (0, (0, (0, (0, (0, (0, (0, (0, (0, (0, (0, (0, (false, (0, (0, ())))))))))))))))), ()) h3))) ∧
    ((decide (o1.2.1 = 2)) = false →
    (((decide (o1.2.1 = 4)) = true →
    (((decide (got2 < 1)) = true →
    c_deque_Op_over (o1.1, (12, ((o1.2.2.1.1, (o1.2.2.1.2.1, ())), (o1.2.2.2.1, (o1.2.2.2.2.1, (o1.2.2.2.2.2.1, (o1.2.2.2.2.2.2.1, (got2, (o1.2.2.2.2.2.2.2.2.1, (o1.2.2.2.2.2.2.2.2.2.1, (o1.2.2.2.2.2.2.2.2.2.2.1, (o1.2.2.2.2.2.2.2.2.2.2.2.1, (o1.2.2.2.2.2.2.2.2.2.2.2.2.1, (o1.2.2.2.2.2.2.2.2.2.2.2.2.2.1, (o1.2.2.2.2.2.2.2.2.2.2.2.2.2.2.1, ()))))))))))))))) 1 0 h3 fun r10 h11 =>
    Q (r10.1, (r10.2.1, ((r10.2.2.1.1, (r10.2.2.1.2.1, ())), (r10.2.2.2.1, (r10.2.2.2.2.1, (r10.2.2.2.2.2.1, (r10.2.2.2.2.2.2.1, (r10.2.2.2.2.2.2.2.1, (r10.2.2.2.2.2.2.2.2.1, (r10.2.2.2.2.2.2.2.2.2.1, (r10.2.2.2.2.2.2.2.2.2.2.1, (r10.2.2.2.2.2.2.2.2.2.2.2.1, (r10.2.2.2.2.2.2.2.2.2.2.2.2.1, (r10.2.2.2.2.2.2.2.2.2.2.2.2.2.1, (r10.2.2.2.2.2.2.2.2.2.2.2.2.2.2.1, ()))))))))))))))) h11) ∧
    ((decide (got2 < 1)) = false →
    deque_Op_popped.j1 Q ((o1.1, (12, (o1.2.2.1.1, (o1.2.2.1.2.1, (o1.2.2.2.1, (o1.2.2.2.2.1, (o1.2.2.2.2.2.1, (o1.2.2.2.2.2.2.1, (got2, (o1.2.2.2.2.2.2.2.2.1, (o1.2.2.2.2.2.2.2.2.2.1, (o1.2.2.2.2.2.2.2.2.2.2.1, (o1.2.2.2.2.2.2.2.2.2.2.2.1, (o1.2.2.2.2.2.2.2.2.2.2.2.2.1, (o1.2.2.2.2.2.2.2.2.2.2.2.2.2.1, (o1.2.2.2.2.2.2.2.2.2.2.2.2.2.2.1, ())))))))))))))))), (0, (0, (0, (0, (0, (0, (0, (0, (0, (0, (0, (0, (0, (false, (0, (0, ())))))))))))))))), ()) h3))) ∧
    ((decide (o1.2.1 = 4)) = false →
    (((decide (o1.2.1 = 12)) = true →
    (((decide (o1.2.2.2.2.1 < o1.2.2.2.2.2.1)) = true →
    c_deque_Op_over (o1.1, (13, ((o1.2.2.1.1, (o1.2.2.1.2.1, ())), (o1.2.2.2.1, (o1.2.2.2.2.1, (o1.2.2.2.2.2.1, (o1.2.2.2.2.2.2.1, (o1.2.2.2.2.2.2.2.1, (o1.2.2.2.2.2.2.2.2.1, (o1.2.2.2.2.2.2.2.2.2.1, (o1.2.2.2.2.2.2.2.2.2.2.1, (got2, (o1.2.2.2.2.2.2.2.2.2.2.2.2.1, (o1.2.2.2.2.2.2.2.2.2.2.2.2.2.1, (o1.2.2.2.2.2.2.2.2.2.2.2.2.2.2.1, ()))))))))))))))) 4 got2 h3 fun r12 h13 =>
    Q (r12.1, (r12.2.1, ((r12.2.2.1.1, (r12.2.2.1.2.1, ())), (r12.2.2.2.1, (r12.2.2.2.2.1, (r12.2.2.2.2.2.1, (r12.2.2.2.2.2.2.1, (r12.2.2.2.2.2.2.2.1, (r12.2.2.2.2.2.2.2.2.1, (r12.2.2.2.2.2.2.2.2.2.1, (r12.2.2.2.2.2.2.2.2.2.2.1, (r12.2.2.2.2.2.2.2.2.2.2.2.1, (r12.2.2.2.2.2.2.2.2.2.2.2.2.1, (r12.2.2.2.2.2.2.2.2.2.2.2.2.2.1, (r12.2.2.2.2.2.2.2.2.2.2.2.2.2.2.1, ()))))))))))))))) h13) ∧
    ((decide (o1.2.2.2.2.1 < o1.2.2.2.2.2.1)) = false →
    deque_Op_popped.j1 Q ((o1.1, (13, (o1.2.2.1.1, (o1.2.2.1.2.1, (o1.2.2.2.1, (o1.2.2.2.2.1, (o1.2.2.2.2.2.1, (o1.2.2.2.2.2.2.1, (o1.2.2.2.2.2.2.2.1, (o1.2.2.2.2.2.2.2.2.1, (o1.2.2.2.2.2.2.2.2.2.1, (o1.2.2.2.2.2.2.2.2.2.2.1, (got2, (o1.2.2.2.2.2.2.2.2.2.2.2.2.1, (o1.2.2.2.2.2.2.2.2.2.2.2.2.2.1, (o1.2.2.2.2.2.2.2.2.2.2.2.2.2.2.1, ())))))))))))))))), (0, (0, (0, (0, (0, (0, (0, (0, (0, (0, (0, (0, (0, (false, (0, (0, ())))))))))))))))), ()) h3))) ∧
    ((decide (o1.2.1 = 12)) = false →
    (((decide (o1.2.1 = 13)) = true →
    deque_Op_popped.j1 Q ((o1.1, (11, (o1.2.2.1.1, (o1.2.2.1.2.1, (o1.2.2.2.1, (o1.2.2.2.2.1, (o1.2.2.2.2.2.1, (o1.2.2.2.2.2.2.1, (o1.2.2.2.2.2.2.2.1, (o1.2.2.2.2.2.2.2.2.1, (o1.2.2.2.2.2.2.2.2.2.1, (o1.2.2.2.2.2.2.2.2.2.2.1, (o1.2.2.2.2.2.2.2.2.2.2.2.1, ((decide (got2 = 1)), (o1.2.2.2.2.2.2.2.2.2.2.2.2.2.1, (o1.2.2.2.2.2.2.2.2.2.2.2.2.2.2.1, ())))))))))))))))), (0, (0, (0, (0, (0, (0, (0, (0, (0, (0, (0, (0, (0, (false, (0, (0, ())))))))))))))))), ()) h3) ∧
    ((decide (o1.2.1 = 13)) = false →
    deque_Op_popped.j1 Q ((o1.1, (o1.2.1, (o1.2.2.1.1, (o1.2.2.1.2.1, (o1.2.2.2.1, (o1.2.2.2.2.1, (o1.2.2.2.2.2.1, (o1.2.2.2.2.2.2.1, (o1.2.2.2.2.2.2.2.1, (o1.2.2.2.2.2.2.2.2.1, (o1.2.2.2.2.2.2.2.2.2.1, (o1.2.2.2.2.2.2.2.2.2.2.1, (o1.2.2.2.2.2.2.2.2.2.2.2.1, (o1.2.2.2.2.2.2.2.2.2.2.2.2.1, (o1.2.2.2.2.2.2.2.2.2.2.2.2.2.1, (o1.2.2.2.2.2.2.2.2.2.2.2.2.2.2.1, ())))))))))))))))), (0, (0, (0, (0, (0, (0, (0, (0, (0, (0, (0, (0, (0, (false, (0, (0, ())))))))))))))))), ()) h3))))))))))))))
def deque_Op_popped.mk : Mk := (.s (.r [0, 1]) (.j [.box 2 (.pair (.int .i64) (.pair (.int .i64) (.pair (.int .i64) (.pair (.int .i64) (.pair (.int .i64) (.pair (.int .i64) (.pair (.int .i64) (.pair (.int .i64) (.pair (.int .i64) (.pair (.int .i64) (.pair (.int .i64) (.pair (.int .i64) (.pair (.int .i64) (.pair .bool kapiTodo)))))))))))))), .box 4 (.pair (.int .i64) (.pair (.int .i64) (.pair (.int .i64) (.pair (.int .i64) (.pair (.int .i64) (.pair (.int .i64) (.pair (.int .i64) (.pair (.int .i64) (.pair (.int .i64) (.pair (.int .i64) (.pair (.int .i64) (.pair (.int .i64) (.pair (.int .i64) (.pair .bool kapiTodo))))))))))))))] (.s .d (.b (.s .d (.c .d (.s .d (.c .d (.s .d (.c (.b (.s .d (.c .d (.s .d (.c (.s .d .d) (.s .d .d)))))) (.s .d (.c (.s .d (.s .d (.c .d .d))) (.s .d (.c (.s .d (.s .d (.c (.s .d .d) .d))) (.s .d (.c (.s .d (.s .d (.c (.s .d .d) .d))) (.s .d (.c .d .d)))))))))))))))) (.s .d .d)))

def deque_Op_stolen.j1 (Q : Den kdequeOp → Heap → Prop) (s4 : ((Int × (Int × (Int × (Int × (Int × (Int × (Int × (Int × (Int × (Int × (Int × (Int × (Int × (Bool × Den kapiTodo)))))))))))))) × ((Int × (Int × (Int × (Int × (Int × (Int × (Int × (Int × (Int × (Int × (Int × (Int × (Int × (Bool × Den kapiTodo)))))))))))))) × Unit))) (h5 : Heap) : Prop :=
    Q (s4.1.1, (s4.1.2.1, ((s4.1.2.2.1, (s4.1.2.2.2.1, ())), (s4.1.2.2.2.2.1, (s4.1.2.2.2.2.2.1, (s4.1.2.2.2.2.2.2.1, (s4.1.2.2.2.2.2.2.2.1, (s4.1.2.2.2.2.2.2.2.2.1, (s4.1.2.2.2.2.2.2.2.2.2.1, (s4.1.2.2.2.2.2.2.2.2.2.2.1, (s4.1.2.2.2.2.2.2.2.2.2.2.2.1, (s4.1.2.2.2.2.2.2.2.2.2.2.2.2.1, (s4.1.2.2.2.2.2.2.2.2.2.2.2.2.2.1, (s4.1.2.2.2.2.2.2.2.2.2.2.2.2.2.2.1, (s4.1.2.2.2.2.2.2.2.2.2.2.2.2.2.2.2.1, ()))))))))))))))) h5
def deque_Op_stolen.M (c_deque_Op_over : Den kdequeOp → Int → Int → Heap → (Den kdequeOp → Heap → Prop) → Prop) (o1 : Den kdequeOp) (got2 : Int) (h3 : Heap) (Q : Den kdequeOp → Heap → Prop) : Prop :=
    (((decide (o1.2.1 = 2)) = true →
    deque_Op_stolen.j1 Q ((o1.1, (1, (o1.2.2.1.1, (o1.2.2.1.2.1, (o1.2.2.2.1, (got2, (o1.2.2.2.2.2.1, (o1.2.2.2.2.2.2.1, (o1.2.2.2.2.2.2.2.1, (o1.2.2.2.2.2.2.2.2.1, (o1.2.2.2.2.2.2.2.2.2.1, (o1.2.2.2.2.2.2.2.2.2.2.1, (o1.2.2.2.2.2.2.2.2.2.2.2.1, (o1.2.2.2.2.2.2.2.2.2.2.2.2.1, (o1.2.2.2.2.2.2.2.2.2.2.2.2.2.1, (o1.2.2.2.2.2.2.2.2.2.2.2.2.2.2.1, ())))))))))))))))), (0, (0, (0, (0, (0, (0, (0, (0, (0, (0, (0, (0, (0, (false, (0, (0, ())))))))))))))))), ()) h3) ∧
    ((decide (o1.2.1 = 2)) = false →
    (((decide (o1.2.1 = 1)) = true →
    (((decide (got2 ≤ o1.2.2.2.2.1)) = true →
    c_deque_Op_over (o1.1, (3, ((o1.2.2.1.1, (o1.2.2.1.2.1, ())), (o1.2.2.2.1, (o1.2.2.2.2.1, (got2, (o1.2.2.2.2.2.2.1, (o1.2.2.2.2.2.2.2.1, (o1.2.2.2.2.2.2.2.2.1, (o1.2.2.2.2.2.2.2.2.2.1, (o1.2.2.2.2.2.2.2.2.2.2.1, (o1.2.2.2.2.2.2.2.2.2.2.2.1, (o1.2.2.2.2.2.2.2.2.2.2.2.2.1, (o1.2.2.2.2.2.2.2.2.2.2.2.2.2.1, (o1.2.2.2.2.2.2.2.2.2.2.2.2.2.2.1, ()))))))))))))))) 5 0 h3 fun r6 h7 =>
    Q (r6.1, (r6.2.1, ((r6.2.2.1.1, (r6.2.2.1.2.1, ())), (r6.2.2.2.1, (r6.2.2.2.2.1, (r6.2.2.2.2.2.1, (r6.2.2.2.2.2.2.1, (r6.2.2.2.2.2.2.2.1, (r6.2.2.2.2.2.2.2.2.1, (r6.2.2.2.2.2.2.2.2.2.1, (r6.2.2.2.2.2.2.2.2.2.2.1, (r6.2.2.2.2.2.2.2.2.2.2.2.1, (r6.2.2.2.2.2.2.2.2.2.2.2.2.1, (r6.2.2.2.2.2.2.2.2.2.2.2.2.2.1, (r6.2.2.2.2.2.2.2.2.2.2.2.2.2.2.1, ()))))))))))))))) h7) ∧
    ((decide (got2 ≤ o1.2.2.2.2.1)) = false →
    deque_Op_stolen.j1 Q ((o1.1, (3, (o1.2.2.1.1, (o1.2.2.1.2.1, (o1.2.2.2.1, (o1.2.2.2.2.1, (got2, (o1.2.2.2.2.2.2.1, (o1.2.2.2.2.2.2.2.1, (o1.2.2.2.2.2.2.2.2.1, (o1.2.2.2.2.2.2.2.2.2.1, (o1.2.2.2.2.2.2.2.2.2.2.1, (o1.2.2.2.2.2.2.2.2.2.2.2.1, (o1.2.2.2.2.2.2.2.2.2.2.2.2.1, (o1.2.2.2.2.2.2.2.2.2.2.2.2.2.1, (o1.2.2.2.2.2.2.2.2.2.2.2.2.2.2.1, ())))))))))))))))), (0, (0, (0, (0, (0, (0, (0, (0, (0, (0, (0, (0, (0, (false, (0, (0, ())))))))))))))))), ()) h3))) ∧
    ((decide (o1.2.1 = 1)) = false →
    (((decide (o1.2.1 = 3)) = true →
    deque_Op_stolen.j1 Q ((o1.1, (4, (o1.2.2.1.1, (o1.2.2.1.2.1, (o1.2.2.2.1, (o1.2.2.2.2.1, (o1.2.2.2.2.2.1, (got2, (o1.2.2.2.2.2.2.2.1, (o1.2.2.2.2.2.2.2.2.1, (o1.2.2.2.2.2.2.2.2.2.1, (o1.2.2.2.2.2.2.2.2.2.2.1, (o1.2.2.2.2.2.2.2.2.2.2.2.1, (o1.2.2.2.2.2.2.2.2.2.2.2.2.1, (o1.2.2.2.2.2.2.2.2.2.2.2.2.2.1, (o1.2.2.2.2.2.2.2.2.2.2.2.2.2.2.1, ())))))))))))))))), (0, (0, (0, (0, (0, (0, (0, (0, (0, (0, (0, (0, (0, (false, (0, (0, ())))))))))))))))), ()) h3) ∧
    ((decide (o1.2.1 = 3)) = false →
    (((decide (o1.2.1 = 4)) = true →
    (((decide (got2 < 1)) = true →
    c_deque_Op_over (o1.1, (12, ((o1.2.2.1.1, (o1.2.2.1.2.1, ())), (o1.2.2.2.1, (o1.2.2.2.2.1, (o1.2.2.2.2.2.1, (o1.2.2.2.2.2.2.1, (got2, (o1.2.2.2.2.2.2.2.2.1, (o1.2.2.2.2.2.2.2.2.2.1, (o1.2.2.2.2.2.2.2.2.2.2.1, (o1.2.2.2.2.2.2.2.2.2.2.2.1, (o1.2.2.2.2.2.2.2.2.2.2.2.2.1, (o1.2.2.2.2.2.2.2.2.2.2.2.2.2.1, (o1.2.2.2.2.2.2.2.2.2.2.2.2.2.2.1, ()))))))))))))))) 1 0 h3 fun r8 h9 =>
    Q (r8.1, (r8.2.1, ((r8.2.2.1.1, (r8.2.2.1.2.1, ())), (r8.2.2.2.1, (r8.2.2.2.2.1, (r8.2.2.2.2.2.1, (r8.2.2.2.2.2.2.1, (r8.2.2.2.2.2.2.2.1, (r8.2.2.2.2.2.2.2.2.1, (r8.2.2.2.2.2.2.2.2.2.1, (r8.2.2.2.2.2.2.2.2.2.2.1, (r8.2.2.2.2.2.2.2.2.2.2.2.1, (r8.2.2.2.2.2.2.2.2.2.2.2.2.1, (r8.2.2.2.2.2.2.2.2.2.2.2.2.2.1, (r8.2.2.2.2.2.2.2.2.2.2.2.2.2.2.1, ()))))))))))))))) h9) ∧
    ((decide (got2 < 1)) = false →
    deque_Op_stolen.j1 Q ((o1.1, (12, (o1.2.2.1.1, (o1.2.2.1.2.1, (o1.2.2.2.1, (o1.2.2.2.2.1, (o1.2.2.2.2.2.1, (o1.2.2.2.2.2.2.1, (got2, (o1.2.2.2.2.2.2.2.2.1, (o1.2.2.2.2.2.2.2.2.2.1, (o1.2.2.2.2.2.2.2.2.2.2.1, (o1.2.2.2.2.2.2.2.2.2.2.2.1, (o1.2.2.2.2.2.2.2.2.2.2.2.2.1, (o1.2.2.2.2.2.2.2.2.2.2.2.2.2.1, (o1.2.2.2.2.2.2.2.2.2.2.2.2.2.2.1, ())))))))))))))))), (0, (0, (0, (0, (0, (0, (0, (0, (0, (0, (0, (0, (0, (false, (0, (0, ())))))))))))))))), ()) h3))) ∧
    ((decide (o1.2.1 = 4)) = false →
    (((decide (o1.2.1 = 12)) = true →
    deque_Op_stolen.j1 Q ((o1.1, (13, (o1.2.2.1.1, (o1.2.2.1.2.1, (o1.2.2.2.1, (o1.2.2.2.2.1, (o1.2.2.2.2.2.1, (o1.2.2.2.2.2.2.1, (o1.2.2.2.2.2.2.2.1, (o1.2.2.2.2.2.2.2.2.1, (o1.2.2.2.2.2.2.2.2.2.1, (o1.2.2.2.2.2.2.2.2.2.2.1, (got2, (o1.2.2.2.2.2.2.2.2.2.2.2.2.1, (o1.2.2.2.2.2.2.2.2.2.2.2.2.2.1, (o1.2.2.2.2.2.2.2.2.2.2.2.2.2.2.1, ())))))))))))))))), (0, (0, (0, (0, (0, (0, (0, (0, (0, (0, (0, (0, (0, (false, (0, (0, ())))))))))))))))), ()) h3) ∧
    ((decide (o1.2.1 = 12)) = false →
    (((decide (o1.2.1 = 13)) = true →
    (((decide (got2 = 1)) = true →
    c_deque_Op_over (o1.1, (o1.2.1, ((o1.2.2.1.1, (o1.2.2.1.2.1, ())), (o1.2.2.2.1, (o1.2.2.2.2.1, (o1.2.2.2.2.2.1, (o1.2.2.2.2.2.2.1, (o1.2.2.2.2.2.2.2.1, (o1.2.2.2.2.2.2.2.2.1, (o1.2.2.2.2.2.2.2.2.2.1, (o1.2.2.2.2.2.2.2.2.2.2.1, (o1.2.2.2.2.2.2.2.2.2.2.2.1, (o1.2.2.2.2.2.2.2.2.2.2.2.2.1, (o1.2.2.2.2.2.2.2.2.2.2.2.2.2.1, (o1.2.2.2.2.2.2.2.2.2.2.2.2.2.2.1, ()))))))))))))))) 4 o1.2.2.2.2.2.2.2.2.2.2.2.1 h3 fun r10 h11 =>
    Q (r10.1, (r10.2.1, ((r10.2.2.1.1, (r10.2.2.1.2.1, ())), (r10.2.2.2.1, (r10.2.2.2.2.1, (r10.2.2.2.2.2.1, (r10.2.2.2.2.2.2.1, (r10.2.2.2.2.2.2.2.1, (r10.2.2.2.2.2.2.2.2.1, (r10.2.2.2.2.2.2.2.2.2.1, (r10.2.2.2.2.2.2.2.2.2.2.1, (r10.2.2.2.2.2.2.2.2.2.2.2.1, (r10.2.2.2.2.2.2.2.2.2.2.2.2.1, (r10.2.2.2.2.2.2.2.2.2.2.2.2.2.1, (r10.2.2.2.2.2.2.2.2.2.2.2.2.2.2.1, ()))))))))))))))) h11) ∧
    ((decide (got2 = 1)) = false →
    c_deque_Op_over (o1.1, (o1.2.1, ((o1.2.2.1.1, (o1.2.2.1.2.1, ())), (o1.2.2.2.1, (o1.2.2.2.2.1, (o1.2.2.2.2.2.1, (o1.2.2.2.2.2.2.1, (o1.2.2.2.2.2.2.2.1, (o1.2.2.2.2.2.2.2.2.1, (o1.2.2.2.2.2.2.2.2.2.1, (o1.2.2.2.2.2.2.2.2.2.2.1, (o1.2.2.2.2.2.2.2.2.2.2.2.1, (o1.2.2.2.2.2.2.2.2.2.2.2.2.1, (o1.2.2.2.2.2.2.2.2.2.2.2.2.2.1, (o1.2.2.2.2.2.2.2.2.2.2.2.2.2.2.1, ()))))))))))))))) 6 0 h3 fun r12 h13 =>
    Q (r12.1, (r12.2.1, ((r12.2.2.1.1, (r12.2.2.1.2.1, ())), (r12.2.2.2.1, (r12.2.2.2.2.1, (r12.2.2.2.2.2.1, (r12.2.2.2.2.2.2.1, (r12.2.2.2.2.2.2.2.1, (r12.2.2.2.2.2.2.2.2.1, (r12.2.2.2.2.2.2.2.2.2.1, (r12.2.2.2.2.2.2.2.2.2.2.1, (r12.2.2.2.2.2.2.2.2.2.2.2.1, (r12.2.2.2.2.2.2.2.2.2.2.2.2.1, (r12.2.2.2.2.2.2.2.2.2.2.2.2.2.1, (r12.2.2.2.2.2.2.2.2.2.2.2.2.2.2.1, ()))))))))))))))) h13))) ∧
    ((decide (o1.2.1 = 13)) = false →
    deque_Op_stolen.j1 Q ((o1.1, (o1.2.1, (o1.2.2.1.1, (o1.2.2.1.2.1, (o1.2.2.2.1, (o1.2.2.2.2.1, (o1.2.2.2.2.2.1, (o1.2.2.2.2.2.2.1, (o1.2.2.2.2.2.2.2.1, (o1.2.2.2.2.2.2.2.2.1, (o1.2.2.2.2.2.2.2.2.2.1, (o1.2.2.2.2.2.2.2.2.2.2.1, (o1.2.2.2.2.2.2.2.2.2.2.2.1, (o1.2.2.2.2.2.2.2.2.2.2.2.2.1, (o1.2.2.2.2.2.2.2.2.2.2.2.2.2.1, (o1.2.2.2.2.2.2.2.2.2.2.2.2.2.2.1, ())))))))))))))))), (0, (0, (0, (0, (0, (0, (0, (0, (0, (0, (0, (0, (0, (false, (0, (0, ())))))))))))))))), ()) h3))))))))))))
def deque_Op_stolen.mk : Mk := (.s (.r [0, 1]) (.j [.box 2 (.pair (.int .i64) (.pair (.int .i64) (.pair (.int .i64) (.pair (.int .i64) (.pair (.int .i64) (.pair (.int .i64) (.pair (.int .i64) (.pair (.int .i64) (.pair (.int .i64) (.pair (.int .i64) (.pair (.int .i64) (.pair (.int .i64) (.pair (.int .i64) (.pair .bool kapiTodo)))))))))))))), .box 4 (.pair (.int .i64) (.pair (.int .i64) (.pair (.int .i64) (.pair (.int .i64) (.pair (.int .i64) (.pair (.int .i64) (.pair (.int .i64) (.pair (.int .i64) (.pair (.int .i64) (.pair (.int .i64) (.pair (.int .i64) (.pair (.int .i64) (.pair (.int .i64) (.pair .bool kapiTodo))))))))))))))] (.s .d (.b (.s .d (.c .d (.s .d (.c (.s .d (.s .d (.c (.s .d .d) .d))) (.s .d (.c .d (.s .d (.c (.s .d (.s .d (.c (.s .d .d) .d))) (.s .d (.c .d (.s .d (.c (.s (.s .d (.c (.s .d .d) .d)) (.s .d .d)) .d)))))))))))))) (.s .d .d)))

def deque_Op_looked.M (c_deque_Op_over : Den kdequeOp → Int → Int → Heap → (Den kdequeOp → Heap → Prop) → Prop) (o1 : Den kdequeOp) (got2 : Int) (h3 : Heap) (Q : Den kdequeOp → Heap → Prop) : Prop :=
    (((decide (o1.2.1 = 2)) = true →
    Q (o1.1, (1, ((o1.2.2.1.1, (o1.2.2.1.2.1, ())), (o1.2.2.2.1, (got2, (o1.2.2.2.2.2.1, (o1.2.2.2.2.2.2.1, (o1.2.2.2.2.2.2.2.1, (o1.2.2.2.2.2.2.2.2.1, (o1.2.2.2.2.2.2.2.2.2.1, (o1.2.2.2.2.2.2.2.2.2.2.1, (o1.2.2.2.2.2.2.2.2.2.2.2.1, (o1.2.2.2.2.2.2.2.2.2.2.2.2.1, (o1.2.2.2.2.2.2.2.2.2.2.2.2.2.1, (o1.2.2.2.2.2.2.2.2.2.2.2.2.2.2.1, ()))))))))))))))) h3) ∧
    ((decide (o1.2.1 = 2)) = false →
    (((decide (o1.2.2.2.2.1 < got2)) = true →
    c_deque_Op_over (o1.1, (o1.2.1, ((o1.2.2.1.1, (o1.2.2.1.2.1, ())), (o1.2.2.2.1, (o1.2.2.2.2.1, (o1.2.2.2.2.2.1, (o1.2.2.2.2.2.2.1, (o1.2.2.2.2.2.2.2.1, (o1.2.2.2.2.2.2.2.2.1, (o1.2.2.2.2.2.2.2.2.2.1, (o1.2.2.2.2.2.2.2.2.2.2.1, (o1.2.2.2.2.2.2.2.2.2.2.2.1, (o1.2.2.2.2.2.2.2.2.2.2.2.2.1, (o1.2.2.2.2.2.2.2.2.2.2.2.2.2.1, (o1.2.2.2.2.2.2.2.2.2.2.2.2.2.2.1, ()))))))))))))))) 7 0 h3 fun r4 h5 =>
    Q (r4.1, (r4.2.1, ((r4.2.2.1.1, (r4.2.2.1.2.1, ())), (r4.2.2.2.1, (r4.2.2.2.2.1, (r4.2.2.2.2.2.1, (r4.2.2.2.2.2.2.1, (r4.2.2.2.2.2.2.2.1, (r4.2.2.2.2.2.2.2.2.1, (r4.2.2.2.2.2.2.2.2.2.1, (r4.2.2.2.2.2.2.2.2.2.2.1, (r4.2.2.2.2.2.2.2.2.2.2.2.1, (r4.2.2.2.2.2.2.2.2.2.2.2.2.1, (r4.2.2.2.2.2.2.2.2.2.2.2.2.2.1, (r4.2.2.2.2.2.2.2.2.2.2.2.2.2.2.1, ()))))))))))))))) h5) ∧
    ((decide (o1.2.2.2.2.1 < got2)) = false →
    c_deque_Op_over (o1.1, (o1.2.1, ((o1.2.2.1.1, (o1.2.2.1.2.1, ())), (o1.2.2.2.1, (o1.2.2.2.2.1, (o1.2.2.2.2.2.1, (o1.2.2.2.2.2.2.1, (o1.2.2.2.2.2.2.2.1, (o1.2.2.2.2.2.2.2.2.1, (o1.2.2.2.2.2.2.2.2.2.1, (o1.2.2.2.2.2.2.2.2.2.2.1, (o1.2.2.2.2.2.2.2.2.2.2.2.1, (o1.2.2.2.2.2.2.2.2.2.2.2.2.1, (o1.2.2.2.2.2.2.2.2.2.2.2.2.2.1, (o1.2.2.2.2.2.2.2.2.2.2.2.2.2.2.1, ()))))))))))))))) 8 0 h3 fun r6 h7 =>
    Q (r6.1, (r6.2.1, ((r6.2.2.1.1, (r6.2.2.1.2.1, ())), (r6.2.2.2.1, (r6.2.2.2.2.1, (r6.2.2.2.2.2.1, (r6.2.2.2.2.2.2.1, (r6.2.2.2.2.2.2.2.1, (r6.2.2.2.2.2.2.2.2.1, (r6.2.2.2.2.2.2.2.2.2.1, (r6.2.2.2.2.2.2.2.2.2.2.1, (r6.2.2.2.2.2.2.2.2.2.2.2.1, (r6.2.2.2.2.2.2.2.2.2.2.2.2.1, (r6.2.2.2.2.2.2.2.2.2.2.2.2.2.1, (r6.2.2.2.2.2.2.2.2.2.2.2.2.2.2.1, ()))))))))))))))) h7))))
def deque_Op_looked.mk : Mk := (.s (.r [0, 1]) (.s (.s .d (.c (.s .d (.s .d .d)) .d)) (.s (.s .d (.c (.s .d .d) .d)) (.s .d .d))))

def ref3_Next.j1 (c_ref3_push : Den kapiTodo → Int → Sl → Heap → (Den kref3Want → Heap → Prop) → Prop) (c_ref3_pop : Den kapiTodo → Sl → Heap → (Den kref3Want → Heap → Prop) → Prop) (c_ref3_steal : Den kapiTodo → Sl → Heap → (Den kref3Want → Heap → Prop) → Prop) (c_ref3_look : Den kapiTodo → Sl → Heap → (Den kref3Want → Heap → Prop) → Prop) (o1 : Den kref3Op) (Q : Den kref3Want → Heap → Prop) (s3 : (Den kref3Want × Unit)) (h4 : Heap) : Prop :=
    (((decide (o1.1 = 0)) = true →
    c_ref3_push (o1.2.1.1, (o1.2.1.2.1, ())) o1.2.2.1 o1.2.2.2.1 h4 fun r5 h6 =>
    Q (r5.1, (r5.2.1, (r5.2.2.1, (r5.2.2.2.1, (r5.2.2.2.2.1, (r5.2.2.2.2.2.1, ())))))) h6) ∧
    ((decide (o1.1 = 0)) = false →
    (((decide (o1.1 = 1)) = true →
    c_ref3_pop (o1.2.1.1, (o1.2.1.2.1, ())) o1.2.2.2.1 h4 fun r7 h8 =>
    Q (r7.1, (r7.2.1, (r7.2.2.1, (r7.2.2.2.1, (r7.2.2.2.2.1, (r7.2.2.2.2.2.1, ())))))) h8) ∧
    ((decide (o1.1 = 1)) = false →
    (((decide (o1.1 = 2)) = true →
    c_ref3_steal (o1.2.1.1, (o1.2.1.2.1, ())) o1.2.2.2.1 h4 fun r9 h10 =>
    Q (r9.1, (r9.2.1, (r9.2.2.1, (r9.2.2.2.1, (r9.2.2.2.2.1, (r9.2.2.2.2.2.1, ())))))) h10) ∧
    ((decide (o1.1 = 2)) = false →
    c_ref3_look (o1.2.1.1, (o1.2.1.2.1, ())) o1.2.2.2.1 h4 fun r11 h12 =>
    Q (r11.1, (r11.2.1, (r11.2.2.1, (r11.2.2.2.1, (r11.2.2.2.2.1, (r11.2.2.2.2.2.1, ())))))) h12))))))
def ref3_Next.j2 (c_ref3_end : Int → Int → Heap → (Den kref3Want → Heap → Prop) → Prop) (c_ref3_push : Den kapiTodo → Int → Sl → Heap → (Den kref3Want → Heap → Prop) → Prop) (c_ref3_pop : Den kapiTodo → Sl → Heap → (Den kref3Want → Heap → Prop) → Prop) (c_ref3_steal : Den kapiTodo → Sl → Heap → (Den kref3Want → Heap → Prop) → Prop) (c_ref3_look : Den kapiTodo → Sl → Heap → (Den kref3Want → Heap → Prop) → Prop) (o1 : Den kref3Op) (Q : Den kref3Want → Heap → Prop) (s13 : (Bool × Unit)) (h14 : Heap) : Prop :=
    ((s13.1 = true →
    c_ref3_end 1 0 h14 fun r15 h16 =>
    Q (r15.1, (r15.2.1, (r15.2.2.1, (r15.2.2.2.1, (r15.2.2.2.2.1, (r15.2.2.2.2.2.1, ())))))) h16) ∧
    (s13.1 = false →
    ref3_Next.j1 c_ref3_push c_ref3_pop c_ref3_steal c_ref3_look o1 Q ((0, (0, (0, (0, (0, (0, ())))))), ()) h14))
def ref3_Next.M (c_ref3_end : Int → Int → Heap → (Den kref3Want → Heap → Prop) → Prop) (c_ref3_push : Den kapiTodo → Int → Sl → Heap → (Den kref3Want → Heap → Prop) → Prop) (c_ref3_pop : Den kapiTodo → Sl → Heap → (Den kref3Want → Heap → Prop) → Prop) (c_ref3_steal : Den kapiTodo → Sl → Heap → (Den kref3Want → Heap → Prop) → Prop) (c_ref3_look : Den kapiTodo → Sl → Heap → (Den kref3Want → Heap → Prop) → Prop) (o1 : Den kref3Op) (h2 : Heap) (Q : Den kref3Want → Heap → Prop) : Prop :=
    ((o1.2.2.2.2.1 = true →
    ref3_Next.j2 c_ref3_end c_ref3_push c_ref3_pop c_ref3_steal c_ref3_look o1 Q (true, ()) h2) ∧
    (o1.2.2.2.2.1 = false →
    (((decide (o1.1 = 4)) = true →
    ref3_Next.j2 c_ref3_end c_ref3_push c_ref3_pop c_ref3_steal c_ref3_look o1 Q (true, ()) h2) ∧
    ((decide (o1.1 = 4)) = false →
    (((decide (o1.2.1.2.1 < 1)) = true →
    ref3_Next.j2 c_ref3_end c_ref3_push c_ref3_pop c_ref3_steal c_ref3_look o1 Q (true, ()) h2) ∧
    ((decide (o1.2.1.2.1 < 1)) = false →
    ref3_Next.j2 c_ref3_end c_ref3_push c_ref3_pop c_ref3_steal c_ref3_look o1 Q ((decide ((4096 : Int) < o1.2.1.2.1)), ()) h2))))))
def ref3_Next.mk : Mk := (.s (.r [0, 1]) (.j [.box 2 kref3Want] (.j [.slot 21 .bool] .d (.c (.s .d .d) .d)) (.s (.s .d (.b (.s .d (.c (.s .d .d) (.s .d (.c (.s .d .d) (.s .d (.c (.s .d .d) .d)))))))) (.s .d .d))))

def deque_begin.j1 (kind1 : Int) (at_2 : Int) (d3 : Den kapiTodo) (v4 : Int) (Q : Den kdequeOp → Heap → Prop) (s6 : ((Int × (Int × (Int × (Int × (Int × (Int × (Int × (Int × (Int × (Int × (Int × (Int × (Int × (Bool × Den kapiTodo)))))))))))))) × Unit)) (h7 : Heap) : Prop :=
    Q (kind1, (at_2, ((d3.1, (d3.2.1, ())), (v4, (0, (0, (0, (0, (0, (0, (0, (0, (false, (0, (0, ()))))))))))))))) h7
def deque_begin.j2 (kind1 : Int) (at_2 : Int) (d3 : Den kapiTodo) (v4 : Int) (Q : Den kdequeOp → Heap → Prop) (s8 : (Bool × Unit)) (h9 : Heap) : Prop :=
    ((s8.1 = true →
    Q (0, (0, ((0, (0, ())), (0, (0, (0, (0, (0, (0, (0, (0, (0, (false, (0, (0, ()))))))))))))))) h9) ∧
    (s8.1 = false →
    deque_begin.j1 kind1 at_2 d3 v4 Q ((0, (0, (0, (0, (0, (0, (0, (0, (0, (0, (0, (0, (0, (false, (0, (0, ())))))))))))))))), ()) h9))
def deque_begin.M  (kind1 : Int) (at_2 : Int) (d3 : Den kapiTodo) (v4 : Int) (h5 : Heap) (Q : Den kdequeOp → Heap → Prop) : Prop :=
    (((decide (d3.2.1 < 1)) = true →
    deque_begin.j2 kind1 at_2 d3 v4 Q (true, ()) h5) ∧
    ((decide (d3.2.1 < 1)) = false →
    deque_begin.j2 kind1 at_2 d3 v4 Q ((decide ((4096 : Int) < d3.2.1)), ()) h5))
def deque_begin.mk : Mk := (.s (.r [0, 1]) (.j [.box 8 (.pair (.int .i64) (.pair (.int .i64) (.pair (.int .i64) (.pair (.int .i64) (.pair (.int .i64) (.pair (.int .i64) (.pair (.int .i64) (.pair (.int .i64) (.pair (.int .i64) (.pair (.int .i64) (.pair (.int .i64) (.pair (.int .i64) (.pair (.int .i64) (.pair .bool kapiTodo))))))))))))))] (.j [.slot 16 .bool] .d (.c (.s .d .d) .d)) (.s .d .d)))

def deque_Op_next.M  (o1 : Den kdequeOp) (h2 : Heap) (Q : Int → Heap → Prop) : Prop :=
    (((decide (o1.1 = 1)) = true →
    Q (w64 (o1.2.2.2.2.2.1 + 1)) h2) ∧
    ((decide (o1.1 = 1)) = false →
    (((decide (o1.2.2.2.2.2.2.2.2.2.2.1 = 0)) = true →
    Q o1.2.2.2.2.2.1 h2) ∧
    ((decide (o1.2.2.2.2.2.2.2.2.2.2.1 = 0)) = false →
    (((decide (o1.2.2.2.2.2.1 < o1.2.2.2.2.1)) = true →
    Q o1.2.2.2.2.1 h2) ∧
    ((decide (o1.2.2.2.2.2.1 < o1.2.2.2.2.1)) = false →
    Q (w64 (o1.2.2.2.2.1 + 1)) h2))))))
def deque_Op_next.mk : Mk := (.s (.r [0]) (.s (.b (.s .d (.c (.s .d .d) (.s .d (.c (.s .d .d) (.s .d (.c (.s .d .d) .d))))))) (.s .d .d)))

def ref3_end.M  (code1 : Int) (v2 : Int) (h3 : Heap) (Q : Den kref3Want → Heap → Prop) : Prop :=
    Q ((-1), (0, (0, (0, (code1, (v2, ())))))) h3
def ref3_end.mk : Mk := (.s (.r [0]) (.s .d .d))

def ref3_push.M (c_ref3_load : Int → Heap → (Den kref3Want → Heap → Prop) → Prop) (c_ref3_end : Int → Int → Heap → (Den kref3Want → Heap → Prop) → Prop) (c_ref3_last : Den kapiTodo → Int → Int → Int → Int → Int → Heap → (Den kref3Want → Heap → Prop) → Prop) (c_ref3_store : Int → Int → Heap → (Den kref3Want → Heap → Prop) → Prop) (c_ref3_at : Int → Int → Int → Heap → (Int → Heap → Prop) → Prop) (d1 : Den kapiTodo) (v2 : Int) (h3 : Sl) (h4 : Heap) (Q : Den kref3Want → Heap → Prop) : Prop :=
    (((decide ((h3.len : Int) = 0)) = true →
    c_ref3_load (w64 (d1.1 + 1)) h4 fun r5 h6 =>
    Q (r5.1, (r5.2.1, (r5.2.2.1, (r5.2.2.2.1, (r5.2.2.2.2.1, (r5.2.2.2.2.2.1, ())))))) h6) ∧
    ((decide ((h3.len : Int) = 0)) = false →
    (((decide ((h3.len : Int) = 1)) = true →
    c_ref3_load d1.1 h4 fun r7 h8 =>
    Q (r7.1, (r7.2.1, (r7.2.2.1, (r7.2.2.2.1, (r7.2.2.2.2.1, (r7.2.2.2.2.2.1, ())))))) h8) ∧
    ((decide ((h3.len : Int) = 1)) = false →
    (((decide ((h3.len : Int) = 2)) = true →
    c_ref3_load (w64 (d1.1 + 2)) h4 fun r9 h10 =>
    Q (r9.1, (r9.2.1, (r9.2.2.1, (r9.2.2.2.1, (r9.2.2.2.2.1, (r9.2.2.2.2.2.1, ())))))) h10) ∧
    ((decide ((h3.len : Int) = 2)) = false →
    (((decide ((h3.len : Int) = 3)) = true →
    (0 ≤ (2 : Int) ∧ (2 : Int) < (h3.len : Int)) ∧
    deref h3.a fun a11 =>
    ld ((.int .i64) : Kd) h4 (a11.add (((2 : Int) : Int).toNat * 1)) fun t12 =>
    c_ref3_load t12 h4 fun r13 h14 =>
    Q (r13.1, (r13.2.1, (r13.2.2.1, (r13.2.2.2.1, (r13.2.2.2.2.1, (r13.2.2.2.2.2.1, ())))))) h14) ∧
    ((decide ((h3.len : Int) = 3)) = false →
    (0 ≤ (0 : Int) ∧ (0 : Int) < (h3.len : Int)) ∧
    deref h3.a fun a15 =>
    (0 ≤ (1 : Int) ∧ (1 : Int) < (h3.len : Int)) ∧
    deref h3.a fun a16 =>
    (0 ≤ (2 : Int) ∧ (2 : Int) < (h3.len : Int)) ∧
    deref h3.a fun a17 =>
    (0 ≤ (3 : Int) ∧ (3 : Int) < (h3.len : Int)) ∧
    deref h3.a fun a18 =>
    ld ((.int .i64) : Kd) h4 (a15.add (((0 : Int) : Int).toNat * 1)) fun t19 =>
    ld ((.int .i64) : Kd) h4 (a16.add (((1 : Int) : Int).toNat * 1)) fun t20 =>
    ld ((.int .i64) : Kd) h4 (a17.add (((2 : Int) : Int).toNat * 1)) fun t21 =>
    ld ((.int .i64) : Kd) h4 (a18.add (((3 : Int) : Int).toNat * 1)) fun t22 =>
    (((decide (t22 < 1)) = true →
    c_ref3_end 1 0 h4 fun r23 h24 =>
    Q (r23.1, (r23.2.1, (r23.2.2.1, (r23.2.2.2.1, (r23.2.2.2.2.1, (r23.2.2.2.2.2.1, ())))))) h24) ∧
    ((decide (t22 < 1)) = false →
    (((decide ((w64 (t19 - t20)) < t22)) = true →
    c_ref3_last (d1.1, (d1.2.1, ())) v2 t21 t22 t19 (w64 ((h3.len : Int) - 4)) h4 fun r25 h26 =>
    Q (r25.1, (r25.2.1, (r25.2.2.1, (r25.2.2.2.1, (r25.2.2.2.2.1, (r25.2.2.2.2.2.1, ())))))) h26) ∧
    ((decide ((w64 (t19 - t20)) < t22)) = false →
    (((decide (d1.2.1 ≤ t22)) = true →
    c_ref3_end 3 0 h4 fun r27 h28 =>
    Q (r27.1, (r27.2.1, (r27.2.2.1, (r27.2.2.2.1, (r27.2.2.2.2.1, (r27.2.2.2.2.2.1, ())))))) h28) ∧
    ((decide (d1.2.1 ≤ t22)) = false →
    (((decide ((h3.len : Int) = 4)) = true →
    Q (4, (0, ((w64 (1 + (if d1.2.1 < (w64 (2 * t22)) then d1.2.1 else (w64 (2 * t22))))), (0, (0, (0, ())))))) h4) ∧
    ((decide ((h3.len : Int) = 4)) = false →
    (0 ≤ (4 : Int) ∧ (4 : Int) < (h3.len : Int)) ∧
    deref h3.a fun a29 =>
    ld ((.int .i64) : Kd) h4 (a29.add (((4 : Int) : Int).toNat * 1)) fun t30 =>
    (((decide ((h3.len : Int) = 5)) = true →
    c_ref3_store t30 (if d1.2.1 < (w64 (2 * t22)) then d1.2.1 else (w64 (2 * t22))) h4 fun r31 h32 =>
    Q (r31.1, (r31.2.1, (r31.2.2.1, (r31.2.2.2.1, (r31.2.2.2.2.1, (r31.2.2.2.2.2.1, ())))))) h32) ∧
    ((decide ((h3.len : Int) = 5)) = false →
    (2 : Int) ≠ 0 ∧
    (((decide ((w64 (Int.tdiv (w64 ((h3.len : Int) - 6)) 2)) < (w64 (t19 - t20)))) = true →
    (2 : Int) ≠ 0 ∧
    (2 : Int) ≠ 0 ∧
    (((decide ((Int.tmod (w64 ((h3.len : Int) - 6)) 2) = 0)) = true →
    c_ref3_at t21 t22 (w64 (t20 + (w64 (Int.tdiv (w64 ((h3.len : Int) - 6)) 2)))) h4 fun r33 h34 =>
    c_ref3_load r33 h34 fun r35 h36 =>
    Q (r35.1, (r35.2.1, (r35.2.2.1, (r35.2.2.2.1, (r35.2.2.2.2.1, (r35.2.2.2.2.2.1, ())))))) h36) ∧
    ((decide ((Int.tmod (w64 ((h3.len : Int) - 6)) 2) = 0)) = false →
    (0 ≤ (w64 ((h3.len : Int) - 1)) ∧ (w64 ((h3.len : Int) - 1)) < (h3.len : Int)) ∧
    deref h3.a fun a37 =>
    ld ((.int .i64) : Kd) h4 (a37.add (((w64 ((h3.len : Int) - 1)) : Int).toNat * 1)) fun t38 =>
    c_ref3_at t30 (if d1.2.1 < (w64 (2 * t22)) then d1.2.1 else (w64 (2 * t22))) (w64 (t20 + (w64 (Int.tdiv (w64 ((h3.len : Int) - 6)) 2)))) h4 fun r39 h40 =>
    sees h40 (some (a37.add (((w64 ((h3.len : Int) - 1)) : Int).toNat * 1))) ((.int .i64) : Kd) t38 ∧
    c_ref3_store r39 t38 h40 fun r41 h42 =>
    Q (r41.1, (r41.2.1, (r41.2.2.1, (r41.2.2.2.1, (r41.2.2.2.2.1, (r41.2.2.2.2.2.1, ())))))) h42))) ∧
    ((decide ((w64 (Int.tdiv (w64 ((h3.len : Int) - 6)) 2)) < (w64 (t19 - t20)))) = false →
    (((decide ((w64 ((h3.len : Int) - 6)) = (w64 (2 * (w64 (t19 - t20)))))) = true →
    c_ref3_store (w64 (d1.1 + 2)) t30 h4 fun r43 h44 =>
    Q (r43.1, (r43.2.1, (r43.2.2.1, (r43.2.2.2.1, (r43.2.2.2.2.1, (r43.2.2.2.2.2.1, ())))))) h44) ∧
    ((decide ((w64 ((h3.len : Int) - 6)) = (w64 (2 * (w64 (t19 - t20)))))) = false →
    c_ref3_last (d1.1, (d1.2.1, ())) v2 t30 (if d1.2.1 < (w64 (2 * t22)) then d1.2.1 else (w64 (2 * t22))) t19 (w64 ((w64 ((w64 ((h3.len : Int) - 6)) - (w64 (2 * (w64 (t19 - t20)))))) - 1)) h4 fun r45 h46 =>
    Q (r45.1, (r45.2.1, (r45.2.2.1, (r45.2.2.2.1, (r45.2.2.2.2.1, (r45.2.2.2.2.2.1, ())))))) h46))))))))))))))))))))))
def ref3_push.mk : Mk := (.s (.r [0, 1]) (.s (.s .d (.b (.s .d (.c (.s .d .d) (.s .d (.c (.s .d .d) (.s .d (.c (.s .d .d) (.s .d (.c (.s .d .d) .d)))))))))) (.s (.q [] [] [.p 0, .p 1, .p 3, .p 4, .p 6, .p 7, .p 9, .p 10, .w 2 [2, 12, 13, 14, 15], .p 12, .w 5 [5, 13, 14, 15], .p 13, .w 8 [8, 14, 15], .p 14, .w 11 [11, 15], .p 15]) (.s (.s .d (.c (.s .d .d) .d)) (.s (.s .d (.c (.s .d .d) .d)) (.s (.s .d (.c (.s .d .d) .d)) (.s .d (.s (.s .d (.c (.s .d .d) .d)) (.s .d (.s (.s .d (.c (.s .d .d) .d)) (.s .d (.s (.s .d (.c (.s .d (.s (.s .d (.c (.s .d .d) .d)) (.s (.q [] [6] [.p 0, .p 1, .p 2, .p 4, .p 5, .p 6, .p 7, .p 8, .w 9 [9, 10, 11], .o 3, .o 10, .o 11]) .d))) .d)) (.s (.s .d (.c (.s .d .d) .d)) (.s .d .d))))))))))))))

def ref3_pop.M (c_ref3_load : Int → Heap → (Den kref3Want → Heap → Prop) → Prop) (c_ref3_store : Int → Int → Heap → (Den kref3Want → Heap → Prop) → Prop) (c_ref3_end : Int → Int → Heap → (Den kref3Want → Heap → Prop) → Prop) (c_ref3_at : Int → Int → Int → Heap → (Int → Heap → Prop) → Prop) (d1 : Den kapiTodo) (h2 : Sl) (h3 : Heap) (Q : Den kref3Want → Heap → Prop) : Prop :=
    (((decide ((h2.len : Int) = 0)) = true →
    c_ref3_load (w64 (d1.1 + 1)) h3 fun r4 h5 =>
    Q (r4.1, (r4.2.1, (r4.2.2.1, (r4.2.2.2.1, (r4.2.2.2.2.1, (r4.2.2.2.2.2.1, ())))))) h5) ∧
    ((decide ((h2.len : Int) = 0)) = false →
    (0 ≤ (0 : Int) ∧ (0 : Int) < (h2.len : Int)) ∧
    deref h2.a fun a6 =>
    ld ((.int .i64) : Kd) h3 (a6.add (((0 : Int) : Int).toNat * 1)) fun t7 =>
    (((decide ((h2.len : Int) = 1)) = true →
    c_ref3_load (w64 (d1.1 + 2)) h3 fun r8 h9 =>
    Q (r8.1, (r8.2.1, (r8.2.2.1, (r8.2.2.2.1, (r8.2.2.2.2.1, (r8.2.2.2.2.2.1, ())))))) h9) ∧
    ((decide ((h2.len : Int) = 1)) = false →
    (((decide ((h2.len : Int) = 2)) = true →
    c_ref3_store (w64 (d1.1 + 1)) (w64 (t7 - 1)) h3 fun r10 h11 =>
    Q (r10.1, (r10.2.1, (r10.2.2.1, (r10.2.2.2.1, (r10.2.2.2.2.1, (r10.2.2.2.2.2.1, ())))))) h11) ∧
    ((decide ((h2.len : Int) = 2)) = false →
    (((decide ((h2.len : Int) = 3)) = true →
    c_ref3_load d1.1 h3 fun r12 h13 =>
    Q (r12.1, (r12.2.1, (r12.2.2.1, (r12.2.2.2.1, (r12.2.2.2.2.1, (r12.2.2.2.2.2.1, ())))))) h13) ∧
    ((decide ((h2.len : Int) = 3)) = false →
    (0 ≤ (1 : Int) ∧ (1 : Int) < (h2.len : Int)) ∧
    deref h2.a fun a14 =>
    (0 ≤ (3 : Int) ∧ (3 : Int) < (h2.len : Int)) ∧
    deref h2.a fun a15 =>
    ld ((.int .i64) : Kd) h3 (a14.add (((1 : Int) : Int).toNat * 1)) fun t16 =>
    ld ((.int .i64) : Kd) h3 (a15.add (((3 : Int) : Int).toNat * 1)) fun t17 =>
    (((decide ((w64 (t7 - 1)) < t17)) = true →
    (((decide ((h2.len : Int) = 4)) = true →
    c_ref3_store (w64 (d1.1 + 1)) t17 h3 fun r18 h19 =>
    Q (r18.1, (r18.2.1, (r18.2.2.1, (r18.2.2.2.1, (r18.2.2.2.2.1, (r18.2.2.2.2.2.1, ())))))) h19) ∧
    ((decide ((h2.len : Int) = 4)) = false →
    c_ref3_end 5 0 h3 fun r20 h21 =>
    Q (r20.1, (r20.2.1, (r20.2.2.1, (r20.2.2.2.1, (r20.2.2.2.2.1, (r20.2.2.2.2.2.1, ())))))) h21))) ∧
    ((decide ((w64 (t7 - 1)) < t17)) = false →
    (((decide ((h2.len : Int) = 4)) = true →
    c_ref3_load t16 h3 fun r22 h23 =>
    Q (r22.1, (r22.2.1, (r22.2.2.1, (r22.2.2.2.1, (r22.2.2.2.2.1, (r22.2.2.2.2.2.1, ())))))) h23) ∧
    ((decide ((h2.len : Int) = 4)) = false →
    (0 ≤ (4 : Int) ∧ (4 : Int) < (h2.len : Int)) ∧
    deref h2.a fun a24 =>
    ld ((.int .i64) : Kd) h3 (a24.add (((4 : Int) : Int).toNat * 1)) fun t25 =>
    (((decide (t25 < 1)) = true →
    c_ref3_end 1 0 h3 fun r26 h27 =>
    Q (r26.1, (r26.2.1, (r26.2.2.1, (r26.2.2.2.1, (r26.2.2.2.2.1, (r26.2.2.2.2.2.1, ())))))) h27) ∧
    ((decide (t25 < 1)) = false →
    (((decide ((h2.len : Int) = 5)) = true →
    c_ref3_at t16 t25 (w64 (t7 - 1)) h3 fun r28 h29 =>
    c_ref3_load r28 h29 fun r30 h31 =>
    Q (r30.1, (r30.2.1, (r30.2.2.1, (r30.2.2.2.1, (r30.2.2.2.2.1, (r30.2.2.2.2.2.1, ())))))) h31) ∧
    ((decide ((h2.len : Int) = 5)) = false →
    (((decide (t17 < (w64 (t7 - 1)))) = true →
    (0 ≤ (5 : Int) ∧ (5 : Int) < (h2.len : Int)) ∧
    deref h2.a fun a32 =>
    ld ((.int .i64) : Kd) h3 (a32.add (((5 : Int) : Int).toNat * 1)) fun t33 =>
    c_ref3_end 4 t33 h3 fun r34 h35 =>
    Q (r34.1, (r34.2.1, (r34.2.2.1, (r34.2.2.2.1, (r34.2.2.2.2.1, (r34.2.2.2.2.2.1, ())))))) h35) ∧
    ((decide (t17 < (w64 (t7 - 1)))) = false →
    (((decide ((h2.len : Int) = 6)) = true →
    Q (2, (d1.1, (t17, ((w64 (t17 + 1)), (0, (0, ())))))) h3) ∧
    ((decide ((h2.len : Int) = 6)) = false →
    (((decide ((h2.len : Int) = 7)) = true →
    c_ref3_store (w64 (d1.1 + 1)) (w64 (t17 + 1)) h3 fun r36 h37 =>
    Q (r36.1, (r36.2.1, (r36.2.2.1, (r36.2.2.2.1, (r36.2.2.2.2.1, (r36.2.2.2.2.2.1, ())))))) h37) ∧
    ((decide ((h2.len : Int) = 7)) = false →
    (0 ≤ (6 : Int) ∧ (6 : Int) < (h2.len : Int)) ∧
    deref h2.a fun a38 =>
    ld ((.int .i64) : Kd) h3 (a38.add (((6 : Int) : Int).toNat * 1)) fun t39 =>
    (((decide (t39 = 1)) = true →
    (0 ≤ (5 : Int) ∧ (5 : Int) < (h2.len : Int)) ∧
    deref h2.a fun a40 =>
    ld ((.int .i64) : Kd) h3 (a40.add (((5 : Int) : Int).toNat * 1)) fun t41 =>
    c_ref3_end 4 t41 h3 fun r42 h43 =>
    Q (r42.1, (r42.2.1, (r42.2.2.1, (r42.2.2.2.1, (r42.2.2.2.2.1, (r42.2.2.2.2.2.1, ())))))) h43) ∧
    ((decide (t39 = 1)) = false →
    c_ref3_end 5 0 h3 fun r44 h45 =>
    Q (r44.1, (r44.2.1, (r44.2.2.1, (r44.2.2.2.1, (r44.2.2.2.2.1, (r44.2.2.2.2.2.1, ())))))) h45))))))))))))))))))))))))
def ref3_pop.mk : Mk := (.s (.r [0, 1]) (.s (.s .d (.c (.s .d .d) .d)) (.s .d (.s (.s .d (.b (.s .d (.c (.s .d .d) (.s .d (.c (.s .d .d) (.s .d (.c (.s .d .d) .d)))))))) (.s (.q [] [] [.p 0, .p 1, .p 3, .p 4, .w 2 [2, 6, 7], .p 6, .w 5 [5, 7], .p 7]) (.s (.s .d (.c (.s (.s .d (.c (.s .d .d) .d)) (.s .d .d)) .d)) (.s (.s .d (.c (.s .d .d) .d)) (.s .d (.s (.s .d (.c (.s .d .d) .d)) (.s (.s .d (.c (.s .d .d) .d)) (.s (.b (.s .d (.c (.s .d .d) (.s .d (.c (.s .d .d) (.s .d (.c (.s .d .d) (.s .d (.c (.s .d .d) .d))))))))) (.s .d .d))))))))))))

def ref3_steal.M (c_ref3_load : Int → Heap → (Den kref3Want → Heap → Prop) → Prop) (c_ref3_end : Int → Int → Heap → (Den kref3Want → Heap → Prop) → Prop) (c_ref3_at : Int → Int → Int → Heap → (Int → Heap → Prop) → Prop) (d1 : Den kapiTodo) (h2 : Sl) (h3 : Heap) (Q : Den kref3Want → Heap → Prop) : Prop :=
    (((decide ((h2.len : Int) = 0)) = true →
    c_ref3_load d1.1 h3 fun r4 h5 =>
    Q (r4.1, (r4.2.1, (r4.2.2.1, (r4.2.2.2.1, (r4.2.2.2.2.1, (r4.2.2.2.2.2.1, ())))))) h5) ∧
    ((decide ((h2.len : Int) = 0)) = false →
    (((decide ((h2.len : Int) = 1)) = true →
    c_ref3_load (w64 (d1.1 + 1)) h3 fun r6 h7 =>
    Q (r6.1, (r6.2.1, (r6.2.2.1, (r6.2.2.2.1, (r6.2.2.2.2.1, (r6.2.2.2.2.2.1, ())))))) h7) ∧
    ((decide ((h2.len : Int) = 1)) = false →
    (0 ≤ (0 : Int) ∧ (0 : Int) < (h2.len : Int)) ∧
    deref h2.a fun a8 =>
    (0 ≤ (1 : Int) ∧ (1 : Int) < (h2.len : Int)) ∧
    deref h2.a fun a9 =>
    ld ((.int .i64) : Kd) h3 (a8.add (((0 : Int) : Int).toNat * 1)) fun t10 =>
    ld ((.int .i64) : Kd) h3 (a9.add (((1 : Int) : Int).toNat * 1)) fun t11 =>
    (((decide (t11 ≤ t10)) = true →
    c_ref3_end 5 0 h3 fun r12 h13 =>
    Q (r12.1, (r12.2.1, (r12.2.2.1, (r12.2.2.2.1, (r12.2.2.2.2.1, (r12.2.2.2.2.2.1, ())))))) h13) ∧
    ((decide (t11 ≤ t10)) = false →
    (((decide ((h2.len : Int) = 2)) = true →
    c_ref3_load (w64 (d1.1 + 2)) h3 fun r14 h15 =>
    Q (r14.1, (r14.2.1, (r14.2.2.1, (r14.2.2.2.1, (r14.2.2.2.2.1, (r14.2.2.2.2.2.1, ())))))) h15) ∧
    ((decide ((h2.len : Int) = 2)) = false →
    (((decide ((h2.len : Int) = 3)) = true →
    (0 ≤ (2 : Int) ∧ (2 : Int) < (h2.len : Int)) ∧
    deref h2.a fun a16 =>
    ld ((.int .i64) : Kd) h3 (a16.add (((2 : Int) : Int).toNat * 1)) fun t17 =>
    c_ref3_load t17 h3 fun r18 h19 =>
    Q (r18.1, (r18.2.1, (r18.2.2.1, (r18.2.2.2.1, (r18.2.2.2.2.1, (r18.2.2.2.2.2.1, ())))))) h19) ∧
    ((decide ((h2.len : Int) = 3)) = false →
    (0 ≤ (3 : Int) ∧ (3 : Int) < (h2.len : Int)) ∧
    deref h2.a fun a20 =>
    ld ((.int .i64) : Kd) h3 (a20.add (((3 : Int) : Int).toNat * 1)) fun t21 =>
    (((decide (t21 < 1)) = true →
    c_ref3_end 1 0 h3 fun r22 h23 =>
    Q (r22.1, (r22.2.1, (r22.2.2.1, (r22.2.2.2.1, (r22.2.2.2.2.1, (r22.2.2.2.2.2.1, ())))))) h23) ∧
    ((decide (t21 < 1)) = false →
    (((decide ((h2.len : Int) = 4)) = true →
    (0 ≤ (2 : Int) ∧ (2 : Int) < (h2.len : Int)) ∧
    deref h2.a fun a24 =>
    (0 ≤ (3 : Int) ∧ (3 : Int) < (h2.len : Int)) ∧
    deref h2.a fun a25 =>
    (0 ≤ (0 : Int) ∧ (0 : Int) < (h2.len : Int)) ∧
    deref h2.a fun a26 =>
    ld ((.int .i64) : Kd) h3 (a24.add (((2 : Int) : Int).toNat * 1)) fun t27 =>
    ld ((.int .i64) : Kd) h3 (a25.add (((3 : Int) : Int).toNat * 1)) fun t28 =>
    ld ((.int .i64) : Kd) h3 (a26.add (((0 : Int) : Int).toNat * 1)) fun t29 =>
    c_ref3_at t27 t28 t29 h3 fun r30 h31 =>
    c_ref3_load r30 h31 fun r32 h33 =>
    Q (r32.1, (r32.2.1, (r32.2.2.1, (r32.2.2.2.1, (r32.2.2.2.2.1, (r32.2.2.2.2.2.1, ())))))) h33) ∧
    ((decide ((h2.len : Int) = 4)) = false →
    (((decide ((h2.len : Int) = 5)) = true →
    (0 ≤ (0 : Int) ∧ (0 : Int) < (h2.len : Int)) ∧
    deref h2.a fun a34 =>
    (0 ≤ (0 : Int) ∧ (0 : Int) < (h2.len : Int)) ∧
    deref h2.a fun a35 =>
    ld ((.int .i64) : Kd) h3 (a34.add (((0 : Int) : Int).toNat * 1)) fun t36 =>
    ld ((.int .i64) : Kd) h3 (a35.add (((0 : Int) : Int).toNat * 1)) fun t37 =>
    Q (2, (d1.1, (t36, ((w64 (t37 + 1)), (0, (0, ())))))) h3) ∧
    ((decide ((h2.len : Int) = 5)) = false →
    (0 ≤ (5 : Int) ∧ (5 : Int) < (h2.len : Int)) ∧
    deref h2.a fun a38 =>
    ld ((.int .i64) : Kd) h3 (a38.add (((5 : Int) : Int).toNat * 1)) fun t39 =>
    (((decide (t39 = 1)) = true →
    (0 ≤ (4 : Int) ∧ (4 : Int) < (h2.len : Int)) ∧
    deref h2.a fun a40 =>
    ld ((.int .i64) : Kd) h3 (a40.add (((4 : Int) : Int).toNat * 1)) fun t41 =>
    c_ref3_end 4 t41 h3 fun r42 h43 =>
    Q (r42.1, (r42.2.1, (r42.2.2.1, (r42.2.2.2.1, (r42.2.2.2.2.1, (r42.2.2.2.2.2.1, ())))))) h43) ∧
    ((decide (t39 = 1)) = false →
    c_ref3_end 6 0 h3 fun r44 h45 =>
    Q (r44.1, (r44.2.1, (r44.2.2.1, (r44.2.2.2.1, (r44.2.2.2.2.1, (r44.2.2.2.2.2.1, ())))))) h45))))))))))))))))))
def ref3_steal.mk : Mk := (.s (.r [0, 1]) (.s (.s .d (.b (.s .d (.c (.s .d .d) (.s .d (.c (.s .d .d) .d)))))) (.s (.s (.q [] [] [.p 0, .p 1, .p 3, .p 4, .w 2 [2, 6], .w 5 [5, 6], .p 6]) (.c (.s .d .d) .d)) (.s (.s .d (.b (.s .d (.c (.s .d .d) (.s .d (.c (.s .d .d) .d)))))) (.s (.s .d (.c (.s .d .d) .d)) (.s (.s .d (.b (.s .d (.c (.s (.q [] [4] [.p 0, .p 1, .p 3, .p 4, .p 6, .p 7, .w 2 [2, 9, 10, 11], .w 5 [5, 9, 10, 11], .w 8 [8, 9, 10, 11], .o 9, .o 10, .o 11]) .d) (.s .d (.c (.s (.q [] [4] [.p 0, .p 2, .p 3, .p 5, .p 6, .w 1 [1, 9, 10], .w 4 [4, 9, 10], .w 7 [7, 8, 9, 10], .p 8, .p 9, .o 10]) .d) .d)))))) (.s (.s .d (.c (.s .d .d) .d)) (.s .d .d))))))))

def ref3_look.M (c_ref3_load : Int → Heap → (Den kref3Want → Heap → Prop) → Prop) (c_ref3_end : Int → Int → Heap → (Den kref3Want → Heap → Prop) → Prop) (d1 : Den kapiTodo) (h2 : Sl) (h3 : Heap) (Q : Den kref3Want → Heap → Prop) : Prop :=
    (((decide ((h2.len : Int) = 0)) = true →
    c_ref3_load d1.1 h3 fun r4 h5 =>
    Q (r4.1, (r4.2.1, (r4.2.2.1, (r4.2.2.2.1, (r4.2.2.2.2.1, (r4.2.2.2.2.2.1, ())))))) h5) ∧
    ((decide ((h2.len : Int) = 0)) = false →
    (((decide ((h2.len : Int) = 1)) = true →
    c_ref3_load (w64 (d1.1 + 1)) h3 fun r6 h7 =>
    Q (r6.1, (r6.2.1, (r6.2.2.1, (r6.2.2.2.1, (r6.2.2.2.2.1, (r6.2.2.2.2.2.1, ())))))) h7) ∧
    ((decide ((h2.len : Int) = 1)) = false →
    (0 ≤ (0 : Int) ∧ (0 : Int) < (h2.len : Int)) ∧
    deref h2.a fun a8 =>
    (0 ≤ (1 : Int) ∧ (1 : Int) < (h2.len : Int)) ∧
    deref h2.a fun a9 =>
    ld ((.int .i64) : Kd) h3 (a8.add (((0 : Int) : Int).toNat * 1)) fun t10 =>
    ld ((.int .i64) : Kd) h3 (a9.add (((1 : Int) : Int).toNat * 1)) fun t11 =>
    (((decide (t10 < t11)) = true →
    c_ref3_end 7 0 h3 fun r12 h13 =>
    Q (r12.1, (r12.2.1, (r12.2.2.1, (r12.2.2.2.1, (r12.2.2.2.2.1, (r12.2.2.2.2.2.1, ())))))) h13) ∧
    ((decide (t10 < t11)) = false →
    c_ref3_end 8 0 h3 fun r14 h15 =>
    Q (r14.1, (r14.2.1, (r14.2.2.1, (r14.2.2.2.1, (r14.2.2.2.2.1, (r14.2.2.2.2.2.1, ())))))) h15))))))
def ref3_look.mk : Mk := (.s (.r [0, 1]) (.s (.s .d (.b (.s .d (.c (.s .d .d) (.s .d (.c (.s .d .d) .d)))))) (.s (.s (.q [] [] [.p 0, .p 1, .p 3, .p 4, .w 2 [2, 6], .w 5 [5, 6], .p 6]) (.c (.s .d .d) .d)) (.s .d .d))))

def ref3_load.M  (addr1 : Int) (h2 : Heap) (Q : Den kref3Want → Heap → Prop) : Prop :=
    Q (0, (addr1, (0, (0, (0, (0, ())))))) h2
def ref3_load.mk : Mk := (.s (.r [0]) (.s .d .d))

def ref3_last.M (c_ref3_at : Int → Int → Int → Heap → (Int → Heap → Prop) → Prop) (c_ref3_store : Int → Int → Heap → (Den kref3Want → Heap → Prop) → Prop) (c_ref3_end : Int → Int → Heap → (Den kref3Want → Heap → Prop) → Prop) (d1 : Den kapiTodo) (v2 : Int) (a3 : Int) (c4 : Int) (b5 : Int) (n6 : Int) (h7 : Heap) (Q : Den kref3Want → Heap → Prop) : Prop :=
    (((decide (n6 = 0)) = true →
    c_ref3_at a3 c4 b5 h7 fun r8 h9 =>
    c_ref3_store r8 v2 h9 fun r10 h11 =>
    Q (r10.1, (r10.2.1, (r10.2.2.1, (r10.2.2.2.1, (r10.2.2.2.2.1, (r10.2.2.2.2.2.1, ())))))) h11) ∧
    ((decide (n6 = 0)) = false →
    (((decide (n6 = 1)) = true →
    c_ref3_store (w64 (d1.1 + 1)) (w64 (b5 + 1)) h7 fun r12 h13 =>
    Q (r12.1, (r12.2.1, (r12.2.2.1, (r12.2.2.2.1, (r12.2.2.2.2.1, (r12.2.2.2.2.2.1, ())))))) h13) ∧
    ((decide (n6 = 1)) = false →
    c_ref3_end 2 0 h7 fun r14 h15 =>
    Q (r14.1, (r14.2.1, (r14.2.2.1, (r14.2.2.2.1, (r14.2.2.2.2.1, (r14.2.2.2.2.2.1, ())))))) h15))))
def ref3_last.mk : Mk := (.s (.r [0, 1]) (.s (.s .d (.b (.s .d (.c (.s .d .d) (.s .d (.c (.s .d .d) .d)))))) (.s .d .d)))

def cells_Arena_CAS.j1 (c_cells_Arena_note : Option Addr → Int → Int → Int → Int → Bool → Heap → (Unit → Heap → Prop) → Prop) (a1 : Option Addr) (addr2 : Int) (old3 : Int) (next4 : Int) (Q : (Bool × (Int × Unit)) → Heap → Prop) (t11 : Int) (s12 : Unit) (h13 : Heap) : Prop :=
    c_cells_Arena_note a1 2 addr2 old3 next4 (decide (t11 = old3)) h13 fun r14 h15 =>
    Q ((decide (t11 = old3)), 0, ()) h15
def cells_Arena_CAS.M (c_cells_Arena_outside : Option Addr → Int → Heap → (Bool → Heap → Prop) → Prop) (c_cells_Arena_note : Option Addr → Int → Int → Int → Int → Bool → Heap → (Unit → Heap → Prop) → Prop) (a1 : Option Addr) (addr2 : Int) (old3 : Int) (next4 : Int) (h5 : Heap) (Q : (Bool × (Int × Unit)) → Heap → Prop) : Prop :=
    c_cells_Arena_outside a1 addr2 h5 fun r6 h7 =>
    ((r6 = true →
    Q (false, 20, ()) h7) ∧
    (r6 = false →
    deref a1 fun a8 =>
    ld (.sl : Kd) h7 (a8.add 2) fun t9 =>
    (0 ≤ addr2 ∧ addr2 < (t9.len : Int)) ∧
    deref t9.a fun a10 =>
    ld ((.int .i64) : Kd) h7 (a10.add ((addr2 : Int).toNat * 1)) fun t11 =>
    (((decide (t11 = old3)) = true →
    deref a1 fun a16 =>
    ld (.sl : Kd) h7 (a16.add 2) fun t17 =>
    (0 ≤ addr2 ∧ addr2 < (t17.len : Int)) ∧
    deref t17.a fun a18 =>
    st ((.int .i64) : Kd) h7 (a18.add ((addr2 : Int).toNat * 1)) next4 fun h19 =>
    cells_Arena_CAS.j1 c_cells_Arena_note a1 addr2 old3 next4 Q t11 () h19) ∧
    ((decide (t11 = old3)) = false →
    cells_Arena_CAS.j1 c_cells_Arena_note a1 addr2 old3 next4 Q t11 () h7))))
def cells_Arena_CAS.mk : Mk := (.s .d (.s (.s .d (.c (.s .d .d) .d)) (.s .d (.j [] (.s .d (.c .d .d)) (.s .d (.s .d .d))))))

def cells_Arena_Load.M (c_cells_Arena_outside : Option Addr → Int → Heap → (Bool → Heap → Prop) → Prop) (c_cells_Arena_note : Option Addr → Int → Int → Int → Int → Bool → Heap → (Unit → Heap → Prop) → Prop) (a1 : Option Addr) (addr2 : Int) (h3 : Heap) (Q : Den kapiTodo → Heap → Prop) : Prop :=
    c_cells_Arena_outside a1 addr2 h3 fun r4 h5 =>
    ((r4 = true →
    Q (0, 20, ()) h5) ∧
    (r4 = false →
    deref a1 fun a6 =>
    ld (.sl : Kd) h5 (a6.add 2) fun t7 =>
    (0 ≤ addr2 ∧ addr2 < (t7.len : Int)) ∧
    deref t7.a fun a8 =>
    ld ((.int .i64) : Kd) h5 (a8.add ((addr2 : Int).toNat * 1)) fun t9 =>
    c_cells_Arena_note a1 0 addr2 t9 0 true h5 fun r10 h11 =>
    Q (t9, 0, ()) h11))
def cells_Arena_Load.mk : Mk := (.s .d (.s (.s .d (.c (.s .d .d) .d)) (.s .d (.s .d (.s .d .d)))))

def cells_Arena_Reserve.j1 (c_cells_ledger_refuse : Option Addr → Int → Heap → (Int → Heap → Prop) → Prop) (c_cells_ledger_take : Option Addr → Int → Heap → (Int → Heap → Prop) → Prop) (c_cells_Arena_note : Option Addr → Int → Int → Int → Int → Bool → Heap → (Unit → Heap → Prop) → Prop) (a1 : Option Addr) (n2 : Int) (Q : Den kapiTodo → Heap → Prop) (s4 : (Option Addr × Unit)) (h5 : Heap) : Prop :=
    c_cells_ledger_refuse s4.1 n2 h5 fun r6 h7 =>
    (((decide (r6 ≠ 0)) = true →
    Q (0, r6, ()) h7) ∧
    ((decide (r6 ≠ 0)) = false →
    c_cells_ledger_take s4.1 n2 h7 fun r8 h9 =>
    deref a1 fun a10 =>
    ld (.sl : Kd) h9 (a10.add 2) fun t11 =>
    appendZM ((.int .i64) : Kd) 8 h9 t11 n2 fun t12 h13 =>
    deref a1 fun a14 =>
    st (.sl : Kd) h13 (a14.add 2) t12 fun h15 =>
    c_cells_Arena_note a1 4 r8 n2 0 true h15 fun r16 h17 =>
    Q (r8, 0, ()) h17))
def cells_Arena_Reserve.M (c_cells_ledger_refuse : Option Addr → Int → Heap → (Int → Heap → Prop) → Prop) (c_cells_ledger_take : Option Addr → Int → Heap → (Int → Heap → Prop) → Prop) (c_cells_Arena_note : Option Addr → Int → Int → Int → Int → Bool → Heap → (Unit → Heap → Prop) → Prop) (a1 : Option Addr) (n2 : Int) (h3 : Heap) (Q : Den kapiTodo → Heap → Prop) : Prop :=
    (((Option.isSome a1) = true →
    deref a1 fun a18 =>
    cells_Arena_Reserve.j1 c_cells_ledger_refuse c_cells_ledger_take c_cells_Arena_note a1 n2 Q ((some (a18.add 0)), ()) h3) ∧
    ((Option.isSome a1) = false →
    cells_Arena_Reserve.j1 c_cells_ledger_refuse c_cells_ledger_take c_cells_Arena_note a1 n2 Q (none, ()) h3))
def cells_Arena_Reserve.mk : Mk := (.s .d (.s .d (.j [.slot 6 .ptr] (.s .d (.c .d .d)) (.s (.s .d (.s .d (.c (.s .d .d) .d))) (.s .d (.s .d (.s .d (.s .d .d))))))))

def cells_Arena_Store.M (c_cells_Arena_outside : Option Addr → Int → Heap → (Bool → Heap → Prop) → Prop) (c_cells_Arena_note : Option Addr → Int → Int → Int → Int → Bool → Heap → (Unit → Heap → Prop) → Prop) (a1 : Option Addr) (addr2 : Int) (v3 : Int) (h4 : Heap) (Q : Int → Heap → Prop) : Prop :=
    c_cells_Arena_outside a1 addr2 h4 fun r5 h6 =>
    ((r5 = true →
    Q 20 h6) ∧
    (r5 = false →
    deref a1 fun a7 =>
    ld (.sl : Kd) h6 (a7.add 2) fun t8 =>
    (0 ≤ addr2 ∧ addr2 < (t8.len : Int)) ∧
    deref t8.a fun a9 =>
    st ((.int .i64) : Kd) h6 (a9.add ((addr2 : Int).toNat * 1)) v3 fun h10 =>
    c_cells_Arena_note a1 1 addr2 v3 0 true h10 fun r11 h12 =>
    Q 0 h12))
def cells_Arena_Store.mk : Mk := (.s .d (.s (.s .d (.c (.s .d .d) .d)) (.s .d (.s .d (.s .d .d)))))

def cells_Arena_outside.M (c_cells_ledger_has : Option Addr → Int → Heap → (Bool → Heap → Prop) → Prop) (a1 : Option Addr) (addr2 : Int) (h3 : Heap) (Q : Bool → Heap → Prop) : Prop :=
    (((Option.isNone a1) = true →
    Q true h3) ∧
    ((Option.isNone a1) = false →
    deref a1 fun a4 =>
    c_cells_ledger_has (some (a4.add 0)) addr2 h3 fun r5 h6 =>
    Q (!r5) h6))
def cells_Arena_outside.mk : Mk := (.s .d (.s .d .d))

def cells_Arena_note.M  (a1 : Option Addr) (kind2 : Int) (addr3 : Int) (x4 : Int) (y5 : Int) (ok6 : Bool) (h7 : Heap) (Q : Unit → Heap → Prop) : Prop :=
    deref a1 fun a8 =>
    ld (.bool : Kd) h7 (a8.add 5) fun t9 =>
    ((t9 = true →
    deref a1 fun a10 =>
    deref a1 fun a11 =>
    ld (.sl : Kd) h7 (a10.add 3) fun t12 =>
    ld ((.int .i64) : Kd) h7 (a11.add 4) fun t13 =>
    new h7 (([(t13, (kind2, (addr3, (x4, (y5, (ok6, ()))))))] : List (Den kapiAccess)).flatMap (Kd.cells kapiAccess)) fun p14 h15 =>
    appendM 6 48 h15 t12 ⟨some p14, 1, 1⟩ fun t16 h17 =>
    deref a1 fun a18 =>
    st (.sl : Kd) h17 (a18.add 3) t16 fun h19 =>
    Q () h19) ∧
    (t9 = false →
    Q () h7))
def cells_Arena_note.mk : Mk := (.s .d (.c (.q [] [] [.p 0, .p 1, .p 2, .p 3, .p 5, .p 6, .p 7, .p 9, .p 10, .p 11, .p 12, .p 13, .w 4 [4, 16, 17, 18, 19], .w 8 [8, 14, 15, 16, 17, 18, 19], .p 14, .o 15, .o 16, .p 17, .p 18, .o 19]) .d))

def cells_ledger_refuse.j1 (Q : Int → Heap → Prop) (s4 : Unit) (h5 : Heap) : Prop :=
    Q 0 h5
def cells_ledger_refuse.j2 (Q : Int → Heap → Prop) (s6 : (Bool × Unit)) (h7 : Heap) : Prop :=
    ((s6.1 = true →
    Q 22 h7) ∧
    (s6.1 = false →
    cells_ledger_refuse.j1 Q () h7))
def cells_ledger_refuse.M  (l1 : Option Addr) (n2 : Int) (h3 : Heap) (Q : Int → Heap → Prop) : Prop :=
    (((decide (n2 < 1)) = true →
    Q 21 h3) ∧
    ((decide (n2 < 1)) = false →
    (((Option.isNone l1) = true →
    cells_ledger_refuse.j2 Q (true, ()) h3) ∧
    ((Option.isNone l1) = false →
    deref l1 fun a8 =>
    deref l1 fun a9 =>
    ld ((.int .i64) : Kd) h3 (a8.add 0) fun t10 =>
    ld ((.int .i64) : Kd) h3 (a9.add 1) fun t11 =>
    cells_ledger_refuse.j2 Q ((decide ((w64 (t10 - t11)) < n2)), ()) h3))))
def cells_ledger_refuse.mk : Mk := (.s .d (.s (.s .d (.c (.s .d .d) .d)) (.j [] (.j [.slot 21 .bool] (.q [] [] [.p 0, .p 1, .p 2, .p 3, .p 4, .p 5, .p 6, .p 8, .p 9, .p 10, .w 7 [7, 12, 13, 14], .w 11 [11, 12, 13, 14], .p 12, .p 13, .p 14]) (.c (.s .d .d) .d)) (.s .d .d))))

def cells_ledger_take.M  (l1 : Option Addr) (n2 : Int) (h3 : Heap) (Q : Int → Heap → Prop) : Prop :=
    deref l1 fun a4 =>
    ld ((.int .i64) : Kd) h3 (a4.add 1) fun t5 =>
    deref l1 fun a6 =>
    ld ((.int .i64) : Kd) h3 (a6.add 1) fun t7 =>
    deref l1 fun a8 =>
    st ((.int .i64) : Kd) h3 (a8.add 1) (w64 (t7 + n2)) fun h9 =>
    Q t5 h9
def cells_ledger_take.mk : Mk := (.s .d (.s .d (.s .d (.s .d .d))))

def cells_ledger_has.M  (l1 : Option Addr) (addr2 : Int) (h3 : Heap) (Q : Bool → Heap → Prop) : Prop :=
    (((decide ((0 : Int) ≤ addr2)) = true →
    deref l1 fun a4 =>
    ld ((.int .i64) : Kd) h3 (a4.add 1) fun t5 =>
    Q (decide (addr2 < t5)) h3) ∧
    ((decide ((0 : Int) ≤ addr2)) = false →
    Q false h3))
def cells_ledger_has.mk : Mk := (.s .d (.s .d .d))

end Go.Mx
