/-
  What the functions of this seat come to over abstract heaps: printed by a program of this workplace.
-/
import Derived.Test.YtipihecaaakagaaMxN
set_option linter.unusedVariables false
namespace Go.Mx
abbrev kapiScene : Kd := (.pair (.int .i64) (.pair .sl (.pair .sl .nil)))
abbrev kapiEnding : Kd := (.pair .sl (.pair .sl .nil))
abbrev kapiAct : Kd := (.pair (.int .i64) (.pair (.int .i64) (.pair (.int .i64) (.pair (.int .i64) (.pair (.int .i64) .nil)))))
abbrev kapiDag : Kd := (.pair (.int .i64) (.pair .sl .nil))
abbrev kapiEdge : Kd := (.pair (.int .i64) (.pair (.int .i64) .nil))
abbrev kref22Act : Kd := (.pair (.int .i64) (.pair kapiAct .nil))
abbrev kexploredone : Kd := (.pair (.int .i64) kref22Act)
abbrev kapiEffect : Kd := (.pair (.int .i64) (.pair .bool (.pair (.int .i64) .nil)))
abbrev kexplorewalk : Kd := (.pair kapiScene kapiEnding)
abbrev kcellsArena : Kd := (.pair kapiEdge (.pair .sl (.pair .sl (.pair (.int .i64) (.pair .bool .nil)))))
abbrev kapiAccess : Kd := (.pair (.int .i64) (.pair (.int .i64) (.pair (.int .i64) (.pair (.int .i64) (.pair (.int .i64) (.pair .bool .nil))))))
-- @T  121

def law22_ExploreFoata.j1 (c_law22_apart : Sl → Heap → (Bool → Heap → Prop) → Prop) (Q : Bool → Heap → Prop) (r18 : (Sl × (Int × Unit))) (s26 : Unit) (h27 : Heap) : Prop :=
    c_law22_apart r18.1 h27 fun r28 h29 =>
    Q r28 h29
def law22_ExploreFoata.j2 (c_law22_apart : Sl → Heap → (Bool → Heap → Prop) → Prop) (Q : Bool → Heap → Prop) (r18 : (Sl × (Int × Unit))) (s30 : (Bool × Unit)) (h31 : Heap) : Prop :=
    ((s30.1 = true →
    Q false h31) ∧
    (s30.1 = false →
    law22_ExploreFoata.j1 c_law22_apart Q r18 () h31))
def law22_ExploreFoata.M (c_law22_copied : Den kapiScene → Heap → (Den kapiScene → Heap → Prop) → Prop) (c_law22_moved : Den kapiScene → Heap → (Unit → Heap → Prop) → Prop) (c_law22_turned : Sl → Heap → (Sl → Heap → Prop) → Prop) (c_explore_Foata : Den kapiScene → Sl → Heap → ((Sl × (Int × Unit)) → Heap → Prop) → Prop) (c_law22_back : Den kapiScene → Den kapiScene → Heap → (Unit → Heap → Prop) → Prop) (c_law22_written : Sl → Sl → Heap → (Unit → Heap → Prop) → Prop) (c_law22_spoilt : Sl → Heap → (Int → Heap → Prop) → Prop) (c_ref22_Foata : Den kapiScene → Sl → Heap → ((Sl × (Int × Unit)) → Heap → Prop) → Prop) (c_law22_sameLists : Sl → Sl → Heap → (Bool → Heap → Prop) → Prop) (c_law22_alike : Den kapiScene → Den kapiScene → Heap → (Bool → Heap → Prop) → Prop) (c_law22_kept : Sl → Sl → Heap → (Bool → Heap → Prop) → Prop) (c_law22_apart : Sl → Heap → (Bool → Heap → Prop) → Prop) (s1 : Den kapiScene) (picks2 : Sl) (h3 : Heap) (Q : Bool → Heap → Prop) : Prop :=
    c_law22_copied (s1.1, (s1.2.1, (s1.2.2.1, ()))) h3 fun r4 h5 =>
    c_law22_moved (r4.1, (r4.2.1, (r4.2.2.1, ()))) h5 fun r6 h7 =>
    c_law22_turned picks2 h7 fun r8 h9 =>
    c_explore_Foata (r4.1, (r4.2.1, (r4.2.2.1, ()))) r8 h9 fun r10 h11 =>
    c_law22_back (r4.1, (r4.2.1, (r4.2.2.1, ()))) (s1.1, (s1.2.1, (s1.2.2.1, ()))) h11 fun r12 h13 =>
    c_explore_Foata (r4.1, (r4.2.1, (r4.2.2.1, ()))) r8 h13 fun r14 h15 =>
    c_law22_written r8 picks2 h15 fun r16 h17 =>
    c_explore_Foata (r4.1, (r4.2.1, (r4.2.2.1, ()))) r8 h17 fun r18 h19 =>
    c_explore_Foata (r4.1, (r4.2.1, (r4.2.2.1, ()))) r8 h19 fun r20 h21 =>
    c_law22_spoilt r20.1 h21 fun r22 h23 =>
    c_ref22_Foata (s1.1, (s1.2.1, (s1.2.2.1, ()))) picks2 h23 fun r24 h25 =>
    (((decide (r18.2.1 ≠ r24.2.1)) = true →
    law22_ExploreFoata.j2 c_law22_apart Q r18 (true, ()) h25) ∧
    ((decide (r18.2.1 ≠ r24.2.1)) = false →
    c_law22_sameLists r18.1 r24.1 h25 fun r32 h33 =>
    (((!r32) = true →
    law22_ExploreFoata.j2 c_law22_apart Q r18 (true, ()) h33) ∧
    ((!r32) = false →
    (((decide (r22 < (r24.1.len : Int))) = true →
    law22_ExploreFoata.j2 c_law22_apart Q r18 (true, ()) h33) ∧
    ((decide (r22 < (r24.1.len : Int))) = false →
    c_law22_alike (r4.1, (r4.2.1, (r4.2.2.1, ()))) (s1.1, (s1.2.1, (s1.2.2.1, ()))) h33 fun r34 h35 =>
    (((!r34) = true →
    law22_ExploreFoata.j2 c_law22_apart Q r18 (true, ()) h35) ∧
    ((!r34) = false →
    c_law22_kept r8 picks2 h35 fun r36 h37 =>
    law22_ExploreFoata.j2 c_law22_apart Q r18 ((!r36), ()) h37))))))))
def law22_ExploreFoata.mk : Mk := (.s (.r [0]) (.s (.r [2]) (.s .d (.s .d (.s .d (.s .d (.s .d (.s .d (.s .d (.s .d (.s .d (.s .d (.j [] (.j [.slot 78 .bool] .d (.c (.s .d .d) .d)) (.s .d .d))))))))))))))

def law22_ExploreAlike.M (c_law22_copied : Den kapiScene → Heap → (Den kapiScene → Heap → Prop) → Prop) (c_law22_turned : Sl → Heap → (Sl → Heap → Prop) → Prop) (c_law22_moved : Den kapiScene → Heap → (Unit → Heap → Prop) → Prop) (c_explore_Alike : Den kapiScene → Sl → Sl → Heap → ((Bool × (Int × Unit)) → Heap → Prop) → Prop) (c_law22_back : Den kapiScene → Den kapiScene → Heap → (Unit → Heap → Prop) → Prop) (c_law22_written : Sl → Sl → Heap → (Unit → Heap → Prop) → Prop) (c_ref22_Alike : Den kapiScene → Sl → Sl → Heap → ((Bool × (Int × Unit)) → Heap → Prop) → Prop) (c_law22_alike : Den kapiScene → Den kapiScene → Heap → (Bool → Heap → Prop) → Prop) (c_law22_kept : Sl → Sl → Heap → (Bool → Heap → Prop) → Prop) (s1 : Den kapiScene) (p2 : Sl) (q3 : Sl) (h4 : Heap) (Q : Bool → Heap → Prop) : Prop :=
    c_law22_copied (s1.1, (s1.2.1, (s1.2.2.1, ()))) h4 fun r5 h6 =>
    c_law22_turned p2 h6 fun r7 h8 =>
    c_law22_turned q3 h8 fun r9 h10 =>
    c_law22_moved (r5.1, (r5.2.1, (r5.2.2.1, ()))) h10 fun r11 h12 =>
    c_explore_Alike (r5.1, (r5.2.1, (r5.2.2.1, ()))) r7 r9 h12 fun r13 h14 =>
    c_law22_back (r5.1, (r5.2.1, (r5.2.2.1, ()))) (s1.1, (s1.2.1, (s1.2.2.1, ()))) h14 fun r15 h16 =>
    c_explore_Alike (r5.1, (r5.2.1, (r5.2.2.1, ()))) r7 r9 h16 fun r17 h18 =>
    c_law22_written r7 p2 h18 fun r19 h20 =>
    c_law22_written r9 q3 h20 fun r21 h22 =>
    c_explore_Alike (r5.1, (r5.2.1, (r5.2.2.1, ()))) r7 r9 h22 fun r23 h24 =>
    c_ref22_Alike (s1.1, (s1.2.1, (s1.2.2.1, ()))) p2 q3 h24 fun r25 h26 =>
    (((r23.1 == r25.1) = true →
    (((decide (r23.2.1 = r25.2.1)) = true →
    c_law22_alike (r5.1, (r5.2.1, (r5.2.2.1, ()))) (s1.1, (s1.2.1, (s1.2.2.1, ()))) h26 fun r27 h28 =>
    ((r27 = true →
    c_law22_kept r7 p2 h28 fun r29 h30 =>
    ((r29 = true →
    c_law22_kept r9 q3 h30 fun r31 h32 =>
    Q r31 h32) ∧
    (r29 = false →
    Q false h30))) ∧
    (r27 = false →
    Q false h28))) ∧
    ((decide (r23.2.1 = r25.2.1)) = false →
    Q false h26))) ∧
    ((r23.1 == r25.1) = false →
    Q false h26))
def law22_ExploreAlike.mk : Mk := (.s (.r [0]) (.s (.r [2]) (.s .d (.s .d (.s .d (.s .d (.s .d (.s .d (.s .d (.s .d (.s .d (.s .d (.s .d .d)))))))))))))

def law22_copied.l1 (s1 : Den kapiScene) (Q : Den kapiScene → Heap → Prop) (go9 : (Int × (Den kapiScene × Unit)) → Heap → Prop) (s7 : (Int × (Den kapiScene × Unit))) (h8 : Heap) : Prop :=
    (((decide (s7.1 < (s1.2.2.1.len : Int))) = true →
    new h8 (([] : List (Den kapiAct)).flatMap (Kd.cells kapiAct)) fun p10 h11 =>
    (0 ≤ s7.1 ∧ s7.1 < (s1.2.2.1.len : Int)) ∧
    deref s1.2.2.1.a fun a12 =>
    ld (.sl : Kd) h11 (a12.add ((s7.1 : Int).toNat * 1)) fun t13 =>
    appendM 5 40 h11 ⟨some p10, 0, 0⟩ t13 fun t14 h15 =>
    new h15 (([(0, ((-77), (0, (0, (0, ())))))] : List (Den kapiAct)).flatMap (Kd.cells kapiAct)) fun p16 h17 =>
    appendM 5 40 h17 t14 ⟨some p16, 1, 1⟩ fun t18 h19 =>
    (0 ≤ s7.1 ∧ s7.1 < (s1.2.2.1.len : Int)) ∧
    deref s1.2.2.1.a fun a20 =>
    ld (.sl : Kd) h19 (a20.add ((s7.1 : Int).toNat * 1)) fun t21 =>
    (0 ≤ (t21.len : Int) ∧ (t21.len : Int) ≤ (t18.cap : Int)) ∧
    new h19 (([(t18.cut 0 (((t21.len : Int) : Int).toNat) 5)] : List (Den (.sl : Kd))).flatMap (Kd.cells (.sl : Kd))) fun p22 h23 =>
    appendM 1 24 h23 s7.2.1.2.2.1 ⟨some p22, 1, 1⟩ fun t24 h25 =>
    go9 ((w64 (s7.1 + 1)), (s7.2.1.1, (s7.2.1.2.1, (t24, ()))), ()) h25) ∧
    ((decide (s7.1 < (s1.2.2.1.len : Int))) = false →
    new h8 (([(-77)] : List (Den ((.int .i64) : Kd))).flatMap (Kd.cells ((.int .i64) : Kd))) fun p26 h27 =>
    appendM 1 8 h27 s7.2.1.2.1 ⟨some p26, 1, 1⟩ fun t28 h29 =>
    (0 ≤ (s1.2.1.len : Int) ∧ (s1.2.1.len : Int) ≤ (t28.cap : Int)) ∧
    new h29 (([(0, ((-77), (0, (0, (0, ())))))] : List (Den kapiAct)).flatMap (Kd.cells kapiAct)) fun p30 h31 =>
    new h31 (([⟨some p30, 1, 1⟩] : List (Den (.sl : Kd))).flatMap (Kd.cells (.sl : Kd))) fun p32 h33 =>
    appendM 1 24 h33 s7.2.1.2.2.1 ⟨some p32, 1, 1⟩ fun t34 h35 =>
    (0 ≤ (s1.2.2.1.len : Int) ∧ (s1.2.2.1.len : Int) ≤ (t34.cap : Int)) ∧
    Q (s7.2.1.1, ((t28.cut 0 (((s1.2.1.len : Int) : Int).toNat) 1), ((t34.cut 0 (((s1.2.2.1.len : Int) : Int).toNat) 1), ()))) h35))
def law22_copied.M  (s1 : Den kapiScene) (h2 : Heap) (Q : Den kapiScene → Heap → Prop) : Prop :=
    new h2 (([] : List (Den ((.int .i64) : Kd))).flatMap (Kd.cells ((.int .i64) : Kd))) fun p3 h4 =>
    appendM 1 8 h4 ⟨some p3, 0, 0⟩ s1.2.1 fun t5 h6 =>
    Loop (law22_copied.l1 s1 Q) (0, (s1.1, (t5, (Sl.none, ()))), ()) h6
def law22_copied.mk : Mk := (.s (.r [0, 1]) (.s (.q [7] [3] [.p 0, .p 3, .w 1 [1, 6, 8], .w 4 [4, 5, 6, 8], .o 2, .o 5, .p 6, .a 7, .o 8]) (.s (.s .d (.b (.l [.slot 4 (.int .i64), .box 3 kapiScene] (.s (.s .d (.c .d .d)) (.s (.b (.s .d (.s .d (.q [] [3] [.p 0, .p 2, .p 3, .p 5, .w 1 [1, 11, 12, 13], .w 4 [4, 6, 7, 8, 9, 10, 11, 12, 13], .p 6, .w 7 [7, 8, 9, 10, 11, 12, 13], .p 8, .p 9, .o 10, .o 11, .p 12, .o 13])))) .d))))) (.s .d (.s .d (.s .d (.s .d (.s .d .d))))))))

def law22_moved.l1 (c1 : Den kapiScene) (go12 : (Int × Unit) → Heap → Prop) (s10 : (Int × Unit)) (go15 : (Int × Unit) → Heap → Prop) (s13 : (Int × Unit)) (h14 : Heap) : Prop :=
    (0 ≤ s10.1 ∧ s10.1 < (c1.2.2.1.len : Int)) ∧
    deref c1.2.2.1.a fun a16 =>
    ld (.sl : Kd) h14 (a16.add ((s10.1 : Int).toNat * 1)) fun t17 =>
    (((decide (s13.1 < (t17.len : Int))) = true →
    (0 ≤ s10.1 ∧ s10.1 < (c1.2.2.1.len : Int)) ∧
    deref c1.2.2.1.a fun a18 =>
    ld (.sl : Kd) h14 (a18.add ((s10.1 : Int).toNat * 1)) fun t19 =>
    (0 ≤ s10.1 ∧ s10.1 < (c1.2.2.1.len : Int)) ∧
    deref c1.2.2.1.a fun a20 =>
    ld (.sl : Kd) h14 (a20.add ((s10.1 : Int).toNat * 1)) fun t21 =>
    (0 ≤ s13.1 ∧ s13.1 < (t21.len : Int)) ∧
    deref t21.a fun a22 =>
    ld ((.int .i64) : Kd) h14 ((a22.add ((s13.1 : Int).toNat * 5)).add 1) fun t23 =>
    (5 : Int) ≠ 0 ∧
    (0 ≤ s13.1 ∧ s13.1 < (t19.len : Int)) ∧
    deref t19.a fun a24 =>
    st ((.int .i64) : Kd) h14 ((a24.add ((s13.1 : Int).toNat * 5)).add 1) (Int.tmod (w64 (t23 + 1)) 5) fun h25 =>
    (0 ≤ s10.1 ∧ s10.1 < (c1.2.2.1.len : Int)) ∧
    deref c1.2.2.1.a fun a26 =>
    ld (.sl : Kd) h25 (a26.add ((s10.1 : Int).toNat * 1)) fun t27 =>
    (0 ≤ s10.1 ∧ s10.1 < (c1.2.2.1.len : Int)) ∧
    deref c1.2.2.1.a fun a28 =>
    ld (.sl : Kd) h25 (a28.add ((s10.1 : Int).toNat * 1)) fun t29 =>
    (0 ≤ s13.1 ∧ s13.1 < (t29.len : Int)) ∧
    deref t29.a fun a30 =>
    ld ((.int .i64) : Kd) h25 ((a30.add ((s13.1 : Int).toNat * 5)).add 3) fun t31 =>
    (0 ≤ s13.1 ∧ s13.1 < (t27.len : Int)) ∧
    deref t27.a fun a32 =>
    st ((.int .i64) : Kd) h25 ((a32.add ((s13.1 : Int).toNat * 5)).add 3) (w64 (t31 + 1)) fun h33 =>
    go15 ((w64 (s13.1 + 1)), ()) h33) ∧
    ((decide (s13.1 < (t17.len : Int))) = false →
    go12 ((w64 (s10.1 + 1)), ()) h14))
def law22_moved.l2 (c1 : Den kapiScene) (Q : Unit → Heap → Prop) (go12 : (Int × Unit) → Heap → Prop) (s10 : (Int × Unit)) (h11 : Heap) : Prop :=
    (((decide (s10.1 < (c1.2.2.1.len : Int))) = true →
    Loop (law22_moved.l1 c1 go12 s10) (0, ()) h11) ∧
    ((decide (s10.1 < (c1.2.2.1.len : Int))) = false →
    Q () h11))
def law22_moved.l3 (c1 : Den kapiScene) (Q : Unit → Heap → Prop) (go5 : (Int × Unit) → Heap → Prop) (s3 : (Int × Unit)) (h4 : Heap) : Prop :=
    (((decide (s3.1 < (c1.2.1.len : Int))) = true →
    (0 ≤ s3.1 ∧ s3.1 < (c1.2.1.len : Int)) ∧
    deref c1.2.1.a fun a6 =>
    ld ((.int .i64) : Kd) h4 (a6.add ((s3.1 : Int).toNat * 1)) fun t7 =>
    (0 ≤ s3.1 ∧ s3.1 < (c1.2.1.len : Int)) ∧
    deref c1.2.1.a fun a8 =>
    st ((.int .i64) : Kd) h4 (a8.add ((s3.1 : Int).toNat * 1)) (w64 (t7 + 1)) fun h9 =>
    go5 ((w64 (s3.1 + 1)), ()) h9) ∧
    ((decide (s3.1 < (c1.2.1.len : Int))) = false →
    Loop (law22_moved.l2 c1 Q) (0, ()) h4))
def law22_moved.M  (c1 : Den kapiScene) (h2 : Heap) (Q : Unit → Heap → Prop) : Prop :=
    Loop (law22_moved.l3 c1 Q) (0, ()) h2
def law22_moved.mk : Mk := (.s (.r [0]) (.s (.s .d (.b (.l [.slot 2 (.int .i64)] (.s (.s .d (.c .d .d)) (.s (.b (.q [] [] [.p 0, .p 2, .p 3, .p 5, .w 1 [1, 9, 10], .w 4 [4, 6, 7, 8, 9, 10], .p 6, .w 7 [7, 8, 9, 10], .p 8, .p 9, .o 10])) .d))))) (.s .d (.b (.l [.slot 3 (.int .i64)] (.s (.s .d (.c .d .d)) (.s (.b (.s .d (.b (.l [.slot 4 (.int .i64)] (.s (.s .d (.c .d .d)) (.s (.b (.s (.q [] [] [.p 0, .p 2, .p 5, .p 6, .p 8, .p 11, .w 1 [1, 3, 4, 17, 18, 19], .p 3, .w 4 [4, 17, 18, 19], .w 7 [7, 9, 10, 12, 13, 14, 15, 16, 17, 18, 19], .p 9, .w 10 [10, 12, 13, 14, 15, 16, 17, 18, 19], .p 12, .p 13, .w 14 [14, 15, 16, 17, 18, 19], .p 15, .p 16, .p 17, .p 18, .o 19]) (.q [] [] [.p 0, .p 2, .p 5, .p 6, .p 8, .p 11, .w 1 [1, 3, 4, 16, 17, 18], .p 3, .w 4 [4, 16, 17, 18], .w 7 [7, 9, 10, 12, 13, 14, 15, 16, 17, 18], .p 9, .w 10 [10, 12, 13, 14, 15, 16, 17, 18], .p 12, .p 13, .w 14 [14, 15, 16, 17, 18], .p 15, .p 16, .p 17, .o 18]))) .d)))))) .d)))))))

def law22_turned.l1 (list1 : Sl) (Q : Sl → Heap → Prop) (go5 : (Sl × (Int × Unit)) → Heap → Prop) (s3 : (Sl × (Int × Unit))) (h4 : Heap) : Prop :=
    (((decide (s3.2.1 < (list1.len : Int))) = true →
    (0 ≤ (w64 ((w64 ((list1.len : Int) - 1)) - s3.2.1)) ∧ (w64 ((w64 ((list1.len : Int) - 1)) - s3.2.1)) < (list1.len : Int)) ∧
    deref list1.a fun a6 =>
    ld ((.int .i64) : Kd) h4 (a6.add (((w64 ((w64 ((list1.len : Int) - 1)) - s3.2.1)) : Int).toNat * 1)) fun t7 =>
    new h4 (([t7] : List (Den ((.int .i64) : Kd))).flatMap (Kd.cells ((.int .i64) : Kd))) fun p8 h9 =>
    appendM 1 8 h9 s3.1 ⟨some p8, 1, 1⟩ fun t10 h11 =>
    go5 (t10, (w64 (s3.2.1 + 1)), ()) h11) ∧
    ((decide (s3.2.1 < (list1.len : Int))) = false →
    new h4 (([(-77)] : List (Den ((.int .i64) : Kd))).flatMap (Kd.cells ((.int .i64) : Kd))) fun p12 h13 =>
    appendM 1 8 h13 s3.1 ⟨some p12, 1, 1⟩ fun t14 h15 =>
    (0 ≤ (list1.len : Int) ∧ (list1.len : Int) ≤ (t14.cap : Int)) ∧
    Q (t14.cut 0 (((list1.len : Int) : Int).toNat) 1) h15))
def law22_turned.M  (list1 : Sl) (h2 : Heap) (Q : Sl → Heap → Prop) : Prop :=
    Loop (law22_turned.l1 list1 Q) (⟨none, 0, 0⟩, 0, ()) h2
def law22_turned.mk : Mk := (.s .d (.s .d (.s (.s .d (.b (.l [.slot 3 .sl, .slot 4 (.int .i64)] (.s (.s .d (.c .d .d)) (.s (.b .d) .d))))) (.s .d (.s .d .d)))))

def explore_Foata.M (c_explore_ready : Den kapiScene → Sl → Heap → (Int → Heap → Prop) → Prop) (c_explore_form : Den kapiScene → Sl → Heap → (Sl → Heap → Prop) → Prop) (s1 : Den kapiScene) (picks2 : Sl) (h3 : Heap) (Q : (Sl × (Int × Unit)) → Heap → Prop) : Prop :=
    c_explore_ready (s1.1, (s1.2.1, (s1.2.2.1, ()))) picks2 h3 fun r4 h5 =>
    (((decide (r4 ≠ 0)) = true →
    Q (⟨none, 0, 0⟩, r4, ()) h5) ∧
    ((decide (r4 ≠ 0)) = false →
    c_explore_form (s1.1, (s1.2.1, (s1.2.2.1, ()))) picks2 h5 fun r6 h7 =>
    Q (r6, 0, ()) h7))
def explore_Foata.mk : Mk := (.s (.r [0]) (.s (.s .d (.s .d (.c (.s .d .d) .d))) (.s .d .d)))

def law22_back.l1 (c1 : Den kapiScene) (s2 : Den kapiScene) (go13 : (Int × Unit) → Heap → Prop) (s11 : (Int × Unit)) (go16 : (Int × Unit) → Heap → Prop) (s14 : (Int × Unit)) (h15 : Heap) : Prop :=
    (0 ≤ s11.1 ∧ s11.1 < (s2.2.2.1.len : Int)) ∧
    deref s2.2.2.1.a fun a17 =>
    ld (.sl : Kd) h15 (a17.add ((s11.1 : Int).toNat * 1)) fun t18 =>
    (((decide (s14.1 < (t18.len : Int))) = true →
    (0 ≤ s11.1 ∧ s11.1 < (c1.2.2.1.len : Int)) ∧
    deref c1.2.2.1.a fun a19 =>
    ld (.sl : Kd) h15 (a19.add ((s11.1 : Int).toNat * 1)) fun t20 =>
    (0 ≤ s11.1 ∧ s11.1 < (s2.2.2.1.len : Int)) ∧
    deref s2.2.2.1.a fun a21 =>
    ld (.sl : Kd) h15 (a21.add ((s11.1 : Int).toNat * 1)) fun t22 =>
    (0 ≤ s14.1 ∧ s14.1 < (t22.len : Int)) ∧
    deref t22.a fun a23 =>
    ld kapiAct h15 (a23.add ((s14.1 : Int).toNat * 5)) fun t24 =>
    (0 ≤ s14.1 ∧ s14.1 < (t20.len : Int)) ∧
    deref t20.a fun a25 =>
    st kapiAct h15 (a25.add ((s14.1 : Int).toNat * 5)) t24 fun h26 =>
    go16 ((w64 (s14.1 + 1)), ()) h26) ∧
    ((decide (s14.1 < (t18.len : Int))) = false →
    go13 ((w64 (s11.1 + 1)), ()) h15))
def law22_back.l2 (c1 : Den kapiScene) (s2 : Den kapiScene) (Q : Unit → Heap → Prop) (go13 : (Int × Unit) → Heap → Prop) (s11 : (Int × Unit)) (h12 : Heap) : Prop :=
    (((decide (s11.1 < (s2.2.2.1.len : Int))) = true →
    Loop (law22_back.l1 c1 s2 go13 s11) (0, ()) h12) ∧
    ((decide (s11.1 < (s2.2.2.1.len : Int))) = false →
    Q () h12))
def law22_back.l3 (c1 : Den kapiScene) (s2 : Den kapiScene) (Q : Unit → Heap → Prop) (go6 : (Int × Unit) → Heap → Prop) (s4 : (Int × Unit)) (h5 : Heap) : Prop :=
    (((decide (s4.1 < (s2.2.1.len : Int))) = true →
    (0 ≤ s4.1 ∧ s4.1 < (s2.2.1.len : Int)) ∧
    deref s2.2.1.a fun a7 =>
    ld ((.int .i64) : Kd) h5 (a7.add ((s4.1 : Int).toNat * 1)) fun t8 =>
    (0 ≤ s4.1 ∧ s4.1 < (c1.2.1.len : Int)) ∧
    deref c1.2.1.a fun a9 =>
    st ((.int .i64) : Kd) h5 (a9.add ((s4.1 : Int).toNat * 1)) t8 fun h10 =>
    go6 ((w64 (s4.1 + 1)), ()) h10) ∧
    ((decide (s4.1 < (s2.2.1.len : Int))) = false →
    Loop (law22_back.l2 c1 s2 Q) (0, ()) h5))
def law22_back.M  (c1 : Den kapiScene) (s2 : Den kapiScene) (h3 : Heap) (Q : Unit → Heap → Prop) : Prop :=
    Loop (law22_back.l3 c1 s2 Q) (0, ()) h3
def law22_back.mk : Mk := (.s (.r [0, 1]) (.s (.s .d (.b (.l [.slot 4 (.int .i64)] (.s (.s .d (.c .d .d)) (.s (.b (.q [] [] [.p 0, .p 2, .p 3, .p 5, .w 1 [1, 8, 9], .w 4 [4, 6, 7, 8, 9], .p 6, .w 7 [7, 8, 9], .p 8, .o 9])) .d))))) (.s .d (.b (.l [.slot 5 (.int .i64)] (.s (.s .d (.c .d .d)) (.s (.b (.s .d (.b (.l [.slot 6 (.int .i64)] (.s (.s .d (.c .d .d)) (.s (.b (.q [] [] [.p 0, .p 2, .p 5, .p 6, .p 8, .p 11, .w 1 [1, 3, 4, 14, 15], .p 3, .w 4 [4, 14, 15], .w 7 [7, 9, 10, 12, 13, 14, 15], .p 9, .w 10 [10, 12, 13, 14, 15], .p 12, .w 13 [13, 14, 15], .p 14, .o 15])) .d)))))) .d)))))))

def law22_written.l1 (l1 : Sl) (list2 : Sl) (Q : Unit → Heap → Prop) (go6 : (Int × Unit) → Heap → Prop) (s4 : (Int × Unit)) (h5 : Heap) : Prop :=
    (((decide (s4.1 < (list2.len : Int))) = true →
    (0 ≤ s4.1 ∧ s4.1 < (list2.len : Int)) ∧
    deref list2.a fun a7 =>
    ld ((.int .i64) : Kd) h5 (a7.add ((s4.1 : Int).toNat * 1)) fun t8 =>
    (0 ≤ s4.1 ∧ s4.1 < (l1.len : Int)) ∧
    deref l1.a fun a9 =>
    st ((.int .i64) : Kd) h5 (a9.add ((s4.1 : Int).toNat * 1)) t8 fun h10 =>
    go6 ((w64 (s4.1 + 1)), ()) h10) ∧
    ((decide (s4.1 < (list2.len : Int))) = false →
    Q () h5))
def law22_written.M  (l1 : Sl) (list2 : Sl) (h3 : Heap) (Q : Unit → Heap → Prop) : Prop :=
    Loop (law22_written.l1 l1 list2 Q) (0, ()) h3
def law22_written.mk : Mk := (.s .d (.b (.l [.slot 4 (.int .i64)] (.s (.s .d (.c .d .d)) (.s (.b .d) .d)))))

def law22_spoilt.l1 (l1 : Sl) (go5 : (Int × Unit) → Heap → Prop) (s3 : (Int × Unit)) (go8 : (Int × Unit) → Heap → Prop) (s6 : (Int × Unit)) (h7 : Heap) : Prop :=
    (0 ≤ s3.1 ∧ s3.1 < (l1.len : Int)) ∧
    deref l1.a fun a9 =>
    ld (.sl : Kd) h7 (a9.add ((s3.1 : Int).toNat * 1)) fun t10 =>
    (((decide (s6.1 < (t10.len : Int))) = true →
    (0 ≤ s3.1 ∧ s3.1 < (l1.len : Int)) ∧
    deref l1.a fun a11 =>
    ld (.sl : Kd) h7 (a11.add ((s3.1 : Int).toNat * 1)) fun t12 =>
    (0 ≤ s6.1 ∧ s6.1 < (t12.len : Int)) ∧
    deref t12.a fun a13 =>
    st ((.int .i64) : Kd) h7 (a13.add ((s6.1 : Int).toNat * 1)) (w64 ((w64 ((-1) - s3.1)) - s6.1)) fun h14 =>
    go8 ((w64 (s6.1 + 1)), ()) h14) ∧
    ((decide (s6.1 < (t10.len : Int))) = false →
    go5 ((w64 (s3.1 + 1)), ()) h7))
def law22_spoilt.l2 (c_law22_longer : Sl → Int → Heap → (Sl → Heap → Prop) → Prop) (l1 : Sl) (Q : Int → Heap → Prop) (go17 : Den kapiEdge → Heap → Prop) (s15 : Den kapiEdge) (h16 : Heap) : Prop :=
    (((decide (s15.2.1 < (l1.len : Int))) = true →
    (0 ≤ s15.2.1 ∧ s15.2.1 < (l1.len : Int)) ∧
    deref l1.a fun a18 =>
    ld (.sl : Kd) h16 (a18.add ((s15.2.1 : Int).toNat * 1)) fun t19 =>
    c_law22_longer t19 (w64 ((-100) - s15.2.1)) h16 fun r20 h21 =>
    go17 ((w64 (s15.1 + (r20.len : Int))), (w64 (s15.2.1 + 1)), ()) h21) ∧
    ((decide (s15.2.1 < (l1.len : Int))) = false →
    Q s15.1 h16))
def law22_spoilt.l3 (c_law22_longer : Sl → Int → Heap → (Sl → Heap → Prop) → Prop) (l1 : Sl) (Q : Int → Heap → Prop) (go5 : (Int × Unit) → Heap → Prop) (s3 : (Int × Unit)) (h4 : Heap) : Prop :=
    (((decide (s3.1 < (l1.len : Int))) = true →
    Loop (law22_spoilt.l1 l1 go5 s3) (0, ()) h4) ∧
    ((decide (s3.1 < (l1.len : Int))) = false →
    Loop (law22_spoilt.l2 c_law22_longer l1 Q) (0, 0, ()) h4))
def law22_spoilt.M (c_law22_longer : Sl → Int → Heap → (Sl → Heap → Prop) → Prop) (l1 : Sl) (h2 : Heap) (Q : Int → Heap → Prop) : Prop :=
    Loop (law22_spoilt.l3 c_law22_longer l1 Q) (0, ()) h2
def law22_spoilt.mk : Mk := (.s .d (.s (.s .d (.b (.l [.slot 3 (.int .i64)] (.s (.s .d (.c .d .d)) (.s (.b (.s .d (.b (.l [.slot 4 (.int .i64)] (.s (.s .d (.c .d .d)) (.s (.b .d) .d)))))) .d))))) (.s .d (.s (.s .d (.b (.l [.slot 5 (.int .i64), .slot 6 (.int .i64)] (.s (.s .d (.c .d .d)) (.s (.b (.s .d .d)) .d))))) (.s .d .d)))))

def ref22_Foata.j1 (go10 : (Sl × (Sl × (Int × Unit))) → Heap → Prop) (s8 : (Sl × (Sl × (Int × Unit)))) (s11 : Den kapiEnding) (h12 : Heap) : Prop :=
    go10 (s11.1, s11.2.1, (w64 (s8.2.2.1 + 1)), ()) h12
def ref22_Foata.j2 (go15 : Den kapiEdge → Heap → Prop) (s13 : Den kapiEdge) (s16 : (Int × Unit)) (h17 : Heap) : Prop :=
    go15 (s16.1, (w64 (s13.2.1 + 1)), ()) h17
def ref22_Foata.j3 (s8 : (Sl × (Sl × (Int × Unit)))) (go15 : Den kapiEdge → Heap → Prop) (s13 : Den kapiEdge) (s18 : (Bool × Unit)) (h19 : Heap) : Prop :=
    ((s18.1 = true →
    (0 ≤ s13.2.1 ∧ s13.2.1 < (s8.1.len : Int)) ∧
    deref s8.1.a fun a20 =>
    ld ((.int .i64) : Kd) h19 (a20.add ((s13.2.1 : Int).toNat * 1)) fun t21 =>
    ref22_Foata.j2 go15 s13 ((w64 (t21 + 1)), ()) h19) ∧
    (s18.1 = false →
    ref22_Foata.j2 go15 s13 (s13.1, ()) h19))
def ref22_Foata.l4 (c_ref22_bound : Den kapiScene → Den kref22Act → Den kref22Act → Heap → (Bool → Heap → Prop) → Prop) (s1 : Den kapiScene) (r6 : Sl) (go10 : (Sl × (Sl × (Int × Unit))) → Heap → Prop) (s8 : (Sl × (Sl × (Int × Unit)))) (go15 : Den kapiEdge → Heap → Prop) (s13 : Den kapiEdge) (h14 : Heap) : Prop :=
    (((decide (s13.2.1 < s8.2.2.1)) = true →
    (0 ≤ s13.2.1 ∧ s13.2.1 < (s8.1.len : Int)) ∧
    deref s8.1.a fun a22 =>
    ld ((.int .i64) : Kd) h14 (a22.add ((s13.2.1 : Int).toNat * 1)) fun t23 =>
    (((decide (s13.1 ≤ t23)) = true →
    (0 ≤ s13.2.1 ∧ s13.2.1 < (r6.len : Int)) ∧
    deref r6.a fun a24 =>
    (0 ≤ s8.2.2.1 ∧ s8.2.2.1 < (r6.len : Int)) ∧
    deref r6.a fun a25 =>
    ld kref22Act h14 (a24.add ((s13.2.1 : Int).toNat * 6)) fun t26 =>
    ld kref22Act h14 (a25.add ((s8.2.2.1 : Int).toNat * 6)) fun t27 =>
    c_ref22_bound (s1.1, (s1.2.1, (s1.2.2.1, ()))) t26 t27 h14 fun r28 h29 =>
    ref22_Foata.j3 s8 go15 s13 (r28, ()) h29) ∧
    ((decide (s13.1 ≤ t23)) = false →
    ref22_Foata.j3 s8 go15 s13 (false, ()) h14))) ∧
    ((decide (s13.2.1 < s8.2.2.1)) = false →
    new h14 (([s13.1] : List (Den ((.int .i64) : Kd))).flatMap (Kd.cells ((.int .i64) : Kd))) fun p30 h31 =>
    appendM 1 8 h31 s8.1 ⟨some p30, 1, 1⟩ fun t32 h33 =>
    (((decide (s13.1 = (s8.2.1.len : Int))) = true →
    new h33 (([⟨none, 0, 0⟩] : List (Den (.sl : Kd))).flatMap (Kd.cells (.sl : Kd))) fun p34 h35 =>
    appendM 1 24 h35 s8.2.1 ⟨some p34, 1, 1⟩ fun t36 h37 =>
    ref22_Foata.j1 go10 s8 (t32, t36, ()) h37) ∧
    ((decide (s13.1 = (s8.2.1.len : Int))) = false →
    ref22_Foata.j1 go10 s8 (t32, s8.2.1, ()) h33))))
def ref22_Foata.j5 (go46 : (Int × Unit) → Heap → Prop) (s44 : (Int × Unit)) (s47 : Unit) (h48 : Heap) : Prop :=
    go46 ((w64 (s44.1 + 1)), ()) h48
def ref22_Foata.j6 (s8 : (Sl × (Sl × (Int × Unit)))) (s38 : (Int × Unit)) (s41 : (Int × Unit)) (go46 : (Int × Unit) → Heap → Prop) (s44 : (Int × Unit)) (s49 : (Bool × Unit)) (h50 : Heap) : Prop :=
    ((s49.1 = true →
    (0 ≤ s38.1 ∧ s38.1 < (s8.2.1.len : Int)) ∧
    deref s8.2.1.a fun a51 =>
    ld (.sl : Kd) h50 (a51.add ((s38.1 : Int).toNat * 1)) fun t52 =>
    new h50 (([s41.1] : List (Den ((.int .i64) : Kd))).flatMap (Kd.cells ((.int .i64) : Kd))) fun p53 h54 =>
    appendM 1 8 h54 t52 ⟨some p53, 1, 1⟩ fun t55 h56 =>
    (0 ≤ s38.1 ∧ s38.1 < (s8.2.1.len : Int)) ∧
    deref s8.2.1.a fun a57 =>
    st (.sl : Kd) h56 (a57.add ((s38.1 : Int).toNat * 1)) t55 fun h58 =>
    ref22_Foata.j5 go46 s44 () h58) ∧
    (s49.1 = false →
    ref22_Foata.j5 go46 s44 () h50))
def ref22_Foata.l7 (r6 : Sl) (s8 : (Sl × (Sl × (Int × Unit)))) (s38 : (Int × Unit)) (go43 : (Int × Unit) → Heap → Prop) (s41 : (Int × Unit)) (go46 : (Int × Unit) → Heap → Prop) (s44 : (Int × Unit)) (h45 : Heap) : Prop :=
    (((decide (s44.1 < (r6.len : Int))) = true →
    (0 ≤ s44.1 ∧ s44.1 < (s8.1.len : Int)) ∧
    deref s8.1.a fun a59 =>
    ld ((.int .i64) : Kd) h45 (a59.add ((s44.1 : Int).toNat * 1)) fun t60 =>
    (((decide (t60 = s38.1)) = true →
    (0 ≤ s44.1 ∧ s44.1 < (r6.len : Int)) ∧
    deref r6.a fun a61 =>
    ld ((.int .i64) : Kd) h45 ((a61.add ((s44.1 : Int).toNat * 6)).add 0) fun t62 =>
    ref22_Foata.j6 s8 s38 s41 go46 s44 ((decide (t62 = s41.1)), ()) h45) ∧
    ((decide (t60 = s38.1)) = false →
    ref22_Foata.j6 s8 s38 s41 go46 s44 (false, ()) h45))) ∧
    ((decide (s44.1 < (r6.len : Int))) = false →
    go43 ((w64 (s41.1 + 1)), ()) h45))
def ref22_Foata.l8 (s1 : Den kapiScene) (r6 : Sl) (s8 : (Sl × (Sl × (Int × Unit)))) (go40 : (Int × Unit) → Heap → Prop) (s38 : (Int × Unit)) (go43 : (Int × Unit) → Heap → Prop) (s41 : (Int × Unit)) (h42 : Heap) : Prop :=
    (((decide (s41.1 < (s1.2.2.1.len : Int))) = true →
    Loop (ref22_Foata.l7 r6 s8 s38 go43 s41) (0, ()) h42) ∧
    ((decide (s41.1 < (s1.2.2.1.len : Int))) = false →
    go40 ((w64 (s38.1 + 1)), ()) h42))
def ref22_Foata.l9 (s1 : Den kapiScene) (Q : (Sl × (Int × Unit)) → Heap → Prop) (r6 : Sl) (s8 : (Sl × (Sl × (Int × Unit)))) (go40 : (Int × Unit) → Heap → Prop) (s38 : (Int × Unit)) (h39 : Heap) : Prop :=
    (((decide (s38.1 < (s8.2.1.len : Int))) = true →
    Loop (ref22_Foata.l8 s1 r6 s8 go40 s38) (0, ()) h39) ∧
    ((decide (s38.1 < (s8.2.1.len : Int))) = false →
    Q (s8.2.1, 0, ()) h39))
def ref22_Foata.l10 (c_ref22_bound : Den kapiScene → Den kref22Act → Den kref22Act → Heap → (Bool → Heap → Prop) → Prop) (s1 : Den kapiScene) (Q : (Sl × (Int × Unit)) → Heap → Prop) (r6 : Sl) (go10 : (Sl × (Sl × (Int × Unit))) → Heap → Prop) (s8 : (Sl × (Sl × (Int × Unit)))) (h9 : Heap) : Prop :=
    (((decide (s8.2.2.1 < (r6.len : Int))) = true →
    Loop (ref22_Foata.l4 c_ref22_bound s1 r6 go10 s8) (0, 0, ()) h9) ∧
    ((decide (s8.2.2.1 < (r6.len : Int))) = false →
    Loop (ref22_Foata.l9 s1 Q r6 s8) (0, ()) h9))
def ref22_Foata.M (c_ref22_Bad : Den kapiScene → Sl → Heap → (Int → Heap → Prop) → Prop) (c_ref22_Row : Den kapiScene → Sl → Heap → (Sl → Heap → Prop) → Prop) (c_ref22_bound : Den kapiScene → Den kref22Act → Den kref22Act → Heap → (Bool → Heap → Prop) → Prop) (s1 : Den kapiScene) (picks2 : Sl) (h3 : Heap) (Q : (Sl × (Int × Unit)) → Heap → Prop) : Prop :=
    c_ref22_Bad (s1.1, (s1.2.1, (s1.2.2.1, ()))) picks2 h3 fun r4 h5 =>
    (((decide (r4 ≠ 0)) = true →
    Q (⟨none, 0, 0⟩, r4, ()) h5) ∧
    ((decide (r4 ≠ 0)) = false →
    c_ref22_Row (s1.1, (s1.2.1, (s1.2.2.1, ()))) picks2 h5 fun r6 h7 =>
    Loop (ref22_Foata.l10 c_ref22_bound s1 Q r6) (⟨none, 0, 0⟩, ⟨none, 0, 0⟩, 0, ()) h7))
def ref22_Foata.mk : Mk := (.s (.r [0]) (.s .d (.s (.s .d (.c (.s .d .d) .d)) (.s .d (.s .d (.s .d (.s (.s .d (.b (.l [.slot 8 .sl, .slot 9 .sl, .slot 10 (.int .i64)] (.s (.s .d (.c .d .d)) (.j [.slot 8 .sl, .slot 9 .sl] (.b (.s .d (.s (.s .d (.b (.l [.slot 11 (.int .i64), .slot 12 (.int .i64)] (.s (.s .d (.c .d .d)) (.j [.slot 11 (.int .i64)] (.b (.j [.slot 53 .bool] (.q [] [] [.p 0, .p 1, .p 2, .p 4, .w 3 [3, 5, 6, 7, 8, 9, 10, 11, 12, 13, 14, 15, 16, 17], .p 5, .p 6, .p 8, .p 9, .p 10, .p 12, .p 13, .p 14, .w 7 [7, 16, 17], .w 11 [11, 16, 17], .w 15 [15, 16, 17], .o 16, .p 17]) (.c .d .d))) .d))))) (.s .d (.s .d (.c .d .d)))))) .d))))) (.s (.s .d (.b (.l [.slot 13 (.int .i64)] (.s (.s .d (.c .d .d)) (.s (.b (.s .d (.b (.l [.slot 14 (.int .i64)] (.s (.s .d (.c .d .d)) (.s (.b (.s .d (.b (.l [.slot 15 (.int .i64)] (.s (.s .d (.c .d .d)) (.j [] (.b (.j [.slot 103 .bool] .d (.c .d .d))) .d)))))) .d)))))) .d))))) (.s .d .d)))))))))

def law22_sameLists.l1 (c_law22_same : Sl → Sl → Heap → (Bool → Heap → Prop) → Prop) (a1 : Sl) (b2 : Sl) (Q : Bool → Heap → Prop) (go6 : (Int × Unit) → Heap → Prop) (s4 : (Int × Unit)) (h5 : Heap) : Prop :=
    (((decide (s4.1 < (a1.len : Int))) = true →
    (0 ≤ s4.1 ∧ s4.1 < (a1.len : Int)) ∧
    deref a1.a fun a7 =>
    (0 ≤ s4.1 ∧ s4.1 < (b2.len : Int)) ∧
    deref b2.a fun a8 =>
    ld (.sl : Kd) h5 (a7.add ((s4.1 : Int).toNat * 1)) fun t9 =>
    ld (.sl : Kd) h5 (a8.add ((s4.1 : Int).toNat * 1)) fun t10 =>
    c_law22_same t9 t10 h5 fun r11 h12 =>
    (((!r11) = true →
    Q false h12) ∧
    ((!r11) = false →
    go6 ((w64 (s4.1 + 1)), ()) h12))) ∧
    ((decide (s4.1 < (a1.len : Int))) = false →
    Q true h5))
def law22_sameLists.M (c_law22_same : Sl → Sl → Heap → (Bool → Heap → Prop) → Prop) (a1 : Sl) (b2 : Sl) (h3 : Heap) (Q : Bool → Heap → Prop) : Prop :=
    (((decide ((a1.len : Int) ≠ (b2.len : Int))) = true →
    Q false h3) ∧
    ((decide ((a1.len : Int) ≠ (b2.len : Int))) = false →
    Loop (law22_sameLists.l1 c_law22_same a1 b2 Q) (0, ()) h3))
def law22_sameLists.mk : Mk := (.s .d (.s (.s .d (.c (.s .d .d) .d)) (.s (.s .d (.b (.l [.slot 5 (.int .i64)] (.s (.s .d (.c .d .d)) (.s (.b (.s (.q [] [] [.p 0, .p 1, .p 2, .p 4, .p 5, .p 6, .w 3 [3, 8, 9], .w 7 [7, 8, 9], .o 8, .p 9]) (.c (.s .d .d) .d))) .d))))) (.s .d .d))))

def law22_alike.l1 (a1 : Den kapiScene) (b2 : Den kapiScene) (Q : Bool → Heap → Prop) (go8 : (Int × Unit) → Heap → Prop) (s6 : (Int × Unit)) (go15 : (Int × Unit) → Heap → Prop) (s13 : (Int × Unit)) (h14 : Heap) : Prop :=
    (0 ≤ s6.1 ∧ s6.1 < (a1.2.2.1.len : Int)) ∧
    deref a1.2.2.1.a fun a16 =>
    ld (.sl : Kd) h14 (a16.add ((s6.1 : Int).toNat * 1)) fun t17 =>
    (((decide (s13.1 < (t17.len : Int))) = true →
    (0 ≤ s6.1 ∧ s6.1 < (a1.2.2.1.len : Int)) ∧
    deref a1.2.2.1.a fun a18 =>
    ld (.sl : Kd) h14 (a18.add ((s6.1 : Int).toNat * 1)) fun t19 =>
    (0 ≤ s13.1 ∧ s13.1 < (t19.len : Int)) ∧
    deref t19.a fun a20 =>
    ld kapiAct h14 (a20.add ((s13.1 : Int).toNat * 5)) fun t21 =>
    (0 ≤ s6.1 ∧ s6.1 < (b2.2.2.1.len : Int)) ∧
    deref b2.2.2.1.a fun a22 =>
    ld (.sl : Kd) h14 (a22.add ((s6.1 : Int).toNat * 1)) fun t23 =>
    (0 ≤ s13.1 ∧ s13.1 < (t23.len : Int)) ∧
    deref t23.a fun a24 =>
    ld kapiAct h14 (a24.add ((s13.1 : Int).toNat * 5)) fun t25 =>
    (((!(eqK kapiAct t21 t25)) = true →
    Q false h14) ∧
    ((!(eqK kapiAct t21 t25)) = false →
    go15 ((w64 (s13.1 + 1)), ()) h14))) ∧
    ((decide (s13.1 < (t17.len : Int))) = false →
    go8 ((w64 (s6.1 + 1)), ()) h14))
def law22_alike.l2 (a1 : Den kapiScene) (b2 : Den kapiScene) (Q : Bool → Heap → Prop) (go8 : (Int × Unit) → Heap → Prop) (s6 : (Int × Unit)) (h7 : Heap) : Prop :=
    (((decide (s6.1 < (a1.2.2.1.len : Int))) = true →
    (0 ≤ s6.1 ∧ s6.1 < (a1.2.2.1.len : Int)) ∧
    deref a1.2.2.1.a fun a9 =>
    ld (.sl : Kd) h7 (a9.add ((s6.1 : Int).toNat * 1)) fun t10 =>
    (0 ≤ s6.1 ∧ s6.1 < (b2.2.2.1.len : Int)) ∧
    deref b2.2.2.1.a fun a11 =>
    ld (.sl : Kd) h7 (a11.add ((s6.1 : Int).toNat * 1)) fun t12 =>
    (((decide ((t10.len : Int) ≠ (t12.len : Int))) = true →
    Q false h7) ∧
    ((decide ((t10.len : Int) ≠ (t12.len : Int))) = false →
    Loop (law22_alike.l1 a1 b2 Q go8 s6) (0, ()) h7))) ∧
    ((decide (s6.1 < (a1.2.2.1.len : Int))) = false →
    Q true h7))
def law22_alike.j3 (a1 : Den kapiScene) (b2 : Den kapiScene) (Q : Bool → Heap → Prop) (s4 : Unit) (h5 : Heap) : Prop :=
    Loop (law22_alike.l2 a1 b2 Q) (0, ()) h5
def law22_alike.j4 (a1 : Den kapiScene) (b2 : Den kapiScene) (Q : Bool → Heap → Prop) (s26 : (Bool × Unit)) (h27 : Heap) : Prop :=
    ((s26.1 = true →
    Q false h27) ∧
    (s26.1 = false →
    law22_alike.j3 a1 b2 Q () h27))
def law22_alike.M (c_law22_marked : Den kapiScene → Heap → (Bool → Heap → Prop) → Prop) (c_law22_sameCells : Sl → Sl → Heap → (Bool → Heap → Prop) → Prop) (a1 : Den kapiScene) (b2 : Den kapiScene) (h3 : Heap) (Q : Bool → Heap → Prop) : Prop :=
    c_law22_marked (a1.1, (a1.2.1, (a1.2.2.1, ()))) h3 fun r28 h29 =>
    (((!r28) = true →
    law22_alike.j4 a1 b2 Q (true, ()) h29) ∧
    ((!r28) = false →
    (((decide (a1.1 ≠ b2.1)) = true →
    law22_alike.j4 a1 b2 Q (true, ()) h29) ∧
    ((decide (a1.1 ≠ b2.1)) = false →
    c_law22_sameCells a1.2.1 b2.2.1 h29 fun r30 h31 =>
    (((!r30) = true →
    law22_alike.j4 a1 b2 Q (true, ()) h31) ∧
    ((!r30) = false →
    law22_alike.j4 a1 b2 Q ((decide ((a1.2.2.1.len : Int) ≠ (b2.2.2.1.len : Int))), ()) h31))))))
def law22_alike.mk : Mk := (.s (.r [0, 1]) (.j [] (.j [.slot 33 .bool] .d (.c (.s .d .d) .d)) (.s (.s .d (.b (.l [.slot 5 (.int .i64)] (.s (.s .d (.c .d .d)) (.s (.b (.s (.s (.q [] [] [.p 0, .p 2, .p 6, .p 8, .w 1 [1, 3, 4, 5, 12], .p 3, .w 4 [4, 5, 12], .p 5, .w 7 [7, 9, 10, 11, 12], .p 9, .w 10 [10, 11, 12], .p 11, .p 12]) (.c (.s .d .d) .d)) (.s .d (.b (.l [.slot 6 (.int .i64)] (.s (.s .d (.c .d .d)) (.s (.b (.s (.q [] [] [.p 0, .p 2, .p 5, .p 8, .p 10, .p 13, .w 1 [1, 3, 4, 6, 7, 16], .p 3, .w 4 [4, 6, 7, 16], .p 6, .w 7 [7, 16], .w 9 [9, 11, 12, 14, 15, 16], .p 11, .w 12 [12, 14, 15, 16], .p 14, .w 15 [15, 16], .p 16]) (.c (.s .d .d) .d))) .d))))))) .d))))) (.s .d .d))))

def law22_kept.M (c_law22_same : Sl → Sl → Heap → (Bool → Heap → Prop) → Prop) (l1 : Sl) (list2 : Sl) (h3 : Heap) (Q : Bool → Heap → Prop) : Prop :=
    (0 ≤ (w64 ((l1.len : Int) + 1)) ∧ (w64 ((l1.len : Int) + 1)) ≤ (l1.cap : Int)) ∧
    c_law22_same l1 list2 h3 fun r4 h5 =>
    ((r4 = true →
    (0 ≤ (l1.len : Int) ∧ (l1.len : Int) < ((l1.cut 0 (((w64 ((l1.len : Int) + 1)) : Int).toNat) 1).len : Int)) ∧
    deref (l1.cut 0 (((w64 ((l1.len : Int) + 1)) : Int).toNat) 1).a fun a6 =>
    ld ((.int .i64) : Kd) h5 (a6.add (((l1.len : Int) : Int).toNat * 1)) fun t7 =>
    Q (decide (t7 = (-77))) h5) ∧
    (r4 = false →
    Q false h5))
def law22_kept.mk : Mk := (.s .d (.s .d (.s .d .d)))

def law22_apart.l1 (l1 : Sl) (go5 : (Int × Unit) → Heap → Prop) (s3 : (Int × Unit)) (go8 : (Int × Unit) → Heap → Prop) (s6 : (Int × Unit)) (h7 : Heap) : Prop :=
    (0 ≤ s3.1 ∧ s3.1 < (l1.len : Int)) ∧
    deref l1.a fun a9 =>
    ld (.sl : Kd) h7 (a9.add ((s3.1 : Int).toNat * 1)) fun t10 =>
    (((decide (s6.1 < (t10.len : Int))) = true →
    (0 ≤ s3.1 ∧ s3.1 < (l1.len : Int)) ∧
    deref l1.a fun a11 =>
    ld (.sl : Kd) h7 (a11.add ((s3.1 : Int).toNat * 1)) fun t12 =>
    (0 ≤ s6.1 ∧ s6.1 < (t12.len : Int)) ∧
    deref t12.a fun a13 =>
    st ((.int .i64) : Kd) h7 (a13.add ((s6.1 : Int).toNat * 1)) (w64 ((w64 (100 * s3.1)) + s6.1)) fun h14 =>
    go8 ((w64 (s6.1 + 1)), ()) h14) ∧
    ((decide (s6.1 < (t10.len : Int))) = false →
    go5 ((w64 (s3.1 + 1)), ()) h7))
def law22_apart.l2 (Q : Bool → Heap → Prop) (s15 : (Sl × (Int × Unit))) (go28 : (Int × Unit) → Heap → Prop) (s26 : (Int × Unit)) (go42 : (Int × Unit) → Heap → Prop) (s40 : (Int × Unit)) (h41 : Heap) : Prop :=
    (0 ≤ s26.1 ∧ s26.1 < (s15.1.len : Int)) ∧
    deref s15.1.a fun a43 =>
    ld (.sl : Kd) h41 (a43.add ((s26.1 : Int).toNat * 1)) fun t44 =>
    (((decide (s40.1 < (t44.len : Int))) = true →
    (0 ≤ s26.1 ∧ s26.1 < (s15.1.len : Int)) ∧
    deref s15.1.a fun a45 =>
    ld (.sl : Kd) h41 (a45.add ((s26.1 : Int).toNat * 1)) fun t46 =>
    (0 ≤ s40.1 ∧ s40.1 < (t46.len : Int)) ∧
    deref t46.a fun a47 =>
    ld ((.int .i64) : Kd) h41 (a47.add ((s40.1 : Int).toNat * 1)) fun t48 =>
    (((decide (t48 ≠ (w64 ((-7) - s26.1)))) = true →
    Q false h41) ∧
    ((decide (t48 ≠ (w64 ((-7) - s26.1)))) = false →
    go42 ((w64 (s40.1 + 1)), ()) h41))) ∧
    ((decide (s40.1 < (t44.len : Int))) = false →
    go28 ((w64 (s26.1 + 1)), ()) h41))
def law22_apart.l3 (l1 : Sl) (Q : Bool → Heap → Prop) (s15 : (Sl × (Int × Unit))) (go28 : (Int × Unit) → Heap → Prop) (s26 : (Int × Unit)) (go31 : (Int × Unit) → Heap → Prop) (s29 : (Int × Unit)) (h30 : Heap) : Prop :=
    (0 ≤ s26.1 ∧ s26.1 < (l1.len : Int)) ∧
    deref l1.a fun a32 =>
    ld (.sl : Kd) h30 (a32.add ((s26.1 : Int).toNat * 1)) fun t33 =>
    (((decide (s29.1 < (t33.len : Int))) = true →
    (0 ≤ s26.1 ∧ s26.1 < (l1.len : Int)) ∧
    deref l1.a fun a34 =>
    ld (.sl : Kd) h30 (a34.add ((s26.1 : Int).toNat * 1)) fun t35 =>
    (0 ≤ s29.1 ∧ s29.1 < (t35.len : Int)) ∧
    deref t35.a fun a36 =>
    ld ((.int .i64) : Kd) h30 (a36.add ((s29.1 : Int).toNat * 1)) fun t37 =>
    (((decide (t37 ≠ (w64 ((w64 (100 * s26.1)) + s29.1)))) = true →
    Q false h30) ∧
    ((decide (t37 ≠ (w64 ((w64 (100 * s26.1)) + s29.1)))) = false →
    go31 ((w64 (s29.1 + 1)), ()) h30))) ∧
    ((decide (s29.1 < (t33.len : Int))) = false →
    (0 ≤ s26.1 ∧ s26.1 < (l1.len : Int)) ∧
    deref l1.a fun a38 =>
    ld (.sl : Kd) h30 (a38.add ((s26.1 : Int).toNat * 1)) fun t39 =>
    Loop (law22_apart.l2 Q s15 go28 s26) ((t39.len : Int), ()) h30))
def law22_apart.l4 (l1 : Sl) (Q : Bool → Heap → Prop) (s15 : (Sl × (Int × Unit))) (go28 : (Int × Unit) → Heap → Prop) (s26 : (Int × Unit)) (h27 : Heap) : Prop :=
    (((decide (s26.1 < (l1.len : Int))) = true →
    Loop (law22_apart.l3 l1 Q s15 go28 s26) (0, ()) h27) ∧
    ((decide (s26.1 < (l1.len : Int))) = false →
    Q true h27))
def law22_apart.l5 (c_law22_longer : Sl → Int → Heap → (Sl → Heap → Prop) → Prop) (l1 : Sl) (Q : Bool → Heap → Prop) (go17 : (Sl × (Int × Unit)) → Heap → Prop) (s15 : (Sl × (Int × Unit))) (h16 : Heap) : Prop :=
    (((decide (s15.2.1 < (l1.len : Int))) = true →
    (0 ≤ s15.2.1 ∧ s15.2.1 < (l1.len : Int)) ∧
    deref l1.a fun a18 =>
    ld (.sl : Kd) h16 (a18.add ((s15.2.1 : Int).toNat * 1)) fun t19 =>
    c_law22_longer t19 (w64 ((-7) - s15.2.1)) h16 fun r20 h21 =>
    new h21 (([r20] : List (Den (.sl : Kd))).flatMap (Kd.cells (.sl : Kd))) fun p22 h23 =>
    appendM 1 24 h23 s15.1 ⟨some p22, 1, 1⟩ fun t24 h25 =>
    go17 (t24, (w64 (s15.2.1 + 1)), ()) h25) ∧
    ((decide (s15.2.1 < (l1.len : Int))) = false →
    Loop (law22_apart.l4 l1 Q s15) (0, ()) h16))
def law22_apart.l6 (c_law22_longer : Sl → Int → Heap → (Sl → Heap → Prop) → Prop) (l1 : Sl) (Q : Bool → Heap → Prop) (go5 : (Int × Unit) → Heap → Prop) (s3 : (Int × Unit)) (h4 : Heap) : Prop :=
    (((decide (s3.1 < (l1.len : Int))) = true →
    Loop (law22_apart.l1 l1 go5 s3) (0, ()) h4) ∧
    ((decide (s3.1 < (l1.len : Int))) = false →
    Loop (law22_apart.l5 c_law22_longer l1 Q) (⟨none, 0, 0⟩, 0, ()) h4))
def law22_apart.M (c_law22_longer : Sl → Int → Heap → (Sl → Heap → Prop) → Prop) (l1 : Sl) (h2 : Heap) (Q : Bool → Heap → Prop) : Prop :=
    Loop (law22_apart.l6 c_law22_longer l1 Q) (0, ()) h2
def law22_apart.mk : Mk := (.s .d (.s (.s .d (.b (.l [.slot 3 (.int .i64)] (.s (.s .d (.c .d .d)) (.s (.b (.s .d (.b (.l [.slot 4 (.int .i64)] (.s (.s .d (.c .d .d)) (.s (.b .d) .d)))))) .d))))) (.s .d (.s (.s .d (.b (.l [.slot 5 .sl, .slot 6 (.int .i64)] (.s (.s .d (.c .d .d)) (.s (.b (.s .d .d)) .d))))) (.s (.s .d (.b (.l [.slot 8 (.int .i64)] (.s (.s .d (.c .d .d)) (.s (.b (.s (.s .d (.b (.l [.slot 9 (.int .i64)] (.s (.s .d (.c .d .d)) (.s (.b (.s .d (.c (.s .d .d) .d))) .d))))) (.s .d (.b (.l [.slot 10 (.int .i64)] (.s (.s .d (.c .d .d)) (.s (.b (.s .d (.c (.s .d .d) .d))) .d))))))) .d))))) (.s .d .d))))))

def explore_Run.M (c_explore_ready : Den kapiScene → Sl → Heap → (Int → Heap → Prop) → Prop) (c_explore_play : Den kapiScene → Sl → Heap → (Den kapiEnding → Heap → Prop) → Prop) (s1 : Den kapiScene) (picks2 : Sl) (h3 : Heap) (Q : (Den kapiEnding × (Int × Unit)) → Heap → Prop) : Prop :=
    c_explore_ready (s1.1, (s1.2.1, (s1.2.2.1, ()))) picks2 h3 fun r4 h5 =>
    (((decide (r4 ≠ 0)) = true →
    Q ((Sl.none, (Sl.none, ())), r4, ()) h5) ∧
    ((decide (r4 ≠ 0)) = false →
    c_explore_play (s1.1, (s1.2.1, (s1.2.2.1, ()))) picks2 h5 fun r6 h7 =>
    Q ((r6.1, (r6.2.1, ())), 0, ()) h7))
def explore_Run.mk : Mk := (.s (.r [0, 1]) (.s (.s .d (.s .d (.c (.s .d .d) .d))) (.s .d .d)))

def explore_Alike.M (c_explore_ready : Den kapiScene → Sl → Heap → (Int → Heap → Prop) → Prop) (c_explore_isScript : Den kapiScene → Sl → Heap → (Bool → Heap → Prop) → Prop) (c_explore_form : Den kapiScene → Sl → Heap → (Sl → Heap → Prop) → Prop) (c_slices_EqualFunc_int_int_int_int : Sl → Sl → Value → Heap → (Bool → Heap → Prop) → Prop) (s1 : Den kapiScene) (p2 : Sl) (q3 : Sl) (h4 : Heap) (Q : (Bool × (Int × Unit)) → Heap → Prop) : Prop :=
    c_explore_ready (s1.1, (s1.2.1, (s1.2.2.1, ()))) p2 h4 fun r5 h6 =>
    (((decide (r5 ≠ 0)) = true →
    Q (false, r5, ()) h6) ∧
    ((decide (r5 ≠ 0)) = false →
    c_explore_isScript (s1.1, (s1.2.1, (s1.2.2.1, ()))) q3 h6 fun r7 h8 =>
    (((!r7) = true →
    Q (false, 220, ()) h8) ∧
    ((!r7) = false →
    c_explore_form (s1.1, (s1.2.1, (s1.2.2.1, ()))) p2 h8 fun r9 h10 =>
    c_explore_form (s1.1, (s1.2.1, (s1.2.2.1, ()))) q3 h10 fun r11 h12 =>
    c_slices_EqualFunc_int_int_int_int r9 r11 (Value.func (.func 59) #[] #[]) h12 fun r13 h14 =>
    Q (r13, 0, ()) h14))))
def explore_Alike.mk : Mk := (.s (.r [0]) (.s (.s .d (.s .d (.c (.s .d .d) .d))) (.s (.s .d (.c (.s .d .d) .d)) (.s (.q [] [] [.p 1, .p 4, .w 0 [0, 2, 5, 6, 7, 8], .w 3 [3, 5, 6, 7, 8], .o 2, .o 5, .o 6, .p 7, .p 8]) .d))))

def ref22_Alike.M (c_ref22_Bad : Den kapiScene → Sl → Heap → (Int → Heap → Prop) → Prop) (c_ref22_Script : Den kapiScene → Sl → Heap → (Bool → Heap → Prop) → Prop) (c_ref22_same : Den kapiScene → Sl → Sl → Heap → (Bool → Heap → Prop) → Prop) (s1 : Den kapiScene) (p2 : Sl) (q3 : Sl) (h4 : Heap) (Q : (Bool × (Int × Unit)) → Heap → Prop) : Prop :=
    c_ref22_Bad (s1.1, (s1.2.1, (s1.2.2.1, ()))) p2 h4 fun r5 h6 =>
    (((decide (r5 ≠ 0)) = true →
    Q (false, r5, ()) h6) ∧
    ((decide (r5 ≠ 0)) = false →
    c_ref22_Script (s1.1, (s1.2.1, (s1.2.2.1, ()))) q3 h6 fun r7 h8 =>
    (((!r7) = true →
    Q (false, 220, ()) h8) ∧
    ((!r7) = false →
    c_ref22_same (s1.1, (s1.2.1, (s1.2.2.1, ()))) p2 q3 h8 fun r9 h10 =>
    Q (r9, 0, ()) h10))))
def ref22_Alike.mk : Mk := (.s (.r [0]) (.s .d (.s (.s .d (.c (.s .d .d) .d)) (.s (.s .d (.c (.s .d .d) .d)) (.s .d .d)))))

def explore_Depends.j1 (c_explore_touches : Den kapiScene → Den kapiAct → Heap → (Bool → Heap → Prop) → Prop) (s1 : Den kapiScene) (x2 : Den kapiAct) (y3 : Den kapiAct) (Q : Bool → Heap → Prop) (s5 : Unit) (h6 : Heap) : Prop :=
    c_explore_touches (s1.1, (s1.2.1, (s1.2.2.1, ()))) (x2.1, (x2.2.1, (x2.2.2.1, (x2.2.2.2.1, (x2.2.2.2.2.1, ()))))) h6 fun r7 h8 =>
    ((r7 = true →
    c_explore_touches (s1.1, (s1.2.1, (s1.2.2.1, ()))) (y3.1, (y3.2.1, (y3.2.2.1, (y3.2.2.2.1, (y3.2.2.2.2.1, ()))))) h8 fun r9 h10 =>
    ((r9 = true →
    (((decide (x2.2.2.1 = y3.2.2.1)) = true →
    (((decide (x2.2.1 ≠ 0)) = true →
    Q true h10) ∧
    ((decide (x2.2.1 ≠ 0)) = false →
    Q (decide (y3.2.1 ≠ 0)) h10))) ∧
    ((decide (x2.2.2.1 = y3.2.2.1)) = false →
    Q false h10))) ∧
    (r9 = false →
    Q false h10))) ∧
    (r7 = false →
    Q false h8))
def explore_Depends.j2 (c_explore_gives : Den kapiAct → Heap → (Bool → Heap → Prop) → Prop) (c_explore_touches : Den kapiScene → Den kapiAct → Heap → (Bool → Heap → Prop) → Prop) (s1 : Den kapiScene) (x2 : Den kapiAct) (y3 : Den kapiAct) (Q : Bool → Heap → Prop) (s11 : (Bool × Unit)) (h12 : Heap) : Prop :=
    ((s11.1 = true →
    Q true h12) ∧
    (s11.1 = false →
    c_explore_gives (x2.1, (x2.2.1, (x2.2.2.1, (x2.2.2.2.1, (x2.2.2.2.2.1, ()))))) h12 fun r13 h14 =>
    ((r13 = true →
    c_explore_touches (s1.1, (s1.2.1, (s1.2.2.1, ()))) (y3.1, (y3.2.1, (y3.2.2.1, (y3.2.2.2.1, (y3.2.2.2.2.1, ()))))) h14 fun r15 h16 =>
    ((r15 = true →
    Q (decide ((s1.2.1.len : Int) ≤ y3.2.2.1)) h16) ∧
    (r15 = false →
    Q false h16))) ∧
    (r13 = false →
    c_explore_gives (y3.1, (y3.2.1, (y3.2.2.1, (y3.2.2.2.1, (y3.2.2.2.2.1, ()))))) h14 fun r17 h18 =>
    ((r17 = true →
    c_explore_touches (s1.1, (s1.2.1, (s1.2.2.1, ()))) (x2.1, (x2.2.1, (x2.2.2.1, (x2.2.2.2.1, (x2.2.2.2.2.1, ()))))) h18 fun r19 h20 =>
    ((r19 = true →
    Q (decide ((s1.2.1.len : Int) ≤ x2.2.2.1)) h20) ∧
    (r19 = false →
    Q false h20))) ∧
    (r17 = false →
    explore_Depends.j1 c_explore_touches s1 x2 y3 Q () h18))))))
def explore_Depends.M (c_explore_gives : Den kapiAct → Heap → (Bool → Heap → Prop) → Prop) (c_explore_touches : Den kapiScene → Den kapiAct → Heap → (Bool → Heap → Prop) → Prop) (s1 : Den kapiScene) (x2 : Den kapiAct) (y3 : Den kapiAct) (h4 : Heap) (Q : Bool → Heap → Prop) : Prop :=
    c_explore_gives (x2.1, (x2.2.1, (x2.2.2.1, (x2.2.2.2.1, (x2.2.2.2.2.1, ()))))) h4 fun r21 h22 =>
    ((r21 = true →
    c_explore_gives (y3.1, (y3.2.1, (y3.2.2.1, (y3.2.2.2.1, (y3.2.2.2.2.1, ()))))) h22 fun r23 h24 =>
    explore_Depends.j2 c_explore_gives c_explore_touches s1 x2 y3 Q (r23, ()) h24) ∧
    (r21 = false →
    explore_Depends.j2 c_explore_gives c_explore_touches s1 x2 y3 Q (false, ()) h22))
def explore_Depends.mk : Mk := (.s (.r [0, 1, 2]) (.j [] (.b (.j [.slot 7 .bool] .d (.c (.s .d .d) (.s .d (.c (.s .d .d) (.s .d (.c (.s .d .d) .d))))))) (.s .d .d)))

def explore_ready.M (c_explore_Check : Den kapiScene → Heap → (Int → Heap → Prop) → Prop) (c_explore_isScript : Den kapiScene → Sl → Heap → (Bool → Heap → Prop) → Prop) (s1 : Den kapiScene) (picks2 : Sl) (h3 : Heap) (Q : Int → Heap → Prop) : Prop :=
    c_explore_Check (s1.1, (s1.2.1, (s1.2.2.1, ()))) h3 fun r4 h5 =>
    (((decide (r4 ≠ 0)) = true →
    Q r4 h5) ∧
    ((decide (r4 ≠ 0)) = false →
    c_explore_isScript (s1.1, (s1.2.1, (s1.2.2.1, ()))) picks2 h5 fun r6 h7 =>
    (((!r6) = true →
    Q 220 h7) ∧
    ((!r6) = false →
    Q 0 h7))))
def explore_ready.mk : Mk := (.s (.r [0]) (.s (.s .d (.s .d (.c (.s .d .d) .d))) (.s (.s .d (.c (.s .d .d) .d)) (.s .d .d))))

def explore_form.l1 (go8 : (Sl × (Int × Unit)) → Heap → Prop) (s6 : (Sl × (Int × Unit))) (t10 : Den kexploredone) (go13 : (Sl × Unit) → Heap → Prop) (s11 : (Sl × Unit)) (h12 : Heap) : Prop :=
    (((decide ((s11.1.len : Int) < t10.2.1)) = true →
    new h12 (([⟨none, 0, 0⟩] : List (Den (.sl : Kd))).flatMap (Kd.cells (.sl : Kd))) fun p14 h15 =>
    appendM 1 24 h15 s11.1 ⟨some p14, 1, 1⟩ fun t16 h17 =>
    go13 (t16, ()) h17) ∧
    ((decide ((s11.1.len : Int) < t10.2.1)) = false →
    (0 ≤ (w64 (t10.2.1 - 1)) ∧ (w64 (t10.2.1 - 1)) < (s11.1.len : Int)) ∧
    deref s11.1.a fun a18 =>
    ld (.sl : Kd) h12 (a18.add (((w64 (t10.2.1 - 1)) : Int).toNat * 1)) fun t19 =>
    new h12 (([t10.1] : List (Den ((.int .i64) : Kd))).flatMap (Kd.cells ((.int .i64) : Kd))) fun p20 h21 =>
    appendM 1 8 h21 t19 ⟨some p20, 1, 1⟩ fun t22 h23 =>
    (0 ≤ (w64 (t10.2.1 - 1)) ∧ (w64 (t10.2.1 - 1)) < (s11.1.len : Int)) ∧
    deref s11.1.a fun a24 =>
    st (.sl : Kd) h23 (a24.add (((w64 (t10.2.1 - 1)) : Int).toNat * 1)) t22 fun h25 =>
    go8 (s11.1, (w64 (s6.2.1 + 1)), ()) h25))
def explore_form.l2 (c_slices_Sort_int_int : Sl → Heap → (Unit → Heap → Prop) → Prop) (Q : Sl → Heap → Prop) (s6 : (Sl × (Int × Unit))) (go28 : (Int × Unit) → Heap → Prop) (s26 : (Int × Unit)) (h27 : Heap) : Prop :=
    (((decide (s26.1 < (s6.1.len : Int))) = true →
    (0 ≤ s26.1 ∧ s26.1 < (s6.1.len : Int)) ∧
    deref s6.1.a fun a29 =>
    ld (.sl : Kd) h27 (a29.add ((s26.1 : Int).toNat * 1)) fun t30 =>
    c_slices_Sort_int_int t30 h27 fun r31 h32 =>
    go28 ((w64 (s26.1 + 1)), ()) h32) ∧
    ((decide (s26.1 < (s6.1.len : Int))) = false →
    Q s6.1 h27))
def explore_form.l3 (c_slices_Sort_int_int : Sl → Heap → (Unit → Heap → Prop) → Prop) (Q : Sl → Heap → Prop) (r4 : Sl) (go8 : (Sl × (Int × Unit)) → Heap → Prop) (s6 : (Sl × (Int × Unit))) (h7 : Heap) : Prop :=
    (((decide (s6.2.1 < (r4.len : Int))) = true →
    (0 ≤ s6.2.1 ∧ s6.2.1 < (r4.len : Int)) ∧
    deref r4.a fun a9 =>
    ld kexploredone h7 (a9.add ((s6.2.1 : Int).toNat * 7)) fun t10 =>
    Loop (explore_form.l1 go8 s6 t10) (s6.1, ()) h7) ∧
    ((decide (s6.2.1 < (r4.len : Int))) = false →
    Loop (explore_form.l2 c_slices_Sort_int_int Q s6) (0, ()) h7))
def explore_form.M (c_explore_steps : Den kapiScene → Sl → Heap → (Sl → Heap → Prop) → Prop) (c_slices_Sort_int_int : Sl → Heap → (Unit → Heap → Prop) → Prop) (s1 : Den kapiScene) (picks2 : Sl) (h3 : Heap) (Q : Sl → Heap → Prop) : Prop :=
    c_explore_steps (s1.1, (s1.2.1, (s1.2.2.1, ()))) picks2 h3 fun r4 h5 =>
    Loop (explore_form.l3 c_slices_Sort_int_int Q r4) (⟨none, 0, 0⟩, 0, ()) h5
def explore_form.mk : Mk := (.s (.r [0]) (.s .d (.s (.s .d (.b (.l [.slot 5 .sl, .slot 14 (.int .i64)] (.s .d (.s (.c .d .d) (.s (.b (.s (.r [2]) (.s (.b (.l [.slot 5 .sl] (.s (.s .d (.c .d .d)) (.b .d)))) (.q [] [] [.p 0, .p 1, .p 4, .p 5, .p 10, .w 2 [2, 3, 14, 15], .p 3, .w 6 [6, 7, 8, 9, 13, 14, 15], .p 7, .p 8, .w 9 [9, 13, 14, 15], .w 11 [11, 12, 13, 14, 15], .o 12, .o 13, .p 14, .o 15])))) .d)))))) (.s (.s .d (.b (.l [.slot 44 (.int .i64)] (.s .d (.s (.c .d .d) (.s (.b (.s .d .d)) .d)))))) (.s .d .d)))))

def law22_longer.l1 (mark2 : Int) (Q : Sl → Heap → Prop) (go6 : (Sl × (Int × Unit)) → Heap → Prop) (s4 : (Sl × (Int × Unit))) (h5 : Heap) : Prop :=
    (((decide (s4.2.1 < 64)) = true →
    new h5 (([mark2] : List (Den ((.int .i64) : Kd))).flatMap (Kd.cells ((.int .i64) : Kd))) fun p7 h8 =>
    appendM 1 8 h8 s4.1 ⟨some p7, 1, 1⟩ fun t9 h10 =>
    go6 (t9, (w64 (s4.2.1 + 1)), ()) h10) ∧
    ((decide (s4.2.1 < 64)) = false →
    Q s4.1 h5))
def law22_longer.M  (l1 : Sl) (mark2 : Int) (h3 : Heap) (Q : Sl → Heap → Prop) : Prop :=
    Loop (law22_longer.l1 mark2 Q) (l1, 0, ()) h3
def law22_longer.mk : Mk := (.s .d (.s (.s .d (.b (.l [.slot 0 .sl, .slot 5 (.int .i64)] (.s (.s .d (.c .d .d)) (.s (.b .d) .d))))) (.s .d .d)))

def ref22_Bad.j1 (Q : Int → Heap → Prop) (r4 : Int) (s6 : Unit) (h7 : Heap) : Prop :=
    Q r4 h7
def ref22_Bad.j2 (Q : Int → Heap → Prop) (r4 : Int) (s8 : (Bool × Unit)) (h9 : Heap) : Prop :=
    ((s8.1 = true →
    Q 220 h9) ∧
    (s8.1 = false →
    ref22_Bad.j1 Q r4 () h9))
def ref22_Bad.M (c_ref22_Check : Den kapiScene → Heap → (Int → Heap → Prop) → Prop) (c_ref22_Script : Den kapiScene → Sl → Heap → (Bool → Heap → Prop) → Prop) (s1 : Den kapiScene) (picks2 : Sl) (h3 : Heap) (Q : Int → Heap → Prop) : Prop :=
    c_ref22_Check (s1.1, (s1.2.1, (s1.2.2.1, ()))) h3 fun r4 h5 =>
    (((decide (r4 = 0)) = true →
    c_ref22_Script (s1.1, (s1.2.1, (s1.2.2.1, ()))) picks2 h5 fun r10 h11 =>
    ref22_Bad.j2 Q r4 ((!r10), ()) h11) ∧
    ((decide (r4 = 0)) = false →
    ref22_Bad.j2 Q r4 (false, ()) h5))
def ref22_Bad.mk : Mk := (.s (.r [0]) (.s .d (.j [] (.j [.slot 15 .bool] .d (.c (.s .d .d) .d)) (.s .d .d))))

def ref22_Row.l1 (s1 : Den kapiScene) (picks2 : Sl) (Q : Sl → Heap → Prop) (go6 : (Sl × (Int × (((Fin 4 → Int) × Unit) × Unit))) → Heap → Prop) (s4 : (Sl × (Int × (((Fin 4 → Int) × Unit) × Unit)))) (h5 : Heap) : Prop :=
    (((decide (s4.2.1 < (picks2.len : Int))) = true →
    (0 ≤ s4.2.1 ∧ s4.2.1 < (picks2.len : Int)) ∧
    deref picks2.a fun a7 =>
    ld ((.int .i64) : Kd) h5 (a7.add ((s4.2.1 : Int).toNat * 1)) fun t8 =>
    (0 ≤ t8 ∧ t8 < (4 : Int)) ∧
    (0 ≤ t8 ∧ t8 < (s1.2.2.1.len : Int)) ∧
    deref s1.2.2.1.a fun a9 =>
    ld (.sl : Kd) h5 (a9.add ((t8 : Int).toNat * 1)) fun t10 =>
    (0 ≤ (aget (n := 4) (a := ((.int .i64) : Kd)) s4.2.2.1.1 (t8 : Int).toNat) ∧ (aget (n := 4) (a := ((.int .i64) : Kd)) s4.2.2.1.1 (t8 : Int).toNat) < (t10.len : Int)) ∧
    deref t10.a fun a11 =>
    ld kapiAct h5 (a11.add (((aget (n := 4) (a := ((.int .i64) : Kd)) s4.2.2.1.1 (t8 : Int).toNat) : Int).toNat * 5)) fun t12 =>
    new h5 (([(t8, ((t12.1, (t12.2.1, (t12.2.2.1, (t12.2.2.2.1, (t12.2.2.2.2.1, ()))))), ()))] : List (Den kref22Act)).flatMap (Kd.cells kref22Act)) fun p13 h14 =>
    appendM 6 48 h14 s4.1 ⟨some p13, 1, 1⟩ fun t15 h16 =>
    (0 ≤ t8 ∧ t8 < (4 : Int)) ∧
    (0 ≤ t8 ∧ t8 < (4 : Int)) ∧
    go6 (t15, (w64 (s4.2.1 + 1)), ((aset (n := 4) (a := ((.int .i64) : Kd)) s4.2.2.1.1 (t8 : Int).toNat (w64 ((aget (n := 4) (a := ((.int .i64) : Kd)) s4.2.2.1.1 (t8 : Int).toNat) + 1))), ()), ()) h16) ∧
    ((decide (s4.2.1 < (picks2.len : Int))) = false →
    Q s4.1 h5))
def ref22_Row.M  (s1 : Den kapiScene) (picks2 : Sl) (h3 : Heap) (Q : Sl → Heap → Prop) : Prop :=
    Loop (ref22_Row.l1 s1 picks2 Q) (⟨none, 0, 0⟩, 0, ((fun _ => 0), ()), ()) h3
def ref22_Row.mk : Mk := (.s (.r [0]) (.s (.r [0]) (.s .d (.s (.s .d (.b (.l [.slot 6 .sl, .slot 7 (.int .i64), .box 5 (.pair (.arr 4 (.int .i64)) .nil)] (.s (.s .d (.c .d .d)) (.s (.b (.s .d (.s (.q [] [] [.p 0, .p 1, .p 2, .p 4, .p 7, .p 8, .w 3 [3, 5, 6, 10, 11, 12, 13, 14, 15], .p 5, .w 6 [6, 10, 11, 12, 13, 14, 15], .w 9 [9, 10, 11, 12, 13, 14, 15], .p 10, .w 11 [11, 12, 13, 14, 15], .p 12, .o 13, .o 14, .p 15]) .d))) .d))))) (.s .d .d)))))

def ref22_bound.M (c_ref22_Depends : Den kapiScene → Den kapiAct → Den kapiAct → Heap → (Bool → Heap → Prop) → Prop) (s1 : Den kapiScene) (a2 : Den kref22Act) (b3 : Den kref22Act) (h4 : Heap) (Q : Bool → Heap → Prop) : Prop :=
    (((decide (a2.1 = b3.1)) = true →
    Q true h4) ∧
    ((decide (a2.1 = b3.1)) = false →
    c_ref22_Depends (s1.1, (s1.2.1, (s1.2.2.1, ()))) (a2.2.1.1, (a2.2.1.2.1, (a2.2.1.2.2.1, (a2.2.1.2.2.2.1, (a2.2.1.2.2.2.2.1, ()))))) (b3.2.1.1, (b3.2.1.2.1, (b3.2.1.2.2.1, (b3.2.1.2.2.2.1, (b3.2.1.2.2.2.2.1, ()))))) h4 fun r5 h6 =>
    Q r5 h6))
def ref22_bound.mk : Mk := (.s (.r [0, 1, 2]) (.s .d .d))

def law22_same.l1 (a1 : Sl) (b2 : Sl) (Q : Bool → Heap → Prop) (go6 : (Int × Unit) → Heap → Prop) (s4 : (Int × Unit)) (h5 : Heap) : Prop :=
    (((decide (s4.1 < (a1.len : Int))) = true →
    (0 ≤ s4.1 ∧ s4.1 < (a1.len : Int)) ∧
    deref a1.a fun a7 =>
    (0 ≤ s4.1 ∧ s4.1 < (b2.len : Int)) ∧
    deref b2.a fun a8 =>
    ld ((.int .i64) : Kd) h5 (a7.add ((s4.1 : Int).toNat * 1)) fun t9 =>
    ld ((.int .i64) : Kd) h5 (a8.add ((s4.1 : Int).toNat * 1)) fun t10 =>
    (((decide (t9 ≠ t10)) = true →
    Q false h5) ∧
    ((decide (t9 ≠ t10)) = false →
    go6 ((w64 (s4.1 + 1)), ()) h5))) ∧
    ((decide (s4.1 < (a1.len : Int))) = false →
    Q true h5))
def law22_same.M  (a1 : Sl) (b2 : Sl) (h3 : Heap) (Q : Bool → Heap → Prop) : Prop :=
    (((decide ((a1.len : Int) ≠ (b2.len : Int))) = true →
    Q false h3) ∧
    ((decide ((a1.len : Int) ≠ (b2.len : Int))) = false →
    Loop (law22_same.l1 a1 b2 Q) (0, ()) h3))
def law22_same.mk : Mk := (.s .d (.s (.s .d (.c (.s .d .d) .d)) (.s (.s .d (.b (.l [.slot 5 (.int .i64)] (.s (.s .d (.c .d .d)) (.s (.b (.s (.q [] [] [.p 0, .p 1, .p 2, .p 4, .p 5, .p 6, .w 3 [3, 8], .w 7 [7, 8], .p 8]) (.c (.s .d .d) .d))) .d))))) (.s .d .d))))

def law22_marked.l1 (c1 : Den kapiScene) (Q : Bool → Heap → Prop) (go5 : (Int × Unit) → Heap → Prop) (s3 : (Int × Unit)) (h4 : Heap) : Prop :=
    (((decide (s3.1 < (c1.2.2.1.len : Int))) = true →
    (0 ≤ s3.1 ∧ s3.1 < (c1.2.2.1.len : Int)) ∧
    deref c1.2.2.1.a fun a6 =>
    ld (.sl : Kd) h4 (a6.add ((s3.1 : Int).toNat * 1)) fun t7 =>
    (0 ≤ s3.1 ∧ s3.1 < (c1.2.2.1.len : Int)) ∧
    deref c1.2.2.1.a fun a8 =>
    ld (.sl : Kd) h4 (a8.add ((s3.1 : Int).toNat * 1)) fun t9 =>
    (0 ≤ (w64 ((t7.len : Int) + 1)) ∧ (w64 ((t7.len : Int) + 1)) ≤ (t9.cap : Int)) ∧
    (0 ≤ (t7.len : Int) ∧ (t7.len : Int) < ((t9.cut 0 (((w64 ((t7.len : Int) + 1)) : Int).toNat) 5).len : Int)) ∧
    deref (t9.cut 0 (((w64 ((t7.len : Int) + 1)) : Int).toNat) 5).a fun a10 =>
    ld ((.int .i64) : Kd) h4 ((a10.add (((t7.len : Int) : Int).toNat * 5)).add 1) fun t11 =>
    (((decide (t11 ≠ (-77))) = true →
    Q false h4) ∧
    ((decide (t11 ≠ (-77))) = false →
    go5 ((w64 (s3.1 + 1)), ()) h4))) ∧
    ((decide (s3.1 < (c1.2.2.1.len : Int))) = false →
    (0 ≤ (w64 ((c1.2.1.len : Int) + 1)) ∧ (w64 ((c1.2.1.len : Int) + 1)) ≤ (c1.2.1.cap : Int)) ∧
    (0 ≤ (w64 ((c1.2.2.1.len : Int) + 1)) ∧ (w64 ((c1.2.2.1.len : Int) + 1)) ≤ (c1.2.2.1.cap : Int)) ∧
    (0 ≤ (c1.2.2.1.len : Int) ∧ (c1.2.2.1.len : Int) < ((c1.2.2.1.cut 0 (((w64 ((c1.2.2.1.len : Int) + 1)) : Int).toNat) 1).len : Int)) ∧
    deref (c1.2.2.1.cut 0 (((w64 ((c1.2.2.1.len : Int) + 1)) : Int).toNat) 1).a fun a12 =>
    ld (.sl : Kd) h4 (a12.add (((c1.2.2.1.len : Int) : Int).toNat * 1)) fun t13 =>
    (0 ≤ (c1.2.1.len : Int) ∧ (c1.2.1.len : Int) < ((c1.2.1.cut 0 (((w64 ((c1.2.1.len : Int) + 1)) : Int).toNat) 1).len : Int)) ∧
    deref (c1.2.1.cut 0 (((w64 ((c1.2.1.len : Int) + 1)) : Int).toNat) 1).a fun a14 =>
    ld ((.int .i64) : Kd) h4 (a14.add (((c1.2.1.len : Int) : Int).toNat * 1)) fun t15 =>
    (((decide (t15 = (-77))) = true →
    (((decide ((t13.len : Int) = 1)) = true →
    (0 ≤ (0 : Int) ∧ (0 : Int) < (t13.len : Int)) ∧
    deref t13.a fun a16 =>
    ld ((.int .i64) : Kd) h4 ((a16.add (((0 : Int) : Int).toNat * 5)).add 1) fun t17 =>
    Q (decide (t17 = (-77))) h4) ∧
    ((decide ((t13.len : Int) = 1)) = false →
    Q false h4))) ∧
    ((decide (t15 = (-77))) = false →
    Q false h4))))
def law22_marked.M  (c1 : Den kapiScene) (h2 : Heap) (Q : Bool → Heap → Prop) : Prop :=
    Loop (law22_marked.l1 c1 Q) (0, ()) h2
def law22_marked.mk : Mk := (.s (.r [0]) (.s (.s .d (.b (.l [.slot 3 (.int .i64)] (.s (.s .d (.c .d .d)) (.s (.b (.s .d (.s .d (.s .d (.c (.s .d .d) .d))))) .d))))) (.s .d (.s .d (.s .d (.s .d .d))))))

def law22_sameCells.l1 (a1 : Sl) (b2 : Sl) (Q : Bool → Heap → Prop) (go6 : (Int × Unit) → Heap → Prop) (s4 : (Int × Unit)) (h5 : Heap) : Prop :=
    (((decide (s4.1 < (a1.len : Int))) = true →
    (0 ≤ s4.1 ∧ s4.1 < (a1.len : Int)) ∧
    deref a1.a fun a7 =>
    (0 ≤ s4.1 ∧ s4.1 < (b2.len : Int)) ∧
    deref b2.a fun a8 =>
    ld ((.int .i64) : Kd) h5 (a7.add ((s4.1 : Int).toNat * 1)) fun t9 =>
    ld ((.int .i64) : Kd) h5 (a8.add ((s4.1 : Int).toNat * 1)) fun t10 =>
    (((decide (t9 ≠ t10)) = true →
    Q false h5) ∧
    ((decide (t9 ≠ t10)) = false →
    go6 ((w64 (s4.1 + 1)), ()) h5))) ∧
    ((decide (s4.1 < (a1.len : Int))) = false →
    Q true h5))
def law22_sameCells.M  (a1 : Sl) (b2 : Sl) (h3 : Heap) (Q : Bool → Heap → Prop) : Prop :=
    (((decide ((a1.len : Int) ≠ (b2.len : Int))) = true →
    Q false h3) ∧
    ((decide ((a1.len : Int) ≠ (b2.len : Int))) = false →
    Loop (law22_sameCells.l1 a1 b2 Q) (0, ()) h3))
def law22_sameCells.mk : Mk := (.s .d (.s (.s .d (.c (.s .d .d) .d)) (.s (.s .d (.b (.l [.slot 5 (.int .i64)] (.s (.s .d (.c .d .d)) (.s (.b (.s (.q [] [] [.p 0, .p 1, .p 2, .p 4, .p 5, .p 6, .w 3 [3, 8], .w 7 [7, 8], .p 8]) (.c (.s .d .d) .d))) .d))))) (.s .d .d))))

def explore_Check.j1 (go19 : (Int × Unit) → Heap → Prop) (s17 : (Int × Unit)) (s20 : Unit) (h21 : Heap) : Prop :=
    go19 ((w64 (s17.1 + 1)), ()) h21
def explore_Check.j2 (Q : Int → Heap → Prop) (go19 : (Int × Unit) → Heap → Prop) (s17 : (Int × Unit)) (s24 : (Bool × Unit)) (h25 : Heap) : Prop :=
    ((s24.1 = true →
    Q 23 h25) ∧
    (s24.1 = false →
    explore_Check.j1 go19 s17 () h25))
def explore_Check.l3 (Q : Int → Heap → Prop) (go14 : (Int × Unit) → Heap → Prop) (s12 : (Int × Unit)) (t16 : Sl) (go19 : (Int × Unit) → Heap → Prop) (s17 : (Int × Unit)) (h18 : Heap) : Prop :=
    (((decide (s17.1 < (t16.len : Int))) = true →
    (0 ≤ s17.1 ∧ s17.1 < (t16.len : Int)) ∧
    deref t16.a fun a22 =>
    ld kapiAct h18 (a22.add ((s17.1 : Int).toNat * 5)) fun t23 =>
    (((decide (t23.2.1 < 0)) = true →
    explore_Check.j2 Q go19 s17 (true, ()) h18) ∧
    ((decide (t23.2.1 < 0)) = false →
    explore_Check.j2 Q go19 s17 ((decide ((4 : Int) < t23.2.1)), ()) h18))) ∧
    ((decide (s17.1 < (t16.len : Int))) = false →
    go14 ((w64 (s12.1 + 1)), ()) h18))
def explore_Check.l4 (s1 : Den kapiScene) (Q : Int → Heap → Prop) (go14 : (Int × Unit) → Heap → Prop) (s12 : (Int × Unit)) (h13 : Heap) : Prop :=
    (((decide (s12.1 < (s1.2.2.1.len : Int))) = true →
    (0 ≤ s12.1 ∧ s12.1 < (s1.2.2.1.len : Int)) ∧
    deref s1.2.2.1.a fun a15 =>
    ld (.sl : Kd) h13 (a15.add ((s12.1 : Int).toNat * 1)) fun t16 =>
    Loop (explore_Check.l3 Q go14 s12 t16) (0, ()) h13) ∧
    ((decide (s12.1 < (s1.2.2.1.len : Int))) = false →
    Q 0 h13))
def explore_Check.j5 (s1 : Den kapiScene) (Q : Int → Heap → Prop) (s10 : Unit) (h11 : Heap) : Prop :=
    Loop (explore_Check.l4 s1 Q) (0, ()) h11
def explore_Check.j6 (s1 : Den kapiScene) (Q : Int → Heap → Prop) (s26 : (Bool × Unit)) (h27 : Heap) : Prop :=
    ((s26.1 = true →
    Q 2 h27) ∧
    (s26.1 = false →
    explore_Check.j5 s1 Q () h27))
def explore_Check.l7 (s1 : Den kapiScene) (Q : Int → Heap → Prop) (go7 : Den kapiEdge → Heap → Prop) (s5 : Den kapiEdge) (h6 : Heap) : Prop :=
    (((decide (s5.2.1 < (s1.2.2.1.len : Int))) = true →
    (0 ≤ s5.2.1 ∧ s5.2.1 < (s1.2.2.1.len : Int)) ∧
    deref s1.2.2.1.a fun a8 =>
    ld (.sl : Kd) h6 (a8.add ((s5.2.1 : Int).toNat * 1)) fun t9 =>
    go7 ((w64 (s5.1 + (t9.len : Int))), (w64 (s5.2.1 + 1)), ()) h6) ∧
    ((decide (s5.2.1 < (s1.2.2.1.len : Int))) = false →
    (((decide (s1.1 < (s1.2.1.len : Int))) = true →
    explore_Check.j6 s1 Q (true, ()) h6) ∧
    ((decide (s1.1 < (s1.2.1.len : Int))) = false →
    (((decide ((4 : Int) < (s1.2.2.1.len : Int))) = true →
    explore_Check.j6 s1 Q (true, ()) h6) ∧
    ((decide ((4 : Int) < (s1.2.2.1.len : Int))) = false →
    explore_Check.j6 s1 Q ((decide ((10 : Int) < s5.1)), ()) h6))))))
def explore_Check.j8 (s1 : Den kapiScene) (Q : Int → Heap → Prop) (s3 : Unit) (h4 : Heap) : Prop :=
    Loop (explore_Check.l7 s1 Q) (0, 0, ()) h4
def explore_Check.j9 (s1 : Den kapiScene) (Q : Int → Heap → Prop) (s28 : (Bool × Unit)) (h29 : Heap) : Prop :=
    ((s28.1 = true →
    Q 3 h29) ∧
    (s28.1 = false →
    explore_Check.j8 s1 Q () h29))
def explore_Check.M  (s1 : Den kapiScene) (h2 : Heap) (Q : Int → Heap → Prop) : Prop :=
    (((decide (s1.1 < 0)) = true →
    explore_Check.j9 s1 Q (true, ()) h2) ∧
    ((decide (s1.1 < 0)) = false →
    explore_Check.j9 s1 Q ((decide ((64 : Int) < s1.1)), ()) h2))
def explore_Check.mk : Mk := (.s (.r [0]) (.j [] (.j [.slot 17 .bool] .d (.c (.s .d .d) .d)) (.s .d (.s (.s .d (.b (.l [.slot 3 (.int .i64), .slot 21 (.int .i64)] (.s .d (.s (.c .d .d) (.s (.b (.s .d .d)) .d)))))) (.j [] (.j [.slot 45 .bool] .d (.c (.s .d .d) .d)) (.s (.s .d (.b (.l [.slot 49 (.int .i64)] (.s .d (.s (.c .d .d) (.s (.b (.s .d (.s .d (.b (.l [.slot 55 (.int .i64)] (.s .d (.s (.c .d .d) (.j [] (.b (.s (.r [2]) (.j [.slot 66 .bool] .d (.c (.s .d .d) .d)))) .d)))))))) .d)))))) (.s .d .d)))))))

def explore_play.l1 (c_explore_act : Option Addr → Den kapiAct → Heap → (Den kapiEffect → Heap → Prop) → Prop) (c_cells_Arena_Cells : Option Addr → Heap → (Sl → Heap → Prop) → Prop) (s1 : Den kapiScene) (picks2 : Sl) (Q : Den kapiEnding → Heap → Prop) (r4 : (Option Addr × (Int × Unit))) (s15 : Sl) (go19 : (Int × Unit) → Heap → Prop) (s17 : (Int × Unit)) (h18 : Heap) : Prop :=
    (((decide (s17.1 < (picks2.len : Int))) = true →
    (0 ≤ s17.1 ∧ s17.1 < (picks2.len : Int)) ∧
    deref picks2.a fun a20 =>
    ld ((.int .i64) : Kd) h18 (a20.add ((s17.1 : Int).toNat * 1)) fun t21 =>
    (0 ≤ t21 ∧ t21 < (s1.2.2.1.len : Int)) ∧
    deref s1.2.2.1.a fun a22 =>
    ld (.sl : Kd) h18 (a22.add ((t21 : Int).toNat * 1)) fun t23 =>
    (0 ≤ t21 ∧ t21 < (s15.len : Int)) ∧
    deref s15.a fun a24 =>
    ld (.sl : Kd) h18 (a24.add ((t21 : Int).toNat * 1)) fun t25 =>
    (0 ≤ (t25.len : Int) ∧ (t25.len : Int) < (t23.len : Int)) ∧
    deref t23.a fun a26 =>
    ld kapiAct h18 (a26.add (((t25.len : Int) : Int).toNat * 5)) fun t27 =>
    (0 ≤ t21 ∧ t21 < (s15.len : Int)) ∧
    deref s15.a fun a28 =>
    ld (.sl : Kd) h18 (a28.add ((t21 : Int).toNat * 1)) fun t29 =>
    c_explore_act r4.1 (t27.1, (t27.2.1, (t27.2.2.1, (t27.2.2.2.1, (t27.2.2.2.2.1, ()))))) h18 fun r30 h31 =>
    sees h31 (some (a28.add ((t21 : Int).toNat * 1))) (.sl : Kd) t29 ∧
    new h31 (([r30] : List (Den kapiEffect)).flatMap (Kd.cells kapiEffect)) fun p32 h33 =>
    appendM 3 24 h33 t29 ⟨some p32, 1, 1⟩ fun t34 h35 =>
    (0 ≤ t21 ∧ t21 < (s15.len : Int)) ∧
    deref s15.a fun a36 =>
    st (.sl : Kd) h35 (a36.add ((t21 : Int).toNat * 1)) t34 fun h37 =>
    go19 ((w64 (s17.1 + 1)), ()) h37) ∧
    ((decide (s17.1 < (picks2.len : Int))) = false →
    c_cells_Arena_Cells r4.1 h18 fun r38 h39 =>
    Q (s15, (r38, ())) h39))
def explore_play.l2 (c_cells_Arena_Store : Option Addr → Int → Int → Heap → (Int → Heap → Prop) → Prop) (c_explore_act : Option Addr → Den kapiAct → Heap → (Den kapiEffect → Heap → Prop) → Prop) (c_cells_Arena_Cells : Option Addr → Heap → (Sl → Heap → Prop) → Prop) (s1 : Den kapiScene) (picks2 : Sl) (Q : Den kapiEnding → Heap → Prop) (r4 : (Option Addr × (Int × Unit))) (go10 : (Int × Unit) → Heap → Prop) (s8 : (Int × Unit)) (h9 : Heap) : Prop :=
    (((decide (s8.1 < (s1.2.1.len : Int))) = true →
    (0 ≤ s8.1 ∧ s8.1 < (s1.2.1.len : Int)) ∧
    deref s1.2.1.a fun a11 =>
    ld ((.int .i64) : Kd) h9 (a11.add ((s8.1 : Int).toNat * 1)) fun t12 =>
    c_cells_Arena_Store r4.1 s8.1 t12 h9 fun r13 h14 =>
    go10 ((w64 (s8.1 + 1)), ()) h14) ∧
    ((decide (s8.1 < (s1.2.1.len : Int))) = false →
    makeM (.sl : Kd) 24 h9 (s1.2.2.1.len : Int) (s1.2.2.1.len : Int) fun s15 h16 =>
    Loop (explore_play.l1 c_explore_act c_cells_Arena_Cells s1 picks2 Q r4 s15) (0, ()) h16))
def explore_play.j3 (c_cells_Arena_Store : Option Addr → Int → Int → Heap → (Int → Heap → Prop) → Prop) (c_explore_act : Option Addr → Den kapiAct → Heap → (Den kapiEffect → Heap → Prop) → Prop) (c_cells_Arena_Cells : Option Addr → Heap → (Sl → Heap → Prop) → Prop) (s1 : Den kapiScene) (picks2 : Sl) (Q : Den kapiEnding → Heap → Prop) (r4 : (Option Addr × (Int × Unit))) (s6 : Unit) (h7 : Heap) : Prop :=
    Loop (explore_play.l2 c_cells_Arena_Store c_explore_act c_cells_Arena_Cells s1 picks2 Q r4) (0, ()) h7
def explore_play.M (c_cells_New : Int → Heap → ((Option Addr × (Int × Unit)) → Heap → Prop) → Prop) (c_cells_Arena_Reserve : Option Addr → Int → Heap → (Den kapiEdge → Heap → Prop) → Prop) (c_cells_Arena_Store : Option Addr → Int → Int → Heap → (Int → Heap → Prop) → Prop) (c_explore_act : Option Addr → Den kapiAct → Heap → (Den kapiEffect → Heap → Prop) → Prop) (c_cells_Arena_Cells : Option Addr → Heap → (Sl → Heap → Prop) → Prop) (s1 : Den kapiScene) (picks2 : Sl) (h3 : Heap) (Q : Den kapiEnding → Heap → Prop) : Prop :=
    c_cells_New s1.1 h3 fun r4 h5 =>
    (((decide ((0 : Int) < (s1.2.1.len : Int))) = true →
    c_cells_Arena_Reserve r4.1 (s1.2.1.len : Int) h5 fun r40 h41 =>
    explore_play.j3 c_cells_Arena_Store c_explore_act c_cells_Arena_Cells s1 picks2 Q r4 () h41) ∧
    ((decide ((0 : Int) < (s1.2.1.len : Int))) = false →
    explore_play.j3 c_cells_Arena_Store c_explore_act c_cells_Arena_Cells s1 picks2 Q r4 () h5))
def explore_play.mk : Mk := (.s (.r [0, 1]) (.s .d (.j [] (.s .d (.c .d .d)) (.s (.s .d (.b (.l [.slot 31 (.int .i64)] (.s .d (.s (.c .d .d) (.s (.b (.s .d .d)) .d)))))) (.s (.r [5]) (.s (.s .d (.b (.l [.slot 48 (.int .i64)] (.s .d (.s (.c .d .d) (.s (.b (.s .d (.s (.q [13] [12] [.p 0, .p 2, .p 5, .p 7, .w 1 [1, 3, 4, 11, 12, 14], .p 3, .w 4 [4, 11, 12, 14], .w 6 [6, 8, 9, 10, 11, 12, 14], .p 8, .w 9 [9, 10, 11, 12, 14], .p 10, .p 11, .w 12 [12, 14], .o 13, .o 14]) (.q [] [] [.p 0, .p 2, .p 3, .p 5, .p 8, .w 1 [1, 13, 14], .w 4 [4, 6, 7, 12, 13, 14], .p 6, .w 7 [7, 12, 13, 14], .w 9 [9, 10, 11, 12, 13, 14], .o 10, .o 11, .o 12, .p 13, .o 14])))) .d)))))) (.s .d (.s .d .d))))))))

def explore_isScript.j1 (go15 : (Int × Unit) → Heap → Prop) (s13 : (Int × Unit)) (s16 : Unit) (h17 : Heap) : Prop :=
    go15 ((w64 (s13.1 + 1)), ()) h17
def explore_isScript.j2 (s4 : Sl) (go15 : (Int × Unit) → Heap → Prop) (s13 : (Int × Unit)) (t19 : Int) (s20 : Unit) (h21 : Heap) : Prop :=
    (0 ≤ t19 ∧ t19 < (s4.len : Int)) ∧
    deref s4.a fun a22 =>
    ld ((.int .i64) : Kd) h21 (a22.add ((t19 : Int).toNat * 1)) fun t23 =>
    (0 ≤ t19 ∧ t19 < (s4.len : Int)) ∧
    deref s4.a fun a24 =>
    st ((.int .i64) : Kd) h21 (a24.add ((t19 : Int).toNat * 1)) (w64 (t23 - 1)) fun h25 =>
    explore_isScript.j1 go15 s13 () h25
def explore_isScript.j3 (Q : Bool → Heap → Prop) (s4 : Sl) (go15 : (Int × Unit) → Heap → Prop) (s13 : (Int × Unit)) (t19 : Int) (s26 : (Bool × Unit)) (h27 : Heap) : Prop :=
    ((s26.1 = true →
    Q false h27) ∧
    (s26.1 = false →
    explore_isScript.j2 s4 go15 s13 t19 () h27))
def explore_isScript.l4 (c_slices_ContainsFunc_int_int : Sl → Value → Heap → (Bool → Heap → Prop) → Prop) (picks2 : Sl) (Q : Bool → Heap → Prop) (s4 : Sl) (go15 : (Int × Unit) → Heap → Prop) (s13 : (Int × Unit)) (h14 : Heap) : Prop :=
    (((decide (s13.1 < (picks2.len : Int))) = true →
    (0 ≤ s13.1 ∧ s13.1 < (picks2.len : Int)) ∧
    deref picks2.a fun a18 =>
    ld ((.int .i64) : Kd) h14 (a18.add ((s13.1 : Int).toNat * 1)) fun t19 =>
    (((decide (t19 < 0)) = true →
    explore_isScript.j3 Q s4 go15 s13 t19 (true, ()) h14) ∧
    ((decide (t19 < 0)) = false →
    (((decide ((s4.len : Int) ≤ t19)) = true →
    explore_isScript.j3 Q s4 go15 s13 t19 (true, ()) h14) ∧
    ((decide ((s4.len : Int) ≤ t19)) = false →
    (0 ≤ t19 ∧ t19 < (s4.len : Int)) ∧
    deref s4.a fun a28 =>
    ld ((.int .i64) : Kd) h14 (a28.add ((t19 : Int).toNat * 1)) fun t29 =>
    explore_isScript.j3 Q s4 go15 s13 t19 ((decide (t29 = 0)), ()) h14))))) ∧
    ((decide (s13.1 < (picks2.len : Int))) = false →
    c_slices_ContainsFunc_int_int s4 (Value.func (.func 85) #[] #[]) h14 fun r30 h31 =>
    Q (!r30) h31))
def explore_isScript.l5 (c_slices_ContainsFunc_int_int : Sl → Value → Heap → (Bool → Heap → Prop) → Prop) (s1 : Den kapiScene) (picks2 : Sl) (Q : Bool → Heap → Prop) (s4 : Sl) (go8 : (Int × Unit) → Heap → Prop) (s6 : (Int × Unit)) (h7 : Heap) : Prop :=
    (((decide (s6.1 < (s1.2.2.1.len : Int))) = true →
    (0 ≤ s6.1 ∧ s6.1 < (s1.2.2.1.len : Int)) ∧
    deref s1.2.2.1.a fun a9 =>
    ld (.sl : Kd) h7 (a9.add ((s6.1 : Int).toNat * 1)) fun t10 =>
    (0 ≤ s6.1 ∧ s6.1 < (s4.len : Int)) ∧
    deref s4.a fun a11 =>
    st ((.int .i64) : Kd) h7 (a11.add ((s6.1 : Int).toNat * 1)) (t10.len : Int) fun h12 =>
    go8 ((w64 (s6.1 + 1)), ()) h12) ∧
    ((decide (s6.1 < (s1.2.2.1.len : Int))) = false →
    Loop (explore_isScript.l4 c_slices_ContainsFunc_int_int picks2 Q s4) (0, ()) h7))
def explore_isScript.M (c_slices_ContainsFunc_int_int : Sl → Value → Heap → (Bool → Heap → Prop) → Prop) (s1 : Den kapiScene) (picks2 : Sl) (h3 : Heap) (Q : Bool → Heap → Prop) : Prop :=
    makeM ((.int .i64) : Kd) 8 h3 (s1.2.2.1.len : Int) (s1.2.2.1.len : Int) fun s4 h5 =>
    Loop (explore_isScript.l5 c_slices_ContainsFunc_int_int s1 picks2 Q s4) (0, ()) h5
def explore_isScript.mk : Mk := (.s (.r [0]) (.s .d (.s (.s .d (.b (.l [.slot 17 (.int .i64)] (.s .d (.s (.c .d .d) (.s (.b (.s .d .d)) .d)))))) (.s (.s .d (.b (.l [.slot 30 (.int .i64)] (.s .d (.s (.c .d .d) (.j [] (.b (.s .d (.j [] (.j [.slot 48 .bool] .d (.c (.s .d .d) .d)) .d))) .d)))))) (.s .d .d)))))

def slices_EqualFunc_int_int_int_int.l1 (c_fn : Value → Sl → Sl → Heap → (Bool → Heap → Prop) → Prop) (s11 : Sl) (s22 : Sl) (eq3 : Value) (Q : Bool → Heap → Prop) (go7 : (Int × Unit) → Heap → Prop) (s5 : (Int × Unit)) (h6 : Heap) : Prop :=
    (((decide (s5.1 < (s11.len : Int))) = true →
    (0 ≤ s5.1 ∧ s5.1 < (s11.len : Int)) ∧
    deref s11.a fun a8 =>
    ld (.sl : Kd) h6 (a8.add ((s5.1 : Int).toNat * 1)) fun t9 =>
    (0 ≤ s5.1 ∧ s5.1 < (s22.len : Int)) ∧
    deref s22.a fun a10 =>
    ld (.sl : Kd) h6 (a10.add ((s5.1 : Int).toNat * 1)) fun t11 =>
    c_fn eq3 t9 t11 h6 fun r12 h13 =>
    (((!r12) = true →
    Q false h13) ∧
    ((!r12) = false →
    go7 ((w64 (s5.1 + 1)), ()) h13))) ∧
    ((decide (s5.1 < (s11.len : Int))) = false →
    Q true h6))
def slices_EqualFunc_int_int_int_int.M (c_fn : Value → Sl → Sl → Heap → (Bool → Heap → Prop) → Prop) (s11 : Sl) (s22 : Sl) (eq3 : Value) (h4 : Heap) (Q : Bool → Heap → Prop) : Prop :=
    (((decide ((s11.len : Int) ≠ (s22.len : Int))) = true →
    Q false h4) ∧
    ((decide ((s11.len : Int) ≠ (s22.len : Int))) = false →
    Loop (slices_EqualFunc_int_int_int_int.l1 c_fn s11 s22 eq3 Q) (0, ()) h4))
def slices_EqualFunc_int_int_int_int.mk : Mk := (.s .d (.s (.s .d (.c (.s .d .d) .d)) (.s (.s .d (.b (.l [.slot 17 (.int .i64)] (.s .d (.s (.c .d .d) (.s (.b (.s .d (.s .d (.s .d (.c (.s .d .d) .d))))) .d)))))) (.s .d .d))))

def explore_Alike_1.M (c_slices_Equal_int_int : Sl → Sl → Heap → (Bool → Heap → Prop) → Prop) (a1 : Sl) (b2 : Sl) (h3 : Heap) (Q : Bool → Heap → Prop) : Prop :=
    c_slices_Equal_int_int a1 b2 h3 fun r4 h5 =>
    Q r4 h5
def explore_Alike_1.mk : Mk := (.s .d (.s .d .d))

def slices_Equal_int_int.l1 (s11 : Sl) (s22 : Sl) (Q : Bool → Heap → Prop) (go6 : (Int × Unit) → Heap → Prop) (s4 : (Int × Unit)) (h5 : Heap) : Prop :=
    (((decide (s4.1 < (s11.len : Int))) = true →
    (0 ≤ s4.1 ∧ s4.1 < (s11.len : Int)) ∧
    deref s11.a fun a7 =>
    (0 ≤ s4.1 ∧ s4.1 < (s22.len : Int)) ∧
    deref s22.a fun a8 =>
    ld ((.int .i64) : Kd) h5 (a7.add ((s4.1 : Int).toNat * 1)) fun t9 =>
    ld ((.int .i64) : Kd) h5 (a8.add ((s4.1 : Int).toNat * 1)) fun t10 =>
    (((decide (t9 ≠ t10)) = true →
    Q false h5) ∧
    ((decide (t9 ≠ t10)) = false →
    go6 ((w64 (s4.1 + 1)), ()) h5))) ∧
    ((decide (s4.1 < (s11.len : Int))) = false →
    Q true h5))
def slices_Equal_int_int.M  (s11 : Sl) (s22 : Sl) (h3 : Heap) (Q : Bool → Heap → Prop) : Prop :=
    (((decide ((s11.len : Int) ≠ (s22.len : Int))) = true →
    Q false h3) ∧
    ((decide ((s11.len : Int) ≠ (s22.len : Int))) = false →
    Loop (slices_Equal_int_int.l1 s11 s22 Q) (0, ()) h3))
def slices_Equal_int_int.mk : Mk := (.s .d (.s (.s .d (.c (.s .d .d) .d)) (.s (.s .d (.b (.l [.slot 13 (.int .i64)] (.s .d (.s (.c .d .d) (.s (.b (.s .d (.s (.q [] [] [.p 0, .p 1, .p 2, .p 4, .p 5, .p 6, .w 3 [3, 8], .w 7 [7, 8], .p 8]) (.c (.s .d .d) .d)))) .d)))))) (.s .d .d))))

def ref22_Script.j1 (go8 : (Int × (((Fin 4 → Int) × Unit) × Unit)) → Heap → Prop) (s6 : (Int × (((Fin 4 → Int) × Unit) × Unit))) (s9 : (((Fin 4 → Int) × Unit) × Unit)) (h10 : Heap) : Prop :=
    go8 ((w64 (s6.1 + 1)), (s9.1.1, ()), ()) h10
def ref22_Script.j2 (go8 : (Int × (((Fin 4 → Int) × Unit) × Unit)) → Heap → Prop) (s6 : (Int × (((Fin 4 → Int) × Unit) × Unit))) (t12 : Int) (s13 : Unit) (h14 : Heap) : Prop :=
    (0 ≤ t12 ∧ t12 < (4 : Int)) ∧
    (0 ≤ t12 ∧ t12 < (4 : Int)) ∧
    ref22_Script.j1 go8 s6 (((aset (n := 4) (a := ((.int .i64) : Kd)) s6.2.1.1 (t12 : Int).toNat (w64 ((aget (n := 4) (a := ((.int .i64) : Kd)) s6.2.1.1 (t12 : Int).toNat) + 1))), ()), ()) h14
def ref22_Script.j3 (Q : Bool → Heap → Prop) (go8 : (Int × (((Fin 4 → Int) × Unit) × Unit)) → Heap → Prop) (s6 : (Int × (((Fin 4 → Int) × Unit) × Unit))) (t12 : Int) (s15 : (Bool × Unit)) (h16 : Heap) : Prop :=
    ((s15.1 = true →
    Q false h16) ∧
    (s15.1 = false →
    ref22_Script.j2 go8 s6 t12 () h16))
def ref22_Script.l4 (s1 : Den kapiScene) (Q : Bool → Heap → Prop) (s6 : (Int × (((Fin 4 → Int) × Unit) × Unit))) (go19 : (Int × Unit) → Heap → Prop) (s17 : (Int × Unit)) (h18 : Heap) : Prop :=
    (((decide (s17.1 < (s1.2.2.1.len : Int))) = true →
    (0 ≤ s17.1 ∧ s17.1 < (4 : Int)) ∧
    (0 ≤ s17.1 ∧ s17.1 < (s1.2.2.1.len : Int)) ∧
    deref s1.2.2.1.a fun a20 =>
    ld (.sl : Kd) h18 (a20.add ((s17.1 : Int).toNat * 1)) fun t21 =>
    (((decide ((aget (n := 4) (a := ((.int .i64) : Kd)) s6.2.1.1 (s17.1 : Int).toNat) ≠ (t21.len : Int))) = true →
    Q false h18) ∧
    ((decide ((aget (n := 4) (a := ((.int .i64) : Kd)) s6.2.1.1 (s17.1 : Int).toNat) ≠ (t21.len : Int))) = false →
    go19 ((w64 (s17.1 + 1)), ()) h18))) ∧
    ((decide (s17.1 < (s1.2.2.1.len : Int))) = false →
    Q true h18))
def ref22_Script.l5 (s1 : Den kapiScene) (picks2 : Sl) (Q : Bool → Heap → Prop) (go8 : (Int × (((Fin 4 → Int) × Unit) × Unit)) → Heap → Prop) (s6 : (Int × (((Fin 4 → Int) × Unit) × Unit))) (h7 : Heap) : Prop :=
    (((decide (s6.1 < (picks2.len : Int))) = true →
    (0 ≤ s6.1 ∧ s6.1 < (picks2.len : Int)) ∧
    deref picks2.a fun a11 =>
    ld ((.int .i64) : Kd) h7 (a11.add ((s6.1 : Int).toNat * 1)) fun t12 =>
    (((decide (t12 < 0)) = true →
    ref22_Script.j3 Q go8 s6 t12 (true, ()) h7) ∧
    ((decide (t12 < 0)) = false →
    ref22_Script.j3 Q go8 s6 t12 ((decide ((s1.2.2.1.len : Int) ≤ t12)), ()) h7))) ∧
    ((decide (s6.1 < (picks2.len : Int))) = false →
    Loop (ref22_Script.l4 s1 Q s6) (0, ()) h7))
def ref22_Script.M (c_ref22_acts : Den kapiScene → Heap → (Int → Heap → Prop) → Prop) (s1 : Den kapiScene) (picks2 : Sl) (h3 : Heap) (Q : Bool → Heap → Prop) : Prop :=
    c_ref22_acts (s1.1, (s1.2.1, (s1.2.2.1, ()))) h3 fun r4 h5 =>
    (((decide ((picks2.len : Int) ≠ r4)) = true →
    Q false h5) ∧
    ((decide ((picks2.len : Int) ≠ r4)) = false →
    Loop (ref22_Script.l5 s1 picks2 Q) (0, ((fun _ => 0), ()), ()) h5))
def ref22_Script.mk : Mk := (.s (.r [0]) (.s (.s .d (.c (.s .d .d) .d)) (.s (.r [0]) (.s (.s .d (.b (.l [.slot 6 (.int .i64), .box 5 (.pair (.arr 4 (.int .i64)) .nil)] (.s (.s .d (.c .d .d)) (.j [.box 5 (.pair (.arr 4 (.int .i64)) .nil)] (.b (.s .d (.j [] (.j [.slot 32 .bool] .d (.c (.s .d .d) .d)) .d))) .d))))) (.s (.s .d (.b (.l [.slot 8 (.int .i64)] (.s (.s .d (.c .d .d)) (.s (.b (.s (.q [] [] [.p 0, .p 1, .p 3, .p 5, .w 2 [2, 9], .w 4 [4, 6, 7, 8, 9], .p 6, .w 7 [7, 8, 9], .p 8, .p 9]) (.c (.s .d .d) .d))) .d))))) (.s .d .d))))))

def ref22_same.l1 (c_ref22_first : Den kapiScene → Sl → Int → Heap → (Int → Heap → Prop) → Prop) (c_ref22_without : Sl → Int → Heap → (Sl → Heap → Prop) → Prop) (s1 : Den kapiScene) (q3 : Sl) (Q : Bool → Heap → Prop) (go9 : (Sl × (Int × Unit)) → Heap → Prop) (s7 : (Sl × (Int × Unit))) (h8 : Heap) : Prop :=
    (((decide (s7.2.1 < (q3.len : Int))) = true →
    (0 ≤ s7.2.1 ∧ s7.2.1 < (q3.len : Int)) ∧
    deref q3.a fun a10 =>
    ld ((.int .i64) : Kd) h8 (a10.add ((s7.2.1 : Int).toNat * 1)) fun t11 =>
    c_ref22_first (s1.1, (s1.2.1, (s1.2.2.1, ()))) s7.1 t11 h8 fun r12 h13 =>
    (((decide (r12 < 0)) = true →
    Q false h13) ∧
    ((decide (r12 < 0)) = false →
    c_ref22_without s7.1 r12 h13 fun r14 h15 =>
    go9 (r14, (w64 (s7.2.1 + 1)), ()) h15))) ∧
    ((decide (s7.2.1 < (q3.len : Int))) = false →
    Q true h8))
def ref22_same.M (c_ref22_Row : Den kapiScene → Sl → Heap → (Sl → Heap → Prop) → Prop) (c_ref22_first : Den kapiScene → Sl → Int → Heap → (Int → Heap → Prop) → Prop) (c_ref22_without : Sl → Int → Heap → (Sl → Heap → Prop) → Prop) (s1 : Den kapiScene) (p2 : Sl) (q3 : Sl) (h4 : Heap) (Q : Bool → Heap → Prop) : Prop :=
    c_ref22_Row (s1.1, (s1.2.1, (s1.2.2.1, ()))) p2 h4 fun r5 h6 =>
    Loop (ref22_same.l1 c_ref22_first c_ref22_without s1 q3 Q) (r5, 0, ()) h6
def ref22_same.mk : Mk := (.s (.r [0]) (.s .d (.s (.s .d (.b (.l [.slot 7 .sl, .slot 8 (.int .i64)] (.s (.s .d (.c .d .d)) (.s (.b (.s (.q [] [] [.p 1, .p 2, .p 3, .p 4, .w 0 [0, 6, 7], .w 5 [5, 6, 7], .o 6, .p 7]) (.s (.s .d (.c (.s .d .d) .d)) .d))) .d))))) (.s .d .d))))

def explore_steps.j1 (go23 : (Int × ((Int × (Int × Den kapiAct)) × Unit)) → Heap → Prop) (s21 : (Int × ((Int × (Int × Den kapiAct)) × Unit))) (s24 : ((Int × (Int × Den kapiAct)) × Unit)) (h25 : Heap) : Prop :=
    go23 ((w64 (s21.1 + 1)), (s24.1.1, (s24.1.2.1, (s24.1.2.2.1, (s24.1.2.2.2.1, (s24.1.2.2.2.2.1, (s24.1.2.2.2.2.2.1, (s24.1.2.2.2.2.2.2.1, ()))))))), ()) h25
def explore_steps.j2 (go23 : (Int × ((Int × (Int × Den kapiAct)) × Unit)) → Heap → Prop) (s21 : (Int × ((Int × (Int × Den kapiAct)) × Unit))) (t27 : Den kexploredone) (s28 : (Bool × Unit)) (h29 : Heap) : Prop :=
    ((s28.1 = true →
    explore_steps.j1 go23 s21 ((s21.2.1.1, ((if s21.2.1.2.1 < (w64 (t27.2.1 + 1)) then (w64 (t27.2.1 + 1)) else s21.2.1.2.1), (s21.2.1.2.2.1, (s21.2.1.2.2.2.1, (s21.2.1.2.2.2.2.1, (s21.2.1.2.2.2.2.2.1, (s21.2.1.2.2.2.2.2.2.1, ()))))))), ()) h29) ∧
    (s28.1 = false →
    explore_steps.j1 go23 s21 ((s21.2.1.1, (s21.2.1.2.1, (s21.2.1.2.2.1, (s21.2.1.2.2.2.1, (s21.2.1.2.2.2.2.1, (s21.2.1.2.2.2.2.2.1, (s21.2.1.2.2.2.2.2.2.1, ()))))))), ()) h29))
def explore_steps.l3 (c_explore_Depends : Den kapiScene → Den kapiAct → Den kapiAct → Heap → (Bool → Heap → Prop) → Prop) (s1 : Den kapiScene) (go8 : (Sl × (Int × Unit)) → Heap → Prop) (s6 : (Sl × (Int × Unit))) (t10 : Int) (go23 : (Int × ((Int × (Int × Den kapiAct)) × Unit)) → Heap → Prop) (s21 : (Int × ((Int × (Int × Den kapiAct)) × Unit))) (h22 : Heap) : Prop :=
    (((decide (s21.1 < (s6.1.len : Int))) = true →
    (0 ≤ s21.1 ∧ s21.1 < (s6.1.len : Int)) ∧
    deref s6.1.a fun a26 =>
    ld kexploredone h22 (a26.add ((s21.1 : Int).toNat * 7)) fun t27 =>
    (((decide (t27.1 = t10)) = true →
    explore_steps.j2 go23 s21 t27 (true, ()) h22) ∧
    ((decide (t27.1 = t10)) = false →
    c_explore_Depends (s1.1, (s1.2.1, (s1.2.2.1, ()))) (t27.2.2.1.1, (t27.2.2.1.2.1, (t27.2.2.1.2.2.1, (t27.2.2.1.2.2.2.1, (t27.2.2.1.2.2.2.2.1, ()))))) (s21.2.1.2.2.1, (s21.2.1.2.2.2.1, (s21.2.1.2.2.2.2.1, (s21.2.1.2.2.2.2.2.1, (s21.2.1.2.2.2.2.2.2.1, ()))))) h22 fun r30 h31 =>
    explore_steps.j2 go23 s21 t27 (r30, ()) h31))) ∧
    ((decide (s21.1 < (s6.1.len : Int))) = false →
    new h22 (([(s21.2.1.1, (s21.2.1.2.1, ((s21.2.1.2.2.1, (s21.2.1.2.2.2.1, (s21.2.1.2.2.2.2.1, (s21.2.1.2.2.2.2.2.1, (s21.2.1.2.2.2.2.2.2.1, ()))))), ())))] : List (Den kexploredone)).flatMap (Kd.cells kexploredone)) fun p32 h33 =>
    appendM 7 56 h33 s6.1 ⟨some p32, 1, 1⟩ fun t34 h35 =>
    go8 (t34, (w64 (s6.2.1 + 1)), ()) h35))
def explore_steps.l4 (c_explore_Depends : Den kapiScene → Den kapiAct → Den kapiAct → Heap → (Bool → Heap → Prop) → Prop) (s1 : Den kapiScene) (picks2 : Sl) (Q : Sl → Heap → Prop) (s4 : Sl) (go8 : (Sl × (Int × Unit)) → Heap → Prop) (s6 : (Sl × (Int × Unit))) (h7 : Heap) : Prop :=
    (((decide (s6.2.1 < (picks2.len : Int))) = true →
    (0 ≤ s6.2.1 ∧ s6.2.1 < (picks2.len : Int)) ∧
    deref picks2.a fun a9 =>
    ld ((.int .i64) : Kd) h7 (a9.add ((s6.2.1 : Int).toNat * 1)) fun t10 =>
    (0 ≤ t10 ∧ t10 < (s4.len : Int)) ∧
    deref s4.a fun a11 =>
    (0 ≤ t10 ∧ t10 < (s1.2.2.1.len : Int)) ∧
    deref s1.2.2.1.a fun a12 =>
    ld (.sl : Kd) h7 (a12.add ((t10 : Int).toNat * 1)) fun t13 =>
    ld ((.int .i64) : Kd) h7 (a11.add ((t10 : Int).toNat * 1)) fun t14 =>
    (0 ≤ t14 ∧ t14 < (t13.len : Int)) ∧
    deref t13.a fun a15 =>
    ld kapiAct h7 (a15.add ((t14 : Int).toNat * 5)) fun t16 =>
    (0 ≤ t10 ∧ t10 < (s4.len : Int)) ∧
    deref s4.a fun a17 =>
    ld ((.int .i64) : Kd) h7 (a17.add ((t10 : Int).toNat * 1)) fun t18 =>
    (0 ≤ t10 ∧ t10 < (s4.len : Int)) ∧
    deref s4.a fun a19 =>
    st ((.int .i64) : Kd) h7 (a19.add ((t10 : Int).toNat * 1)) (w64 (t18 + 1)) fun h20 =>
    Loop (explore_steps.l3 c_explore_Depends s1 go8 s6 t10) (0, (t10, (1, (t16.1, (t16.2.1, (t16.2.2.1, (t16.2.2.2.1, (t16.2.2.2.2.1, ()))))))), ()) h20) ∧
    ((decide (s6.2.1 < (picks2.len : Int))) = false →
    Q s6.1 h7))
def explore_steps.M (c_explore_Depends : Den kapiScene → Den kapiAct → Den kapiAct → Heap → (Bool → Heap → Prop) → Prop) (s1 : Den kapiScene) (picks2 : Sl) (h3 : Heap) (Q : Sl → Heap → Prop) : Prop :=
    makeM ((.int .i64) : Kd) 8 h3 (s1.2.2.1.len : Int) (s1.2.2.1.len : Int) fun s4 h5 =>
    Loop (explore_steps.l4 c_explore_Depends s1 picks2 Q s4) (⟨none, 0, 0⟩, 0, ()) h5
def explore_steps.mk : Mk := (.s (.r [0]) (.s .d (.s .d (.s (.s .d (.b (.l [.slot 6 .sl, .slot 18 (.int .i64)] (.s .d (.s (.c .d .d) (.s (.b (.s .d (.s (.q [13] [9] [.p 0, .p 1, .p 3, .p 6, .p 7, .p 8, .w 2 [2, 4, 5, 10, 11, 12, 14], .p 4, .w 5 [5, 10, 11, 12, 14], .w 9 [9, 10, 11, 12, 14], .p 10, .w 11 [11, 12, 14], .p 12, .o 13, .o 14]) (.s .d (.s (.s .d (.b (.l [.slot 43 (.int .i64), .box 9 (.pair (.int .i64) (.pair (.int .i64) kapiAct))] (.s .d (.s (.c .d .d) (.j [.box 9 (.pair (.int .i64) (.pair (.int .i64) kapiAct))] (.b (.s (.r [2]) (.j [.slot 58 .bool] .d (.c .d .d)))) .d)))))) .d))))) .d)))))) (.s .d .d)))))

def explore_gives.M  (x1 : Den kapiAct) (h2 : Heap) (Q : Bool → Heap → Prop) : Prop :=
    (((decide (x1.2.1 = 4)) = true →
    Q (decide ((1 : Int) ≤ x1.2.2.2.1)) h2) ∧
    ((decide (x1.2.1 = 4)) = false →
    Q false h2))
def explore_gives.mk : Mk := (.s (.r [0]) (.s .d .d))

def explore_touches.M  (s1 : Den kapiScene) (x2 : Den kapiAct) (h3 : Heap) (Q : Bool → Heap → Prop) : Prop :=
    (((decide ((0 : Int) ≤ x2.2.1)) = true →
    (((decide (x2.2.1 ≤ 3)) = true →
    (((decide ((0 : Int) ≤ x2.2.2.1)) = true →
    Q (decide (x2.2.2.1 < s1.1)) h3) ∧
    ((decide ((0 : Int) ≤ x2.2.2.1)) = false →
    Q false h3))) ∧
    ((decide (x2.2.1 ≤ 3)) = false →
    Q false h3))) ∧
    ((decide ((0 : Int) ≤ x2.2.1)) = false →
    Q false h3))
def explore_touches.mk : Mk := (.s (.r [0, 1]) (.s .d .d))

def slices_Sort_int_int.M (c_math_bits_Len : Int → Heap → (Int → Heap → Prop) → Prop) (c_slices_pdqsortOrdered_int : Sl → Int → Int → Int → Heap → (Unit → Heap → Prop) → Prop) (x1 : Sl) (h2 : Heap) (Q : Unit → Heap → Prop) : Prop :=
    c_math_bits_Len (IntKind.wrap .u64 (x1.len : Int)) h2 fun r3 h4 =>
    c_slices_pdqsortOrdered_int x1 0 (x1.len : Int) r3 h4 fun r5 h6 =>
    Q () h6
def slices_Sort_int_int.mk : Mk := (.s .d .d)

def ref22_Check.j1 (go12 : (Int × Unit) → Heap → Prop) (s10 : (Int × Unit)) (s15 : Unit) (h16 : Heap) : Prop :=
    go12 ((w64 (s10.1 + 1)), ()) h16
def ref22_Check.j2 (Q : Int → Heap → Prop) (go12 : (Int × Unit) → Heap → Prop) (s10 : (Int × Unit)) (s21 : (Bool × Unit)) (h22 : Heap) : Prop :=
    ((s21.1 = true →
    Q 23 h22) ∧
    (s21.1 = false →
    ref22_Check.j1 go12 s10 () h22))
def ref22_Check.l3 (s1 : Den kapiScene) (Q : Int → Heap → Prop) (go9 : (Int × Unit) → Heap → Prop) (s7 : (Int × Unit)) (go12 : (Int × Unit) → Heap → Prop) (s10 : (Int × Unit)) (h11 : Heap) : Prop :=
    (0 ≤ s7.1 ∧ s7.1 < (s1.2.2.1.len : Int)) ∧
    deref s1.2.2.1.a fun a13 =>
    ld (.sl : Kd) h11 (a13.add ((s7.1 : Int).toNat * 1)) fun t14 =>
    (((decide (s10.1 < (t14.len : Int))) = true →
    (0 ≤ s7.1 ∧ s7.1 < (s1.2.2.1.len : Int)) ∧
    deref s1.2.2.1.a fun a17 =>
    ld (.sl : Kd) h11 (a17.add ((s7.1 : Int).toNat * 1)) fun t18 =>
    (0 ≤ s10.1 ∧ s10.1 < (t18.len : Int)) ∧
    deref t18.a fun a19 =>
    ld ((.int .i64) : Kd) h11 ((a19.add ((s10.1 : Int).toNat * 5)).add 1) fun t20 =>
    (((decide (t20 < 0)) = true →
    ref22_Check.j2 Q go12 s10 (true, ()) h11) ∧
    ((decide (t20 < 0)) = false →
    ref22_Check.j2 Q go12 s10 ((decide ((4 : Int) < t20)), ()) h11))) ∧
    ((decide (s10.1 < (t14.len : Int))) = false →
    go9 ((w64 (s7.1 + 1)), ()) h11))
def ref22_Check.l4 (s1 : Den kapiScene) (Q : Int → Heap → Prop) (go9 : (Int × Unit) → Heap → Prop) (s7 : (Int × Unit)) (h8 : Heap) : Prop :=
    (((decide (s7.1 < (s1.2.2.1.len : Int))) = true →
    Loop (ref22_Check.l3 s1 Q go9 s7) (0, ()) h8) ∧
    ((decide (s7.1 < (s1.2.2.1.len : Int))) = false →
    Q 0 h8))
def ref22_Check.j5 (s1 : Den kapiScene) (Q : Int → Heap → Prop) (s5 : Unit) (h6 : Heap) : Prop :=
    Loop (ref22_Check.l4 s1 Q) (0, ()) h6
def ref22_Check.j6 (s1 : Den kapiScene) (Q : Int → Heap → Prop) (s23 : (Bool × Unit)) (h24 : Heap) : Prop :=
    ((s23.1 = true →
    Q 2 h24) ∧
    (s23.1 = false →
    ref22_Check.j5 s1 Q () h24))
def ref22_Check.j7 (c_ref22_acts : Den kapiScene → Heap → (Int → Heap → Prop) → Prop) (s1 : Den kapiScene) (Q : Int → Heap → Prop) (s3 : Unit) (h4 : Heap) : Prop :=
    (((decide (s1.1 < (s1.2.1.len : Int))) = true →
    ref22_Check.j6 s1 Q (true, ()) h4) ∧
    ((decide (s1.1 < (s1.2.1.len : Int))) = false →
    (((decide ((4 : Int) < (s1.2.2.1.len : Int))) = true →
    ref22_Check.j6 s1 Q (true, ()) h4) ∧
    ((decide ((4 : Int) < (s1.2.2.1.len : Int))) = false →
    c_ref22_acts (s1.1, (s1.2.1, (s1.2.2.1, ()))) h4 fun r25 h26 =>
    ref22_Check.j6 s1 Q ((decide ((10 : Int) < r25)), ()) h26))))
def ref22_Check.j8 (c_ref22_acts : Den kapiScene → Heap → (Int → Heap → Prop) → Prop) (s1 : Den kapiScene) (Q : Int → Heap → Prop) (s27 : (Bool × Unit)) (h28 : Heap) : Prop :=
    ((s27.1 = true →
    Q 3 h28) ∧
    (s27.1 = false →
    ref22_Check.j7 c_ref22_acts s1 Q () h28))
def ref22_Check.M (c_ref22_acts : Den kapiScene → Heap → (Int → Heap → Prop) → Prop) (s1 : Den kapiScene) (h2 : Heap) (Q : Int → Heap → Prop) : Prop :=
    (((decide (s1.1 < 0)) = true →
    ref22_Check.j8 c_ref22_acts s1 Q (true, ()) h2) ∧
    ((decide (s1.1 < 0)) = false →
    ref22_Check.j8 c_ref22_acts s1 Q ((decide ((64 : Int) < s1.1)), ()) h2))
def ref22_Check.mk : Mk := (.s (.r [0]) (.j [] (.j [.slot 13 .bool] .d (.c (.s .d .d) .d)) (.j [] (.j [.slot 30 .bool] .d (.c (.s .d .d) .d)) (.s (.s .d (.b (.l [.slot 3 (.int .i64)] (.s (.s .d (.c .d .d)) (.s (.b (.s .d (.b (.l [.slot 4 (.int .i64)] (.s (.s .d (.c .d .d)) (.j [] (.b (.s .d (.j [.slot 62 .bool] .d (.c (.s .d .d) .d)))) .d)))))) .d))))) (.s .d .d)))))

def ref22_Depends.j1 (c_ref22_makes : Den kapiAct → Heap → (Bool → Heap → Prop) → Prop) (s1 : Den kapiScene) (x2 : Den kapiAct) (y3 : Den kapiAct) (Q : Bool → Heap → Prop) (r5 : Int) (r7 : Int) (s11 : Unit) (h12 : Heap) : Prop :=
    c_ref22_makes (x2.1, (x2.2.1, (x2.2.2.1, (x2.2.2.2.1, (x2.2.2.2.2.1, ()))))) h12 fun r13 h14 =>
    ((r13 = true →
    (((decide ((s1.2.1.len : Int) ≤ r7)) = true →
    (((decide ((0 : Int) ≤ r7)) = true →
    Q true h14) ∧
    ((decide ((0 : Int) ≤ r7)) = false →
    c_ref22_makes (y3.1, (y3.2.1, (y3.2.2.1, (y3.2.2.2.1, (y3.2.2.2.2.1, ()))))) h14 fun r15 h16 =>
    ((r15 = true →
    (((decide ((s1.2.1.len : Int) ≤ r5)) = true →
    Q (decide ((0 : Int) ≤ r5)) h16) ∧
    ((decide ((s1.2.1.len : Int) ≤ r5)) = false →
    Q false h16))) ∧
    (r15 = false →
    Q false h16))))) ∧
    ((decide ((s1.2.1.len : Int) ≤ r7)) = false →
    c_ref22_makes (y3.1, (y3.2.1, (y3.2.2.1, (y3.2.2.2.1, (y3.2.2.2.2.1, ()))))) h14 fun r17 h18 =>
    ((r17 = true →
    (((decide ((s1.2.1.len : Int) ≤ r5)) = true →
    Q (decide ((0 : Int) ≤ r5)) h18) ∧
    ((decide ((s1.2.1.len : Int) ≤ r5)) = false →
    Q false h18))) ∧
    (r17 = false →
    Q false h18))))) ∧
    (r13 = false →
    c_ref22_makes (y3.1, (y3.2.1, (y3.2.2.1, (y3.2.2.2.1, (y3.2.2.2.2.1, ()))))) h14 fun r19 h20 =>
    ((r19 = true →
    (((decide ((s1.2.1.len : Int) ≤ r5)) = true →
    Q (decide ((0 : Int) ≤ r5)) h20) ∧
    ((decide ((s1.2.1.len : Int) ≤ r5)) = false →
    Q false h20))) ∧
    (r19 = false →
    Q false h20))))
def ref22_Depends.j2 (c_ref22_makes : Den kapiAct → Heap → (Bool → Heap → Prop) → Prop) (s1 : Den kapiScene) (x2 : Den kapiAct) (y3 : Den kapiAct) (Q : Bool → Heap → Prop) (r5 : Int) (r7 : Int) (s21 : (Bool × Unit)) (h22 : Heap) : Prop :=
    ((s21.1 = true →
    Q true h22) ∧
    (s21.1 = false →
    ref22_Depends.j1 c_ref22_makes s1 x2 y3 Q r5 r7 () h22))
def ref22_Depends.j3 (c_ref22_makes : Den kapiAct → Heap → (Bool → Heap → Prop) → Prop) (s1 : Den kapiScene) (x2 : Den kapiAct) (y3 : Den kapiAct) (Q : Bool → Heap → Prop) (r5 : Int) (r7 : Int) (s9 : Unit) (h10 : Heap) : Prop :=
    c_ref22_makes (x2.1, (x2.2.1, (x2.2.2.1, (x2.2.2.2.1, (x2.2.2.2.2.1, ()))))) h10 fun r23 h24 =>
    ((r23 = true →
    c_ref22_makes (y3.1, (y3.2.1, (y3.2.2.1, (y3.2.2.2.1, (y3.2.2.2.2.1, ()))))) h24 fun r25 h26 =>
    ref22_Depends.j2 c_ref22_makes s1 x2 y3 Q r5 r7 (r25, ()) h26) ∧
    (r23 = false →
    ref22_Depends.j2 c_ref22_makes s1 x2 y3 Q r5 r7 (false, ()) h24))
def ref22_Depends.j4 (c_ref22_makes : Den kapiAct → Heap → (Bool → Heap → Prop) → Prop) (s1 : Den kapiScene) (x2 : Den kapiAct) (y3 : Den kapiAct) (Q : Bool → Heap → Prop) (r5 : Int) (r7 : Int) (s27 : (Bool × Unit)) (h28 : Heap) : Prop :=
    ((s27.1 = true →
    (((decide (x2.2.1 ≠ 0)) = true →
    Q true h28) ∧
    ((decide (x2.2.1 ≠ 0)) = false →
    Q (decide (y3.2.1 ≠ 0)) h28))) ∧
    (s27.1 = false →
    ref22_Depends.j3 c_ref22_makes s1 x2 y3 Q r5 r7 () h28))
def ref22_Depends.M (c_ref22_cell : Den kapiScene → Den kapiAct → Heap → (Int → Heap → Prop) → Prop) (c_ref22_makes : Den kapiAct → Heap → (Bool → Heap → Prop) → Prop) (s1 : Den kapiScene) (x2 : Den kapiAct) (y3 : Den kapiAct) (h4 : Heap) (Q : Bool → Heap → Prop) : Prop :=
    c_ref22_cell (s1.1, (s1.2.1, (s1.2.2.1, ()))) (x2.1, (x2.2.1, (x2.2.2.1, (x2.2.2.2.1, (x2.2.2.2.2.1, ()))))) h4 fun r5 h6 =>
    c_ref22_cell (s1.1, (s1.2.1, (s1.2.2.1, ()))) (y3.1, (y3.2.1, (y3.2.2.1, (y3.2.2.2.1, (y3.2.2.2.2.1, ()))))) h6 fun r7 h8 =>
    (((decide ((0 : Int) ≤ r5)) = true →
    ref22_Depends.j4 c_ref22_makes s1 x2 y3 Q r5 r7 ((decide (r5 = r7)), ()) h8) ∧
    ((decide ((0 : Int) ≤ r5)) = false →
    ref22_Depends.j4 c_ref22_makes s1 x2 y3 Q r5 r7 (false, ()) h8))
def ref22_Depends.mk : Mk := (.s (.r [0, 1, 2]) (.s .d (.s .d (.j [] (.j [.slot 21 .bool] .d (.c (.s .d .d) .d)) (.j [] (.j [.slot 35 .bool] .d (.c (.s .d .d) .d)) (.s .d .d))))))

def cells_New.M (c_cells_good : Int → Heap → (Bool → Heap → Prop) → Prop) (size1 : Int) (h2 : Heap) (Q : (Option Addr × (Int × Unit)) → Heap → Prop) : Prop :=
    c_cells_good size1 h2 fun r3 h4 =>
    (((!r3) = true →
    Q (none, 3, ()) h4) ∧
    ((!r3) = false →
    new h4 (kcellsArena.cells ((size1, (0, ())), (Sl.none, (Sl.none, (0, (false, ())))))) fun p5 h6 =>
    Q ((some p5), 0, ()) h6))
def cells_New.mk : Mk := (.s .d (.s (.s .d (.c (.s .d .d) .d)) (.s .d .d)))

def cells_Arena_Reserve.j1 (c_cells_ledger_refuse : Option Addr → Int → Heap → (Int → Heap → Prop) → Prop) (c_cells_ledger_take : Option Addr → Int → Heap → (Int → Heap → Prop) → Prop) (c_cells_Arena_note : Option Addr → Int → Int → Int → Int → Bool → Heap → (Unit → Heap → Prop) → Prop) (a1 : Option Addr) (n2 : Int) (Q : Den kapiEdge → Heap → Prop) (s4 : (Option Addr × Unit)) (h5 : Heap) : Prop :=
    c_cells_ledger_refuse s4.1 n2 h5 fun r6 h7 =>
    (((decide (r6 ≠ 0)) = true →
    Q (0, r6, ()) h7) ∧
    ((decide (r6 ≠ 0)) = false →
    c_cells_ledger_take s4.1 n2 h7 fun r8 h9 =>
    deref a1 fun a10 =>
    ld (.sl : Kd) h9 (a10.add 2) fun t11 =>
    appendZM ((.int .i64) : Kd) 8 h9 t11 n2 fun t12 h13 =>
    deref a1 fun a14 =>
    st (.sl : Kd) h13 (a14.add 2) t12 fun h15 =>
    c_cells_Arena_note a1 4 r8 n2 0 true h15 fun r16 h17 =>
    Q (r8, 0, ()) h17))
def cells_Arena_Reserve.M (c_cells_ledger_refuse : Option Addr → Int → Heap → (Int → Heap → Prop) → Prop) (c_cells_ledger_take : Option Addr → Int → Heap → (Int → Heap → Prop) → Prop) (c_cells_Arena_note : Option Addr → Int → Int → Int → Int → Bool → Heap → (Unit → Heap → Prop) → Prop) (a1 : Option Addr) (n2 : Int) (h3 : Heap) (Q : Den kapiEdge → Heap → Prop) : Prop :=
    (((Option.isSome a1) = true →
    deref a1 fun a18 =>
    cells_Arena_Reserve.j1 c_cells_ledger_refuse c_cells_ledger_take c_cells_Arena_note a1 n2 Q ((some (a18.add 0)), ()) h3) ∧
    ((Option.isSome a1) = false →
    cells_Arena_Reserve.j1 c_cells_ledger_refuse c_cells_ledger_take c_cells_Arena_note a1 n2 Q (none, ()) h3))
def cells_Arena_Reserve.mk : Mk := (.s .d (.s .d (.j [.slot 6 .ptr] (.s .d (.c .d .d)) (.s (.s .d (.s .d (.c (.s .d .d) .d))) (.s .d (.s .d (.s .d (.s .d .d))))))))

def cells_Arena_Store.M (c_cells_Arena_outside : Option Addr → Int → Heap → (Bool → Heap → Prop) → Prop) (c_cells_Arena_note : Option Addr → Int → Int → Int → Int → Bool → Heap → (Unit → Heap → Prop) → Prop) (a1 : Option Addr) (addr2 : Int) (v3 : Int) (h4 : Heap) (Q : Int → Heap → Prop) : Prop :=
    c_cells_Arena_outside a1 addr2 h4 fun r5 h6 =>
    ((r5 = true →
    Q 20 h6) ∧
    (r5 = false →
    deref a1 fun a7 =>
    ld (.sl : Kd) h6 (a7.add 2) fun t8 =>
    (0 ≤ addr2 ∧ addr2 < (t8.len : Int)) ∧
    deref t8.a fun a9 =>
    st ((.int .i64) : Kd) h6 (a9.add ((addr2 : Int).toNat * 1)) v3 fun h10 =>
    c_cells_Arena_note a1 1 addr2 v3 0 true h10 fun r11 h12 =>
    Q 0 h12))
def cells_Arena_Store.mk : Mk := (.s .d (.s (.s .d (.c (.s .d .d) .d)) (.s .d (.s .d (.s .d .d)))))

def explore_act.j1 (Q : Den kapiEffect → Heap → Prop) (s4 : (Den kapiEffect × Unit)) (h5 : Heap) : Prop :=
    Q (s4.1.1, ((decide (s4.1.2.2.1 = 0)), (s4.1.2.2.1, ()))) h5
def explore_act.M (c_cells_Arena_Load : Option Addr → Int → Heap → (Den kapiEdge → Heap → Prop) → Prop) (c_cells_Arena_Store : Option Addr → Int → Int → Heap → (Int → Heap → Prop) → Prop) (c_cells_Arena_CAS : Option Addr → Int → Int → Int → Heap → ((Bool × (Int × Unit)) → Heap → Prop) → Prop) (c_cells_Arena_Add : Option Addr → Int → Int → Heap → (Den kapiEdge → Heap → Prop) → Prop) (c_cells_Arena_Reserve : Option Addr → Int → Heap → (Den kapiEdge → Heap → Prop) → Prop) (a1 : Option Addr) (x2 : Den kapiAct) (h3 : Heap) (Q : Den kapiEffect → Heap → Prop) : Prop :=
    (((decide (x2.2.1 = 0)) = true →
    c_cells_Arena_Load a1 x2.2.2.1 h3 fun r6 h7 =>
    explore_act.j1 Q ((r6.1, (false, (r6.2.1, ()))), ()) h7) ∧
    ((decide (x2.2.1 = 0)) = false →
    (((decide (x2.2.1 = 1)) = true →
    c_cells_Arena_Store a1 x2.2.2.1 x2.2.2.2.1 h3 fun r8 h9 =>
    explore_act.j1 Q ((0, (false, (r8, ()))), ()) h9) ∧
    ((decide (x2.2.1 = 1)) = false →
    (((decide (x2.2.1 = 2)) = true →
    c_cells_Arena_CAS a1 x2.2.2.1 x2.2.2.2.1 x2.2.2.2.2.1 h3 fun r10 h11 =>
    Q (0, (r10.1, (r10.2.1, ()))) h11) ∧
    ((decide (x2.2.1 = 2)) = false →
    (((decide (x2.2.1 = 3)) = true →
    c_cells_Arena_Add a1 x2.2.2.1 x2.2.2.2.1 h3 fun r12 h13 =>
    explore_act.j1 Q ((r12.1, (false, (r12.2.1, ()))), ()) h13) ∧
    ((decide (x2.2.1 = 3)) = false →
    c_cells_Arena_Reserve a1 x2.2.2.2.1 h3 fun r14 h15 =>
    explore_act.j1 Q ((r14.1, (false, (r14.2.1, ()))), ()) h15))))))))
def explore_act.mk : Mk := (.s (.r [0, 1]) (.j [.box 4 kapiEffect] (.s .d (.b (.s .d (.c .d (.s .d (.c .d (.s .d (.c (.s .d (.s .d .d)) (.s .d (.c .d (.s .d .d))))))))))) (.s .d (.s .d .d))))

def cells_Arena_Cells.M  (a1 : Option Addr) (h2 : Heap) (Q : Sl → Heap → Prop) : Prop :=
    (((Option.isNone a1) = true →
    Q ⟨none, 0, 0⟩ h2) ∧
    ((Option.isNone a1) = false →
    deref a1 fun a3 =>
    ld (.sl : Kd) h2 (a3.add 2) fun t4 =>
    makeM ((.int .i64) : Kd) 8 h2 (t4.len : Int) (t4.len : Int) fun s5 h6 =>
    deref a1 fun a7 =>
    ld (.sl : Kd) h6 (a7.add 2) fun t8 =>
    copyM 1 h6 s5 t8 fun n9 h10 =>
    Q s5 h10))
def cells_Arena_Cells.mk : Mk := (.s .d (.s (.s .d (.c (.s .d .d) .d)) (.s .d (.s .d (.s .d .d)))))

def slices_ContainsFunc_int_int.M (c_slices_IndexFunc_int_int : Sl → Value → Heap → (Int → Heap → Prop) → Prop) (s1 : Sl) (f2 : Value) (h3 : Heap) (Q : Bool → Heap → Prop) : Prop :=
    c_slices_IndexFunc_int_int s1 f2 h3 fun r4 h5 =>
    Q (decide ((0 : Int) ≤ r4)) h5
def slices_ContainsFunc_int_int.mk : Mk := (.s .d (.s .d .d))

def explore_isScript_1.M  (n1 : Int) (h2 : Heap) (Q : Bool → Heap → Prop) : Prop :=
    Q (decide ((0 : Int) < n1)) h2
def explore_isScript_1.mk : Mk := (.s .d (.s .d .d))

def ref22_acts.l1 (s1 : Den kapiScene) (Q : Int → Heap → Prop) (go5 : Den kapiEdge → Heap → Prop) (s3 : Den kapiEdge) (h4 : Heap) : Prop :=
    (((decide (s3.2.1 < (s1.2.2.1.len : Int))) = true →
    (0 ≤ s3.2.1 ∧ s3.2.1 < (s1.2.2.1.len : Int)) ∧
    deref s1.2.2.1.a fun a6 =>
    ld (.sl : Kd) h4 (a6.add ((s3.2.1 : Int).toNat * 1)) fun t7 =>
    go5 ((w64 (s3.1 + (t7.len : Int))), (w64 (s3.2.1 + 1)), ()) h4) ∧
    ((decide (s3.2.1 < (s1.2.2.1.len : Int))) = false →
    Q s3.1 h4))
def ref22_acts.M  (s1 : Den kapiScene) (h2 : Heap) (Q : Int → Heap → Prop) : Prop :=
    Loop (ref22_acts.l1 s1 Q) (0, 0, ()) h2
def ref22_acts.mk : Mk := (.s (.r [0]) (.s .d (.s (.s .d (.b (.l [.slot 3 (.int .i64), .slot 4 (.int .i64)] (.s (.s .d (.c .d .d)) (.s (.b .d) .d))))) (.s .d .d))))

def ref22_first.l1 (c_ref22_bound : Den kapiScene → Den kref22Act → Den kref22Act → Heap → (Bool → Heap → Prop) → Prop) (s1 : Den kapiScene) (l2 : Sl) (Q : Int → Heap → Prop) (s5 : (Int × Unit)) (go12 : (Int × Unit) → Heap → Prop) (s10 : (Int × Unit)) (h11 : Heap) : Prop :=
    (((decide (s10.1 < s5.1)) = true →
    (0 ≤ s10.1 ∧ s10.1 < (l2.len : Int)) ∧
    deref l2.a fun a13 =>
    (0 ≤ s5.1 ∧ s5.1 < (l2.len : Int)) ∧
    deref l2.a fun a14 =>
    ld kref22Act h11 (a13.add ((s10.1 : Int).toNat * 6)) fun t15 =>
    ld kref22Act h11 (a14.add ((s5.1 : Int).toNat * 6)) fun t16 =>
    c_ref22_bound (s1.1, (s1.2.1, (s1.2.2.1, ()))) t15 t16 h11 fun r17 h18 =>
    ((r17 = true →
    Q (-1) h18) ∧
    (r17 = false →
    go12 ((w64 (s10.1 + 1)), ()) h18))) ∧
    ((decide (s10.1 < s5.1)) = false →
    Q s5.1 h11))
def ref22_first.l2 (c_ref22_bound : Den kapiScene → Den kref22Act → Den kref22Act → Heap → (Bool → Heap → Prop) → Prop) (s1 : Den kapiScene) (l2 : Sl) (who3 : Int) (Q : Int → Heap → Prop) (go7 : (Int × Unit) → Heap → Prop) (s5 : (Int × Unit)) (h6 : Heap) : Prop :=
    (((decide (s5.1 < (l2.len : Int))) = true →
    (0 ≤ s5.1 ∧ s5.1 < (l2.len : Int)) ∧
    deref l2.a fun a8 =>
    ld ((.int .i64) : Kd) h6 ((a8.add ((s5.1 : Int).toNat * 6)).add 0) fun t9 =>
    (((decide (t9 ≠ who3)) = true →
    go7 ((w64 (s5.1 + 1)), ()) h6) ∧
    ((decide (t9 ≠ who3)) = false →
    Loop (ref22_first.l1 c_ref22_bound s1 l2 Q s5) (0, ()) h6))) ∧
    ((decide (s5.1 < (l2.len : Int))) = false →
    Q (-1) h6))
def ref22_first.M (c_ref22_bound : Den kapiScene → Den kref22Act → Den kref22Act → Heap → (Bool → Heap → Prop) → Prop) (s1 : Den kapiScene) (l2 : Sl) (who3 : Int) (h4 : Heap) (Q : Int → Heap → Prop) : Prop :=
    Loop (ref22_first.l2 c_ref22_bound s1 l2 who3 Q) (0, ()) h4
def ref22_first.mk : Mk := (.s (.r [0]) (.s (.s .d (.b (.l [.slot 7 (.int .i64)] (.s (.s .d (.c .d .d)) (.s (.b (.s (.s .d (.c .d .d)) (.s (.s .d (.b (.l [.slot 8 (.int .i64)] (.s (.s .d (.c .d .d)) (.s (.b (.s (.q [] [] [.p 1, .p 2, .p 3, .p 5, .p 6, .p 7, .w 0 [0, 9], .w 4 [4, 9], .w 8 [8, 9], .o 9]) (.c (.s .d .d) .d))) .d))))) (.s .d .d)))) .d))))) (.s .d .d)))

def ref22_without.j1 (go6 : (Sl × (Int × Unit)) → Heap → Prop) (s4 : (Sl × (Int × Unit))) (s7 : (Sl × Unit)) (h8 : Heap) : Prop :=
    go6 (s7.1, (w64 (s4.2.1 + 1)), ()) h8
def ref22_without.l2 (l1 : Sl) (at_2 : Int) (Q : Sl → Heap → Prop) (go6 : (Sl × (Int × Unit)) → Heap → Prop) (s4 : (Sl × (Int × Unit))) (h5 : Heap) : Prop :=
    (((decide (s4.2.1 < (l1.len : Int))) = true →
    (((decide (s4.2.1 ≠ at_2)) = true →
    (0 ≤ s4.2.1 ∧ s4.2.1 < (l1.len : Int)) ∧
    deref l1.a fun a9 =>
    ld kref22Act h5 (a9.add ((s4.2.1 : Int).toNat * 6)) fun t10 =>
    new h5 (([t10] : List (Den kref22Act)).flatMap (Kd.cells kref22Act)) fun p11 h12 =>
    appendM 6 48 h12 s4.1 ⟨some p11, 1, 1⟩ fun t13 h14 =>
    ref22_without.j1 go6 s4 (t13, ()) h14) ∧
    ((decide (s4.2.1 ≠ at_2)) = false →
    ref22_without.j1 go6 s4 (s4.1, ()) h5))) ∧
    ((decide (s4.2.1 < (l1.len : Int))) = false →
    Q s4.1 h5))
def ref22_without.M  (l1 : Sl) (at_2 : Int) (h3 : Heap) (Q : Sl → Heap → Prop) : Prop :=
    Loop (ref22_without.l2 l1 at_2 Q) (⟨none, 0, 0⟩, 0, ()) h3
def ref22_without.mk : Mk := (.s .d (.s .d (.s (.s .d (.b (.l [.slot 5 .sl, .slot 6 (.int .i64)] (.s (.s .d (.c .d .d)) (.j [.slot 5 .sl] (.b (.s .d (.c .d .d))) .d))))) (.s .d .d))))

def slices_pdqsortOrdered_int.j1 (c_slices_partitionOrdered_int : Sl → Int → Int → Int → Heap → ((Int × (Bool × Unit)) → Heap → Prop) → Prop) (c_slices_pdqsortOrdered_int : Sl → Int → Int → Int → Heap → (Unit → Heap → Prop) → Prop) (data1 : Sl) (go8 : (Int × (Int × (Int × (Bool × (Bool × Unit))))) → Heap → Prop) (s6 : (Int × (Int × (Int × (Bool × (Bool × Unit)))))) (s13 : (Int × Unit)) (s17 : Den kapiEdge) (s21 : (Int × Unit)) (h22 : Heap) : Prop :=
    c_slices_partitionOrdered_int data1 s21.1 s6.2.1 s17.1 h22 fun r23 h24 =>
    (8 : Int) ≠ 0 ∧
    (((decide ((w64 (r23.1 - s21.1)) < (w64 (s6.2.1 - r23.1)))) = true →
    c_slices_pdqsortOrdered_int data1 s21.1 r23.1 s13.1 h24 fun r25 h26 =>
    go8 ((w64 (r23.1 + 1)), s6.2.1, s13.1, (decide ((w64 (Int.tdiv (w64 (s6.2.1 - s6.1)) 8)) ≤ (w64 (r23.1 - s21.1)))), r23.2.1, ()) h26) ∧
    ((decide ((w64 (r23.1 - s21.1)) < (w64 (s6.2.1 - r23.1)))) = false →
    c_slices_pdqsortOrdered_int data1 (w64 (r23.1 + 1)) s6.2.1 s13.1 h24 fun r27 h28 =>
    go8 (s21.1, r23.1, s13.1, (decide ((w64 (Int.tdiv (w64 (s6.2.1 - s6.1)) 8)) ≤ (w64 (s6.2.1 - r23.1)))), r23.2.1, ()) h28))
def slices_pdqsortOrdered_int.j2 (c_slices_partitionEqualOrdered_int : Sl → Int → Int → Int → Heap → (Int → Heap → Prop) → Prop) (c_slices_partitionOrdered_int : Sl → Int → Int → Int → Heap → ((Int × (Bool × Unit)) → Heap → Prop) → Prop) (c_slices_pdqsortOrdered_int : Sl → Int → Int → Int → Heap → (Unit → Heap → Prop) → Prop) (data1 : Sl) (go8 : (Int × (Int × (Int × (Bool × (Bool × Unit))))) → Heap → Prop) (s6 : (Int × (Int × (Int × (Bool × (Bool × Unit)))))) (s13 : (Int × Unit)) (s17 : Den kapiEdge) (s29 : (Bool × Unit)) (h30 : Heap) : Prop :=
    ((s29.1 = true →
    c_slices_partitionEqualOrdered_int data1 s6.1 s6.2.1 s17.1 h30 fun r31 h32 =>
    go8 (r31, s6.2.1, s13.1, s6.2.2.2.1, s6.2.2.2.2.1, ()) h32) ∧
    (s29.1 = false →
    slices_pdqsortOrdered_int.j1 c_slices_partitionOrdered_int c_slices_pdqsortOrdered_int data1 go8 s6 s13 s17 (s6.1, ()) h30))
def slices_pdqsortOrdered_int.j3 (c_cmp_Less_int : Int → Int → Heap → (Bool → Heap → Prop) → Prop) (c_slices_partitionEqualOrdered_int : Sl → Int → Int → Int → Heap → (Int → Heap → Prop) → Prop) (c_slices_partitionOrdered_int : Sl → Int → Int → Int → Heap → ((Int × (Bool × Unit)) → Heap → Prop) → Prop) (c_slices_pdqsortOrdered_int : Sl → Int → Int → Int → Heap → (Unit → Heap → Prop) → Prop) (data1 : Sl) (go8 : (Int × (Int × (Int × (Bool × (Bool × Unit))))) → Heap → Prop) (s6 : (Int × (Int × (Int × (Bool × (Bool × Unit)))))) (s13 : (Int × Unit)) (s17 : Den kapiEdge) (s19 : Unit) (h20 : Heap) : Prop :=
    (((decide ((0 : Int) < s6.1)) = true →
    (0 ≤ (w64 (s6.1 - 1)) ∧ (w64 (s6.1 - 1)) < (data1.len : Int)) ∧
    deref data1.a fun a33 =>
    (0 ≤ s17.1 ∧ s17.1 < (data1.len : Int)) ∧
    deref data1.a fun a34 =>
    ld ((.int .i64) : Kd) h20 (a33.add (((w64 (s6.1 - 1)) : Int).toNat * 1)) fun t35 =>
    ld ((.int .i64) : Kd) h20 (a34.add ((s17.1 : Int).toNat * 1)) fun t36 =>
    c_cmp_Less_int t35 t36 h20 fun r37 h38 =>
    slices_pdqsortOrdered_int.j2 c_slices_partitionEqualOrdered_int c_slices_partitionOrdered_int c_slices_pdqsortOrdered_int data1 go8 s6 s13 s17 ((!r37), ()) h38) ∧
    ((decide ((0 : Int) < s6.1)) = false →
    slices_pdqsortOrdered_int.j2 c_slices_partitionEqualOrdered_int c_slices_partitionOrdered_int c_slices_pdqsortOrdered_int data1 go8 s6 s13 s17 (false, ()) h20))
def slices_pdqsortOrdered_int.j4 (c_slices_partialInsertionSortOrdered_int : Sl → Int → Int → Heap → (Bool → Heap → Prop) → Prop) (c_cmp_Less_int : Int → Int → Heap → (Bool → Heap → Prop) → Prop) (c_slices_partitionEqualOrdered_int : Sl → Int → Int → Int → Heap → (Int → Heap → Prop) → Prop) (c_slices_partitionOrdered_int : Sl → Int → Int → Int → Heap → ((Int × (Bool × Unit)) → Heap → Prop) → Prop) (c_slices_pdqsortOrdered_int : Sl → Int → Int → Int → Heap → (Unit → Heap → Prop) → Prop) (data1 : Sl) (Q : Unit → Heap → Prop) (go8 : (Int × (Int × (Int × (Bool × (Bool × Unit))))) → Heap → Prop) (s6 : (Int × (Int × (Int × (Bool × (Bool × Unit)))))) (s13 : (Int × Unit)) (s17 : Den kapiEdge) (s39 : (Bool × Unit)) (h40 : Heap) : Prop :=
    ((s39.1 = true →
    c_slices_partialInsertionSortOrdered_int data1 s6.1 s6.2.1 h40 fun r41 h42 =>
    ((r41 = true →
    Q () h42) ∧
    (r41 = false →
    slices_pdqsortOrdered_int.j3 c_cmp_Less_int c_slices_partitionEqualOrdered_int c_slices_partitionOrdered_int c_slices_pdqsortOrdered_int data1 go8 s6 s13 s17 () h42))) ∧
    (s39.1 = false →
    slices_pdqsortOrdered_int.j3 c_cmp_Less_int c_slices_partitionEqualOrdered_int c_slices_partitionOrdered_int c_slices_pdqsortOrdered_int data1 go8 s6 s13 s17 () h40))
def slices_pdqsortOrdered_int.j5 (c_slices_partialInsertionSortOrdered_int : Sl → Int → Int → Heap → (Bool → Heap → Prop) → Prop) (c_cmp_Less_int : Int → Int → Heap → (Bool → Heap → Prop) → Prop) (c_slices_partitionEqualOrdered_int : Sl → Int → Int → Int → Heap → (Int → Heap → Prop) → Prop) (c_slices_partitionOrdered_int : Sl → Int → Int → Int → Heap → ((Int × (Bool × Unit)) → Heap → Prop) → Prop) (c_slices_pdqsortOrdered_int : Sl → Int → Int → Int → Heap → (Unit → Heap → Prop) → Prop) (data1 : Sl) (Q : Unit → Heap → Prop) (go8 : (Int × (Int × (Int × (Bool × (Bool × Unit))))) → Heap → Prop) (s6 : (Int × (Int × (Int × (Bool × (Bool × Unit)))))) (s13 : (Int × Unit)) (s17 : Den kapiEdge) (h18 : Heap) : Prop :=
    ((s6.2.2.2.1 = true →
    ((s6.2.2.2.2.1 = true →
    slices_pdqsortOrdered_int.j4 c_slices_partialInsertionSortOrdered_int c_cmp_Less_int c_slices_partitionEqualOrdered_int c_slices_partitionOrdered_int c_slices_pdqsortOrdered_int data1 Q go8 s6 s13 s17 ((decide (s17.2.1 = 1)), ()) h18) ∧
    (s6.2.2.2.2.1 = false →
    slices_pdqsortOrdered_int.j4 c_slices_partialInsertionSortOrdered_int c_cmp_Less_int c_slices_partitionEqualOrdered_int c_slices_partitionOrdered_int c_slices_pdqsortOrdered_int data1 Q go8 s6 s13 s17 (false, ()) h18))) ∧
    (s6.2.2.2.1 = false →
    slices_pdqsortOrdered_int.j4 c_slices_partialInsertionSortOrdered_int c_cmp_Less_int c_slices_partitionEqualOrdered_int c_slices_partitionOrdered_int c_slices_pdqsortOrdered_int data1 Q go8 s6 s13 s17 (false, ()) h18))
def slices_pdqsortOrdered_int.j6 (c_slices_choosePivotOrdered_int : Sl → Int → Int → Heap → (Den kapiEdge → Heap → Prop) → Prop) (c_slices_reverseRangeOrdered_int : Sl → Int → Int → Heap → (Unit → Heap → Prop) → Prop) (c_slices_partialInsertionSortOrdered_int : Sl → Int → Int → Heap → (Bool → Heap → Prop) → Prop) (c_cmp_Less_int : Int → Int → Heap → (Bool → Heap → Prop) → Prop) (c_slices_partitionEqualOrdered_int : Sl → Int → Int → Int → Heap → (Int → Heap → Prop) → Prop) (c_slices_partitionOrdered_int : Sl → Int → Int → Int → Heap → ((Int × (Bool × Unit)) → Heap → Prop) → Prop) (c_slices_pdqsortOrdered_int : Sl → Int → Int → Int → Heap → (Unit → Heap → Prop) → Prop) (data1 : Sl) (Q : Unit → Heap → Prop) (go8 : (Int × (Int × (Int × (Bool × (Bool × Unit))))) → Heap → Prop) (s6 : (Int × (Int × (Int × (Bool × (Bool × Unit)))))) (s13 : (Int × Unit)) (h14 : Heap) : Prop :=
    c_slices_choosePivotOrdered_int data1 s6.1 s6.2.1 h14 fun r15 h16 =>
    (((decide (r15.2.1 = 2)) = true →
    c_slices_reverseRangeOrdered_int data1 s6.1 s6.2.1 h16 fun r43 h44 =>
    slices_pdqsortOrdered_int.j5 c_slices_partialInsertionSortOrdered_int c_cmp_Less_int c_slices_partitionEqualOrdered_int c_slices_partitionOrdered_int c_slices_pdqsortOrdered_int data1 Q go8 s6 s13 ((w64 ((w64 (s6.2.1 - 1)) - (w64 (r15.1 - s6.1)))), 1, ()) h44) ∧
    ((decide (r15.2.1 = 2)) = false →
    slices_pdqsortOrdered_int.j5 c_slices_partialInsertionSortOrdered_int c_cmp_Less_int c_slices_partitionEqualOrdered_int c_slices_partitionOrdered_int c_slices_pdqsortOrdered_int data1 Q go8 s6 s13 (r15.1, r15.2.1, ()) h16))
def slices_pdqsortOrdered_int.l7 (c_slices_insertionSortOrdered_int : Sl → Int → Int → Heap → (Unit → Heap → Prop) → Prop) (c_slices_heapSortOrdered_int : Sl → Int → Int → Heap → (Unit → Heap → Prop) → Prop) (c_slices_breakPatternsOrdered_int : Sl → Int → Int → Heap → (Unit → Heap → Prop) → Prop) (c_slices_choosePivotOrdered_int : Sl → Int → Int → Heap → (Den kapiEdge → Heap → Prop) → Prop) (c_slices_reverseRangeOrdered_int : Sl → Int → Int → Heap → (Unit → Heap → Prop) → Prop) (c_slices_partialInsertionSortOrdered_int : Sl → Int → Int → Heap → (Bool → Heap → Prop) → Prop) (c_cmp_Less_int : Int → Int → Heap → (Bool → Heap → Prop) → Prop) (c_slices_partitionEqualOrdered_int : Sl → Int → Int → Int → Heap → (Int → Heap → Prop) → Prop) (c_slices_partitionOrdered_int : Sl → Int → Int → Int → Heap → ((Int × (Bool × Unit)) → Heap → Prop) → Prop) (c_slices_pdqsortOrdered_int : Sl → Int → Int → Int → Heap → (Unit → Heap → Prop) → Prop) (data1 : Sl) (Q : Unit → Heap → Prop) (go8 : (Int × (Int × (Int × (Bool × (Bool × Unit))))) → Heap → Prop) (s6 : (Int × (Int × (Int × (Bool × (Bool × Unit)))))) (h7 : Heap) : Prop :=
    (((decide ((w64 (s6.2.1 - s6.1)) ≤ 12)) = true →
    c_slices_insertionSortOrdered_int data1 s6.1 s6.2.1 h7 fun r9 h10 =>
    Q () h10) ∧
    ((decide ((w64 (s6.2.1 - s6.1)) ≤ 12)) = false →
    (((decide (s6.2.2.1 = 0)) = true →
    c_slices_heapSortOrdered_int data1 s6.1 s6.2.1 h7 fun r11 h12 =>
    Q () h12) ∧
    ((decide (s6.2.2.1 = 0)) = false →
    (((!s6.2.2.2.1) = true →
    c_slices_breakPatternsOrdered_int data1 s6.1 s6.2.1 h7 fun r45 h46 =>
    slices_pdqsortOrdered_int.j6 c_slices_choosePivotOrdered_int c_slices_reverseRangeOrdered_int c_slices_partialInsertionSortOrdered_int c_cmp_Less_int c_slices_partitionEqualOrdered_int c_slices_partitionOrdered_int c_slices_pdqsortOrdered_int data1 Q go8 s6 ((w64 (s6.2.2.1 - 1)), ()) h46) ∧
    ((!s6.2.2.2.1) = false →
    slices_pdqsortOrdered_int.j6 c_slices_choosePivotOrdered_int c_slices_reverseRangeOrdered_int c_slices_partialInsertionSortOrdered_int c_cmp_Less_int c_slices_partitionEqualOrdered_int c_slices_partitionOrdered_int c_slices_pdqsortOrdered_int data1 Q go8 s6 (s6.2.2.1, ()) h7))))))
def slices_pdqsortOrdered_int.M (c_slices_insertionSortOrdered_int : Sl → Int → Int → Heap → (Unit → Heap → Prop) → Prop) (c_slices_heapSortOrdered_int : Sl → Int → Int → Heap → (Unit → Heap → Prop) → Prop) (c_slices_breakPatternsOrdered_int : Sl → Int → Int → Heap → (Unit → Heap → Prop) → Prop) (c_slices_choosePivotOrdered_int : Sl → Int → Int → Heap → (Den kapiEdge → Heap → Prop) → Prop) (c_slices_reverseRangeOrdered_int : Sl → Int → Int → Heap → (Unit → Heap → Prop) → Prop) (c_slices_partialInsertionSortOrdered_int : Sl → Int → Int → Heap → (Bool → Heap → Prop) → Prop) (c_cmp_Less_int : Int → Int → Heap → (Bool → Heap → Prop) → Prop) (c_slices_partitionEqualOrdered_int : Sl → Int → Int → Int → Heap → (Int → Heap → Prop) → Prop) (c_slices_partitionOrdered_int : Sl → Int → Int → Int → Heap → ((Int × (Bool × Unit)) → Heap → Prop) → Prop) (c_slices_pdqsortOrdered_int : Sl → Int → Int → Int → Heap → (Unit → Heap → Prop) → Prop) (data1 : Sl) (a2 : Int) (b3 : Int) (limit4 : Int) (h5 : Heap) (Q : Unit → Heap → Prop) : Prop :=
    Loop (slices_pdqsortOrdered_int.l7 c_slices_insertionSortOrdered_int c_slices_heapSortOrdered_int c_slices_breakPatternsOrdered_int c_slices_choosePivotOrdered_int c_slices_reverseRangeOrdered_int c_slices_partialInsertionSortOrdered_int c_cmp_Less_int c_slices_partitionEqualOrdered_int c_slices_partitionOrdered_int c_slices_pdqsortOrdered_int data1 Q) (a2, b3, limit4, true, true, ()) h5
def slices_pdqsortOrdered_int.mk : Mk := (.s .d (.s .d (.b (.l [.slot 1 (.int .i64), .slot 2 (.int .i64), .slot 3 (.int .i64), .slot 8 .bool, .slot 9 .bool] (.b (.s .d (.s (.s .d (.c (.s .d .d) .d)) (.s (.s .d (.c (.s .d .d) .d)) (.j [.slot 3 (.int .i64)] (.s .d (.c (.s .d .d) .d)) (.s .d (.j [.slot 11 (.int .i64), .slot 12 (.int .i64)] (.s .d (.c (.s .d (.s .d .d)) .d)) (.j [] (.j [.slot 68 .bool] .d (.c (.s .d (.c .d .d)) .d)) (.j [.slot 1 (.int .i64)] (.j [.slot 87 .bool] (.q [] [] [.p 0, .p 1, .p 2, .p 3, .p 4, .p 5, .p 6, .p 8, .p 9, .p 10, .w 7 [7, 12, 13, 14], .w 11 [11, 12, 13, 14], .o 12, .p 13, .p 14]) (.c (.s .d (.s .d .d)) .d)) (.s .d (.s .d (.s .d (.s .d (.s .d (.c (.s .d (.s .d .d)) (.s .d (.s .d .d)))))))))))))))))))))

def math_bits_Len.M (c_math_bits_Len64 : Int → Heap → (Int → Heap → Prop) → Prop) (x1 : Int) (h2 : Heap) (Q : Int → Heap → Prop) : Prop :=
    c_math_bits_Len64 x1 h2 fun r3 h4 =>
    Q r3 h4
def math_bits_Len.mk : Mk := (.s .d (.s (.c (.s .d .d) .d) (.s .d .d)))

def ref22_cell.j1 (x2 : Den kapiAct) (Q : Int → Heap → Prop) (s4 : Unit) (h5 : Heap) : Prop :=
    Q x2.2.2.1 h5
def ref22_cell.j2 (x2 : Den kapiAct) (Q : Int → Heap → Prop) (s6 : (Bool × Unit)) (h7 : Heap) : Prop :=
    ((s6.1 = true →
    Q (-1) h7) ∧
    (s6.1 = false →
    ref22_cell.j1 x2 Q () h7))
def ref22_cell.M  (s1 : Den kapiScene) (x2 : Den kapiAct) (h3 : Heap) (Q : Int → Heap → Prop) : Prop :=
    (((decide (x2.2.1 < 0)) = true →
    ref22_cell.j2 x2 Q (true, ()) h3) ∧
    ((decide (x2.2.1 < 0)) = false →
    (((decide ((3 : Int) < x2.2.1)) = true →
    ref22_cell.j2 x2 Q (true, ()) h3) ∧
    ((decide ((3 : Int) < x2.2.1)) = false →
    (((decide (x2.2.2.1 < 0)) = true →
    ref22_cell.j2 x2 Q (true, ()) h3) ∧
    ((decide (x2.2.2.1 < 0)) = false →
    ref22_cell.j2 x2 Q ((decide (s1.1 ≤ x2.2.2.1)), ()) h3))))))
def ref22_cell.mk : Mk := (.s (.r [0, 1]) (.j [] (.j [.slot 24 .bool] .d (.c (.s .d .d) .d)) (.s .d .d)))

def ref22_makes.M  (x1 : Den kapiAct) (h2 : Heap) (Q : Bool → Heap → Prop) : Prop :=
    (((decide (x1.2.1 = 4)) = true →
    Q (decide ((1 : Int) ≤ x1.2.2.2.1)) h2) ∧
    ((decide (x1.2.1 = 4)) = false →
    Q false h2))
def ref22_makes.mk : Mk := (.s (.r [0]) (.s .d .d))

def cells_good.M  (size1 : Int) (h2 : Heap) (Q : Bool → Heap → Prop) : Prop :=
    (((decide ((0 : Int) ≤ size1)) = true →
    Q (decide (size1 ≤ 1048576)) h2) ∧
    ((decide ((0 : Int) ≤ size1)) = false →
    Q false h2))
def cells_good.mk : Mk := (.s .d (.s .d .d))

def cells_ledger_refuse.j1 (Q : Int → Heap → Prop) (s4 : Unit) (h5 : Heap) : Prop :=
    Q 0 h5
def cells_ledger_refuse.j2 (Q : Int → Heap → Prop) (s6 : (Bool × Unit)) (h7 : Heap) : Prop :=
    ((s6.1 = true →
    Q 22 h7) ∧
    (s6.1 = false →
    cells_ledger_refuse.j1 Q () h7))
def cells_ledger_refuse.M  (l1 : Option Addr) (n2 : Int) (h3 : Heap) (Q : Int → Heap → Prop) : Prop :=
    (((decide (n2 < 1)) = true →
    Q 21 h3) ∧
    ((decide (n2 < 1)) = false →
    (((Option.isNone l1) = true →
    cells_ledger_refuse.j2 Q (true, ()) h3) ∧
    ((Option.isNone l1) = false →
    deref l1 fun a8 =>
    deref l1 fun a9 =>
    ld ((.int .i64) : Kd) h3 (a8.add 0) fun t10 =>
    ld ((.int .i64) : Kd) h3 (a9.add 1) fun t11 =>
    cells_ledger_refuse.j2 Q ((decide ((w64 (t10 - t11)) < n2)), ()) h3))))
def cells_ledger_refuse.mk : Mk := (.s .d (.s (.s .d (.c (.s .d .d) .d)) (.j [] (.j [.slot 21 .bool] (.q [] [] [.p 0, .p 1, .p 2, .p 3, .p 4, .p 5, .p 6, .p 8, .p 9, .p 10, .w 7 [7, 12, 13, 14], .w 11 [11, 12, 13, 14], .p 12, .p 13, .p 14]) (.c (.s .d .d) .d)) (.s .d .d))))

def cells_ledger_take.M  (l1 : Option Addr) (n2 : Int) (h3 : Heap) (Q : Int → Heap → Prop) : Prop :=
    deref l1 fun a4 =>
    ld ((.int .i64) : Kd) h3 (a4.add 1) fun t5 =>
    deref l1 fun a6 =>
    ld ((.int .i64) : Kd) h3 (a6.add 1) fun t7 =>
    deref l1 fun a8 =>
    st ((.int .i64) : Kd) h3 (a8.add 1) (w64 (t7 + n2)) fun h9 =>
    Q t5 h9
def cells_ledger_take.mk : Mk := (.s .d (.s .d (.s .d (.s .d .d))))

def cells_Arena_note.M  (a1 : Option Addr) (kind2 : Int) (addr3 : Int) (x4 : Int) (y5 : Int) (ok6 : Bool) (h7 : Heap) (Q : Unit → Heap → Prop) : Prop :=
    deref a1 fun a8 =>
    ld (.bool : Kd) h7 (a8.add 5) fun t9 =>
    ((t9 = true →
    deref a1 fun a10 =>
    deref a1 fun a11 =>
    ld (.sl : Kd) h7 (a10.add 3) fun t12 =>
    ld ((.int .i64) : Kd) h7 (a11.add 4) fun t13 =>
    new h7 (([(t13, (kind2, (addr3, (x4, (y5, (ok6, ()))))))] : List (Den kapiAccess)).flatMap (Kd.cells kapiAccess)) fun p14 h15 =>
    appendM 6 48 h15 t12 ⟨some p14, 1, 1⟩ fun t16 h17 =>
    deref a1 fun a18 =>
    st (.sl : Kd) h17 (a18.add 3) t16 fun h19 =>
    Q () h19) ∧
    (t9 = false →
    Q () h7))
def cells_Arena_note.mk : Mk := (.s .d (.c (.q [] [] [.p 0, .p 1, .p 2, .p 3, .p 5, .p 6, .p 7, .p 9, .p 10, .p 11, .p 12, .p 13, .w 4 [4, 16, 17, 18, 19], .w 8 [8, 14, 15, 16, 17, 18, 19], .p 14, .o 15, .o 16, .p 17, .p 18, .o 19]) .d))

def cells_Arena_outside.M (c_cells_ledger_has : Option Addr → Int → Heap → (Bool → Heap → Prop) → Prop) (a1 : Option Addr) (addr2 : Int) (h3 : Heap) (Q : Bool → Heap → Prop) : Prop :=
    (((Option.isNone a1) = true →
    Q true h3) ∧
    ((Option.isNone a1) = false →
    deref a1 fun a4 =>
    c_cells_ledger_has (some (a4.add 0)) addr2 h3 fun r5 h6 =>
    Q (!r5) h6))
def cells_Arena_outside.mk : Mk := (.s .d (.s .d .d))

def cells_Arena_Load.M (c_cells_Arena_outside : Option Addr → Int → Heap → (Bool → Heap → Prop) → Prop) (c_cells_Arena_note : Option Addr → Int → Int → Int → Int → Bool → Heap → (Unit → Heap → Prop) → Prop) (a1 : Option Addr) (addr2 : Int) (h3 : Heap) (Q : Den kapiEdge → Heap → Prop) : Prop :=
    c_cells_Arena_outside a1 addr2 h3 fun r4 h5 =>
    ((r4 = true →
    Q (0, 20, ()) h5) ∧
    (r4 = false →
    deref a1 fun a6 =>
    ld (.sl : Kd) h5 (a6.add 2) fun t7 =>
    (0 ≤ addr2 ∧ addr2 < (t7.len : Int)) ∧
    deref t7.a fun a8 =>
    ld ((.int .i64) : Kd) h5 (a8.add ((addr2 : Int).toNat * 1)) fun t9 =>
    c_cells_Arena_note a1 0 addr2 t9 0 true h5 fun r10 h11 =>
    Q (t9, 0, ()) h11))
def cells_Arena_Load.mk : Mk := (.s .d (.s (.s .d (.c (.s .d .d) .d)) (.s .d (.s .d (.s .d .d)))))

def cells_Arena_CAS.j1 (c_cells_Arena_note : Option Addr → Int → Int → Int → Int → Bool → Heap → (Unit → Heap → Prop) → Prop) (a1 : Option Addr) (addr2 : Int) (old3 : Int) (next4 : Int) (Q : (Bool × (Int × Unit)) → Heap → Prop) (t11 : Int) (s12 : Unit) (h13 : Heap) : Prop :=
    c_cells_Arena_note a1 2 addr2 old3 next4 (decide (t11 = old3)) h13 fun r14 h15 =>
    Q ((decide (t11 = old3)), 0, ()) h15
def cells_Arena_CAS.M (c_cells_Arena_outside : Option Addr → Int → Heap → (Bool → Heap → Prop) → Prop) (c_cells_Arena_note : Option Addr → Int → Int → Int → Int → Bool → Heap → (Unit → Heap → Prop) → Prop) (a1 : Option Addr) (addr2 : Int) (old3 : Int) (next4 : Int) (h5 : Heap) (Q : (Bool × (Int × Unit)) → Heap → Prop) : Prop :=
    c_cells_Arena_outside a1 addr2 h5 fun r6 h7 =>
    ((r6 = true →
    Q (false, 20, ()) h7) ∧
    (r6 = false →
    deref a1 fun a8 =>
    ld (.sl : Kd) h7 (a8.add 2) fun t9 =>
    (0 ≤ addr2 ∧ addr2 < (t9.len : Int)) ∧
    deref t9.a fun a10 =>
    ld ((.int .i64) : Kd) h7 (a10.add ((addr2 : Int).toNat * 1)) fun t11 =>
    (((decide (t11 = old3)) = true →
    deref a1 fun a16 =>
    ld (.sl : Kd) h7 (a16.add 2) fun t17 =>
    (0 ≤ addr2 ∧ addr2 < (t17.len : Int)) ∧
    deref t17.a fun a18 =>
    st ((.int .i64) : Kd) h7 (a18.add ((addr2 : Int).toNat * 1)) next4 fun h19 =>
    cells_Arena_CAS.j1 c_cells_Arena_note a1 addr2 old3 next4 Q t11 () h19) ∧
    ((decide (t11 = old3)) = false →
    cells_Arena_CAS.j1 c_cells_Arena_note a1 addr2 old3 next4 Q t11 () h7))))
def cells_Arena_CAS.mk : Mk := (.s .d (.s (.s .d (.c (.s .d .d) .d)) (.s .d (.j [] (.s .d (.c .d .d)) (.s .d (.s .d .d))))))

def cells_Arena_Add.M (c_cells_Arena_outside : Option Addr → Int → Heap → (Bool → Heap → Prop) → Prop) (c_cells_Arena_note : Option Addr → Int → Int → Int → Int → Bool → Heap → (Unit → Heap → Prop) → Prop) (a1 : Option Addr) (addr2 : Int) (d3 : Int) (h4 : Heap) (Q : Den kapiEdge → Heap → Prop) : Prop :=
    c_cells_Arena_outside a1 addr2 h4 fun r5 h6 =>
    ((r5 = true →
    Q (0, 20, ()) h6) ∧
    (r5 = false →
    deref a1 fun a7 =>
    ld (.sl : Kd) h6 (a7.add 2) fun t8 =>
    (0 ≤ addr2 ∧ addr2 < (t8.len : Int)) ∧
    deref t8.a fun a9 =>
    ld ((.int .i64) : Kd) h6 (a9.add ((addr2 : Int).toNat * 1)) fun t10 =>
    (0 ≤ addr2 ∧ addr2 < (t8.len : Int)) ∧
    deref t8.a fun a11 =>
    st ((.int .i64) : Kd) h6 (a11.add ((addr2 : Int).toNat * 1)) (w64 (t10 + d3)) fun h12 =>
    deref a1 fun a13 =>
    ld (.sl : Kd) h12 (a13.add 2) fun t14 =>
    (0 ≤ addr2 ∧ addr2 < (t14.len : Int)) ∧
    deref t14.a fun a15 =>
    ld ((.int .i64) : Kd) h12 (a15.add ((addr2 : Int).toNat * 1)) fun t16 =>
    c_cells_Arena_note a1 3 addr2 d3 t16 true h12 fun r17 h18 =>
    deref a1 fun a19 =>
    ld (.sl : Kd) h18 (a19.add 2) fun t20 =>
    (0 ≤ addr2 ∧ addr2 < (t20.len : Int)) ∧
    deref t20.a fun a21 =>
    ld ((.int .i64) : Kd) h18 (a21.add ((addr2 : Int).toNat * 1)) fun t22 =>
    Q (t22, 0, ()) h18))
def cells_Arena_Add.mk : Mk := (.s .d (.s (.s .d (.c (.s .d .d) .d)) (.s .d (.s .d (.s .d .d)))))

def cmp_isNaN_int.M  (x1 : Int) (h2 : Heap) (Q : Bool → Heap → Prop) : Prop :=
    Q (decide (x1 ≠ x1)) h2
def cmp_isNaN_int.mk : Mk := (.s .d (.s .d .d))

def slices_IndexFunc_int_int.l1 (c_fn : Value → Int → Heap → (Bool → Heap → Prop) → Prop) (s1 : Sl) (f2 : Value) (Q : Int → Heap → Prop) (go6 : (Int × Unit) → Heap → Prop) (s4 : (Int × Unit)) (h5 : Heap) : Prop :=
    (((decide (s4.1 < (s1.len : Int))) = true →
    (0 ≤ s4.1 ∧ s4.1 < (s1.len : Int)) ∧
    deref s1.a fun a7 =>
    ld ((.int .i64) : Kd) h5 (a7.add ((s4.1 : Int).toNat * 1)) fun t8 =>
    c_fn f2 t8 h5 fun r9 h10 =>
    ((r9 = true →
    Q s4.1 h10) ∧
    (r9 = false →
    go6 ((w64 (s4.1 + 1)), ()) h10))) ∧
    ((decide (s4.1 < (s1.len : Int))) = false →
    Q (-1) h5))
def slices_IndexFunc_int_int.M (c_fn : Value → Int → Heap → (Bool → Heap → Prop) → Prop) (s1 : Sl) (f2 : Value) (h3 : Heap) (Q : Int → Heap → Prop) : Prop :=
    Loop (slices_IndexFunc_int_int.l1 c_fn s1 f2 Q) (0, ()) h3
def slices_IndexFunc_int_int.mk : Mk := (.s .d (.s (.s .d (.b (.l [.slot 8 (.int .i64)] (.s .d (.s (.c .d .d) (.s (.b (.s .d (.s .d (.c (.s .d .d) .d)))) .d)))))) (.s .d .d)))

def slices_insertionSortOrdered_int.j1 (go7 : (Int × Unit) → Heap → Prop) (s5 : (Int × Unit)) (s8 : Unit) (h9 : Heap) : Prop :=
    go7 ((w64 (s5.1 + 1)), ()) h9
def slices_insertionSortOrdered_int.j2 (data1 : Sl) (go12 : (Int × Unit) → Heap → Prop) (s10 : (Int × Unit)) (s13 : Unit) (h14 : Heap) : Prop :=
    (0 ≤ (w64 (s10.1 - 1)) ∧ (w64 (s10.1 - 1)) < (data1.len : Int)) ∧
    deref data1.a fun a15 =>
    (0 ≤ s10.1 ∧ s10.1 < (data1.len : Int)) ∧
    deref data1.a fun a16 =>
    ld ((.int .i64) : Kd) h14 (a15.add (((w64 (s10.1 - 1)) : Int).toNat * 1)) fun t17 =>
    ld ((.int .i64) : Kd) h14 (a16.add ((s10.1 : Int).toNat * 1)) fun t18 =>
    (0 ≤ s10.1 ∧ s10.1 < (data1.len : Int)) ∧
    deref data1.a fun a19 =>
    st ((.int .i64) : Kd) h14 (a19.add ((s10.1 : Int).toNat * 1)) t17 fun h20 =>
    (0 ≤ (w64 (s10.1 - 1)) ∧ (w64 (s10.1 - 1)) < (data1.len : Int)) ∧
    deref data1.a fun a21 =>
    st ((.int .i64) : Kd) h20 (a21.add (((w64 (s10.1 - 1)) : Int).toNat * 1)) t18 fun h22 =>
    go12 ((w64 (s10.1 - 1)), ()) h22
def slices_insertionSortOrdered_int.j3 (data1 : Sl) (go7 : (Int × Unit) → Heap → Prop) (s5 : (Int × Unit)) (go12 : (Int × Unit) → Heap → Prop) (s10 : (Int × Unit)) (s23 : (Bool × Unit)) (h24 : Heap) : Prop :=
    ((s23.1 = true →
    slices_insertionSortOrdered_int.j2 data1 go12 s10 () h24) ∧
    (s23.1 = false →
    slices_insertionSortOrdered_int.j1 go7 s5 () h24))
def slices_insertionSortOrdered_int.l4 (c_cmp_Less_int : Int → Int → Heap → (Bool → Heap → Prop) → Prop) (data1 : Sl) (a2 : Int) (go7 : (Int × Unit) → Heap → Prop) (s5 : (Int × Unit)) (go12 : (Int × Unit) → Heap → Prop) (s10 : (Int × Unit)) (h11 : Heap) : Prop :=
    (((decide (a2 < s10.1)) = true →
    (0 ≤ s10.1 ∧ s10.1 < (data1.len : Int)) ∧
    deref data1.a fun a25 =>
    (0 ≤ (w64 (s10.1 - 1)) ∧ (w64 (s10.1 - 1)) < (data1.len : Int)) ∧
    deref data1.a fun a26 =>
    ld ((.int .i64) : Kd) h11 (a25.add ((s10.1 : Int).toNat * 1)) fun t27 =>
    ld ((.int .i64) : Kd) h11 (a26.add (((w64 (s10.1 - 1)) : Int).toNat * 1)) fun t28 =>
    c_cmp_Less_int t27 t28 h11 fun r29 h30 =>
    slices_insertionSortOrdered_int.j3 data1 go7 s5 go12 s10 (r29, ()) h30) ∧
    ((decide (a2 < s10.1)) = false →
    slices_insertionSortOrdered_int.j3 data1 go7 s5 go12 s10 (false, ()) h11))
def slices_insertionSortOrdered_int.l5 (c_cmp_Less_int : Int → Int → Heap → (Bool → Heap → Prop) → Prop) (data1 : Sl) (a2 : Int) (b3 : Int) (Q : Unit → Heap → Prop) (go7 : (Int × Unit) → Heap → Prop) (s5 : (Int × Unit)) (h6 : Heap) : Prop :=
    (((decide (s5.1 < b3)) = true →
    Loop (slices_insertionSortOrdered_int.l4 c_cmp_Less_int data1 a2 go7 s5) (s5.1, ()) h6) ∧
    ((decide (s5.1 < b3)) = false →
    Q () h6))
def slices_insertionSortOrdered_int.M (c_cmp_Less_int : Int → Int → Heap → (Bool → Heap → Prop) → Prop) (data1 : Sl) (a2 : Int) (b3 : Int) (h4 : Heap) (Q : Unit → Heap → Prop) : Prop :=
    Loop (slices_insertionSortOrdered_int.l5 c_cmp_Less_int data1 a2 b3 Q) ((w64 (a2 + 1)), ()) h4
def slices_insertionSortOrdered_int.mk : Mk := (.s .d (.b (.l [.slot 6 (.int .i64)] (.s (.s .d (.c .d .d)) (.j [] (.b (.s .d (.b (.l [.slot 7 (.int .i64)] (.j [] (.j [.slot 30 .bool] (.q [] [] [.p 0, .p 1, .p 2, .p 3, .p 4, .p 5, .p 6, .p 8, .p 9, .p 10, .p 11, .w 7 [7, 13, 14], .w 12 [12, 13, 14], .o 13, .p 14]) (.c .d .d)) (.s (.b (.q [] [] [.p 0, .p 1, .p 2, .p 3, .p 4, .p 5, .p 6, .p 7, .p 8, .p 10, .p 11, .p 12, .w 9 [9, 14, 15, 16, 17], .w 13 [13, 14, 15, 16, 17], .p 14, .o 15, .p 16, .o 17])) .d)))))) .d)))))

def slices_heapSortOrdered_int.l1 (c_slices_siftDownOrdered_int : Sl → Int → Int → Int → Heap → (Unit → Heap → Prop) → Prop) (data1 : Sl) (a2 : Int) (Q : Unit → Heap → Prop) (go12 : (Int × Unit) → Heap → Prop) (s10 : (Int × Unit)) (h11 : Heap) : Prop :=
    (((decide ((0 : Int) ≤ s10.1)) = true →
    (0 ≤ (w64 (a2 + s10.1)) ∧ (w64 (a2 + s10.1)) < (data1.len : Int)) ∧
    deref data1.a fun a13 =>
    (0 ≤ a2 ∧ a2 < (data1.len : Int)) ∧
    deref data1.a fun a14 =>
    ld ((.int .i64) : Kd) h11 (a13.add (((w64 (a2 + s10.1)) : Int).toNat * 1)) fun t15 =>
    ld ((.int .i64) : Kd) h11 (a14.add ((a2 : Int).toNat * 1)) fun t16 =>
    (0 ≤ a2 ∧ a2 < (data1.len : Int)) ∧
    deref data1.a fun a17 =>
    st ((.int .i64) : Kd) h11 (a17.add ((a2 : Int).toNat * 1)) t15 fun h18 =>
    (0 ≤ (w64 (a2 + s10.1)) ∧ (w64 (a2 + s10.1)) < (data1.len : Int)) ∧
    deref data1.a fun a19 =>
    st ((.int .i64) : Kd) h18 (a19.add (((w64 (a2 + s10.1)) : Int).toNat * 1)) t16 fun h20 =>
    c_slices_siftDownOrdered_int data1 0 s10.1 a2 h20 fun r21 h22 =>
    go12 ((w64 (s10.1 - 1)), ()) h22) ∧
    ((decide ((0 : Int) ≤ s10.1)) = false →
    Q () h11))
def slices_heapSortOrdered_int.l2 (c_slices_siftDownOrdered_int : Sl → Int → Int → Int → Heap → (Unit → Heap → Prop) → Prop) (data1 : Sl) (a2 : Int) (b3 : Int) (Q : Unit → Heap → Prop) (go7 : (Int × Unit) → Heap → Prop) (s5 : (Int × Unit)) (h6 : Heap) : Prop :=
    (((decide ((0 : Int) ≤ s5.1)) = true →
    c_slices_siftDownOrdered_int data1 s5.1 (w64 (b3 - a2)) a2 h6 fun r8 h9 =>
    go7 ((w64 (s5.1 - 1)), ()) h9) ∧
    ((decide ((0 : Int) ≤ s5.1)) = false →
    Loop (slices_heapSortOrdered_int.l1 c_slices_siftDownOrdered_int data1 a2 Q) ((w64 ((w64 (b3 - a2)) - 1)), ()) h6))
def slices_heapSortOrdered_int.M (c_slices_siftDownOrdered_int : Sl → Int → Int → Int → Heap → (Unit → Heap → Prop) → Prop) (data1 : Sl) (a2 : Int) (b3 : Int) (h4 : Heap) (Q : Unit → Heap → Prop) : Prop :=
    (2 : Int) ≠ 0 ∧
    Loop (slices_heapSortOrdered_int.l2 c_slices_siftDownOrdered_int data1 a2 b3 Q) ((w64 (Int.tdiv (w64 ((w64 (b3 - a2)) - 1)) 2)), ()) h4
def slices_heapSortOrdered_int.mk : Mk := (.s .d (.s .d (.s .d (.s (.s .d (.b (.l [.slot 9 (.int .i64)] (.s (.s .d (.c .d .d)) (.s (.b .d) .d))))) (.s .d (.b (.l [.slot 10 (.int .i64)] (.s (.s .d (.c .d .d)) (.s (.b (.s (.q [] [] [.p 0, .p 1, .p 2, .p 3, .p 4, .p 5, .p 6, .p 7, .p 8, .p 9, .p 10, .p 12, .p 13, .p 14, .w 11 [11, 16, 17, 18, 19], .w 15 [15, 16, 17, 18, 19], .p 16, .o 17, .p 18, .o 19]) .d)) .d)))))))))

def slices_choosePivotOrdered_int.j1 (Q : Den kapiEdge → Heap → Prop) (p5 : Addr) (s7 : (Int × Unit)) (h8 : Heap) : Prop :=
    ld ((.int .i64) : Kd) h8 p5 fun t9 =>
    (((decide (t9 = 0)) = true →
    Q (s7.1, 1, ()) h8) ∧
    ((decide (t9 = 0)) = false →
    (((decide (t9 = 12)) = true →
    Q (s7.1, 2, ()) h8) ∧
    ((decide (t9 = 12)) = false →
    Q (s7.1, 0, ()) h8))))
def slices_choosePivotOrdered_int.j2 (c_slices_medianOrdered_int : Sl → Int → Int → Int → Option Addr → Heap → (Int → Heap → Prop) → Prop) (data1 : Sl) (Q : Den kapiEdge → Heap → Prop) (p5 : Addr) (s10 : (Int × Den kapiEdge)) (h11 : Heap) : Prop :=
    c_slices_medianOrdered_int data1 s10.1 s10.2.1 s10.2.2.1 (some p5) h11 fun r12 h13 =>
    slices_choosePivotOrdered_int.j1 Q p5 (r12, ()) h13
def slices_choosePivotOrdered_int.M (c_slices_medianAdjacentOrdered_int : Sl → Int → Option Addr → Heap → (Int → Heap → Prop) → Prop) (c_slices_medianOrdered_int : Sl → Int → Int → Int → Option Addr → Heap → (Int → Heap → Prop) → Prop) (data1 : Sl) (a2 : Int) (b3 : Int) (h4 : Heap) (Q : Den kapiEdge → Heap → Prop) : Prop :=
    new h4 (((.int .i64) : Kd).cells (((.int .i64) : Kd).zero)) fun p5 h6 =>
    (4 : Int) ≠ 0 ∧
    (4 : Int) ≠ 0 ∧
    (4 : Int) ≠ 0 ∧
    (((decide ((8 : Int) ≤ (w64 (b3 - a2)))) = true →
    (((decide ((50 : Int) ≤ (w64 (b3 - a2)))) = true →
    c_slices_medianAdjacentOrdered_int data1 (w64 (a2 + (w64 ((w64 (Int.tdiv (w64 (b3 - a2)) 4)) * 1)))) (some p5) h6 fun r14 h15 =>
    c_slices_medianAdjacentOrdered_int data1 (w64 (a2 + (w64 ((w64 (Int.tdiv (w64 (b3 - a2)) 4)) * 2)))) (some p5) h15 fun r16 h17 =>
    c_slices_medianAdjacentOrdered_int data1 (w64 (a2 + (w64 ((w64 (Int.tdiv (w64 (b3 - a2)) 4)) * 3)))) (some p5) h17 fun r18 h19 =>
    slices_choosePivotOrdered_int.j2 c_slices_medianOrdered_int data1 Q p5 (r14, r16, r18, ()) h19) ∧
    ((decide ((50 : Int) ≤ (w64 (b3 - a2)))) = false →
    slices_choosePivotOrdered_int.j2 c_slices_medianOrdered_int data1 Q p5 ((w64 (a2 + (w64 ((w64 (Int.tdiv (w64 (b3 - a2)) 4)) * 1)))), (w64 (a2 + (w64 ((w64 (Int.tdiv (w64 (b3 - a2)) 4)) * 2)))), (w64 (a2 + (w64 ((w64 (Int.tdiv (w64 (b3 - a2)) 4)) * 3)))), ()) h6))) ∧
    ((decide ((8 : Int) ≤ (w64 (b3 - a2)))) = false →
    slices_choosePivotOrdered_int.j1 Q p5 ((w64 (a2 + (w64 ((w64 (Int.tdiv (w64 (b3 - a2)) 4)) * 2)))), ()) h6))
def slices_choosePivotOrdered_int.mk : Mk := (.s .d (.s .d (.s .d (.s .d (.s .d (.s .d (.j [.slot 11 (.int .i64)] (.s .d (.c (.j [.slot 10 (.int .i64), .slot 11 (.int .i64), .slot 12 (.int .i64)] (.s .d (.c (.s .d (.s .d .d)) .d)) .d) .d)) (.s .d (.b (.s .d (.c (.s .d .d) (.s .d (.c (.s .d .d) (.s .d .d))))))))))))))

def slices_reverseRangeOrdered_int.l1 (data1 : Sl) (Q : Unit → Heap → Prop) (go7 : Den kapiEdge → Heap → Prop) (s5 : Den kapiEdge) (h6 : Heap) : Prop :=
    (((decide (s5.1 < s5.2.1)) = true →
    (0 ≤ s5.2.1 ∧ s5.2.1 < (data1.len : Int)) ∧
    deref data1.a fun a8 =>
    (0 ≤ s5.1 ∧ s5.1 < (data1.len : Int)) ∧
    deref data1.a fun a9 =>
    ld ((.int .i64) : Kd) h6 (a8.add ((s5.2.1 : Int).toNat * 1)) fun t10 =>
    ld ((.int .i64) : Kd) h6 (a9.add ((s5.1 : Int).toNat * 1)) fun t11 =>
    (0 ≤ s5.1 ∧ s5.1 < (data1.len : Int)) ∧
    deref data1.a fun a12 =>
    st ((.int .i64) : Kd) h6 (a12.add ((s5.1 : Int).toNat * 1)) t10 fun h13 =>
    (0 ≤ s5.2.1 ∧ s5.2.1 < (data1.len : Int)) ∧
    deref data1.a fun a14 =>
    st ((.int .i64) : Kd) h13 (a14.add ((s5.2.1 : Int).toNat * 1)) t11 fun h15 =>
    go7 ((w64 (s5.1 + 1)), (w64 (s5.2.1 - 1)), ()) h15) ∧
    ((decide (s5.1 < s5.2.1)) = false →
    Q () h6))
def slices_reverseRangeOrdered_int.M  (data1 : Sl) (a2 : Int) (b3 : Int) (h4 : Heap) (Q : Unit → Heap → Prop) : Prop :=
    Loop (slices_reverseRangeOrdered_int.l1 data1 Q) (a2, (w64 (b3 - 1)), ()) h4
def slices_reverseRangeOrdered_int.mk : Mk := (.s .d (.s .d (.b (.l [.slot 6 (.int .i64), .slot 7 (.int .i64)] (.s (.s .d (.c .d .d)) (.b (.s (.q [] [] [.p 0, .p 1, .p 2, .p 3, .p 4, .p 5, .p 6, .p 8, .p 9, .p 10, .w 7 [7, 12, 13, 14, 15], .w 11 [11, 12, 13, 14, 15], .p 12, .o 13, .p 14, .o 15]) (.s .d .d))))))))

def slices_partialInsertionSortOrdered_int.j1 (go7 : Den kapiEdge → Heap → Prop) (s5 : Den kapiEdge) (s8 : (Int × Unit)) (h9 : Heap) : Prop :=
    go7 (s8.1, (w64 (s5.2.1 + 1)), ()) h9
def slices_partialInsertionSortOrdered_int.l2 (c_cmp_Less_int : Int → Int → Heap → (Bool → Heap → Prop) → Prop) (data1 : Sl) (b3 : Int) (go7 : Den kapiEdge → Heap → Prop) (s5 : Den kapiEdge) (s10 : (Int × Unit)) (go24 : (Int × Unit) → Heap → Prop) (s22 : (Int × Unit)) (h23 : Heap) : Prop :=
    (((decide (s22.1 < b3)) = true →
    (0 ≤ s22.1 ∧ s22.1 < (data1.len : Int)) ∧
    deref data1.a fun a25 =>
    (0 ≤ (w64 (s22.1 - 1)) ∧ (w64 (s22.1 - 1)) < (data1.len : Int)) ∧
    deref data1.a fun a26 =>
    ld ((.int .i64) : Kd) h23 (a25.add ((s22.1 : Int).toNat * 1)) fun t27 =>
    ld ((.int .i64) : Kd) h23 (a26.add (((w64 (s22.1 - 1)) : Int).toNat * 1)) fun t28 =>
    c_cmp_Less_int t27 t28 h23 fun r29 h30 =>
    (((!r29) = true →
    slices_partialInsertionSortOrdered_int.j1 go7 s5 (s10.1, ()) h30) ∧
    ((!r29) = false →
    (0 ≤ (w64 (s22.1 - 1)) ∧ (w64 (s22.1 - 1)) < (data1.len : Int)) ∧
    deref data1.a fun a31 =>
    (0 ≤ s22.1 ∧ s22.1 < (data1.len : Int)) ∧
    deref data1.a fun a32 =>
    ld ((.int .i64) : Kd) h30 (a31.add (((w64 (s22.1 - 1)) : Int).toNat * 1)) fun t33 =>
    ld ((.int .i64) : Kd) h30 (a32.add ((s22.1 : Int).toNat * 1)) fun t34 =>
    (0 ≤ s22.1 ∧ s22.1 < (data1.len : Int)) ∧
    deref data1.a fun a35 =>
    st ((.int .i64) : Kd) h30 (a35.add ((s22.1 : Int).toNat * 1)) t33 fun h36 =>
    (0 ≤ (w64 (s22.1 - 1)) ∧ (w64 (s22.1 - 1)) < (data1.len : Int)) ∧
    deref data1.a fun a37 =>
    st ((.int .i64) : Kd) h36 (a37.add (((w64 (s22.1 - 1)) : Int).toNat * 1)) t34 fun h38 =>
    go24 ((w64 (s22.1 + 1)), ()) h38))) ∧
    ((decide (s22.1 < b3)) = false →
    slices_partialInsertionSortOrdered_int.j1 go7 s5 (s10.1, ()) h23))
def slices_partialInsertionSortOrdered_int.j3 (c_cmp_Less_int : Int → Int → Heap → (Bool → Heap → Prop) → Prop) (data1 : Sl) (b3 : Int) (go7 : Den kapiEdge → Heap → Prop) (s5 : Den kapiEdge) (s10 : (Int × Unit)) (s20 : Unit) (h21 : Heap) : Prop :=
    (((decide ((2 : Int) ≤ (w64 (b3 - s10.1)))) = true →
    Loop (slices_partialInsertionSortOrdered_int.l2 c_cmp_Less_int data1 b3 go7 s5 s10) ((w64 (s10.1 + 1)), ()) h21) ∧
    ((decide ((2 : Int) ≤ (w64 (b3 - s10.1)))) = false →
    slices_partialInsertionSortOrdered_int.j1 go7 s5 (s10.1, ()) h21))
def slices_partialInsertionSortOrdered_int.l4 (c_cmp_Less_int : Int → Int → Heap → (Bool → Heap → Prop) → Prop) (data1 : Sl) (b3 : Int) (go7 : Den kapiEdge → Heap → Prop) (s5 : Den kapiEdge) (s10 : (Int × Unit)) (go41 : (Int × Unit) → Heap → Prop) (s39 : (Int × Unit)) (h40 : Heap) : Prop :=
    (((decide ((1 : Int) ≤ s39.1)) = true →
    (0 ≤ s39.1 ∧ s39.1 < (data1.len : Int)) ∧
    deref data1.a fun a42 =>
    (0 ≤ (w64 (s39.1 - 1)) ∧ (w64 (s39.1 - 1)) < (data1.len : Int)) ∧
    deref data1.a fun a43 =>
    ld ((.int .i64) : Kd) h40 (a42.add ((s39.1 : Int).toNat * 1)) fun t44 =>
    ld ((.int .i64) : Kd) h40 (a43.add (((w64 (s39.1 - 1)) : Int).toNat * 1)) fun t45 =>
    c_cmp_Less_int t44 t45 h40 fun r46 h47 =>
    (((!r46) = true →
    slices_partialInsertionSortOrdered_int.j3 c_cmp_Less_int data1 b3 go7 s5 s10 () h47) ∧
    ((!r46) = false →
    (0 ≤ (w64 (s39.1 - 1)) ∧ (w64 (s39.1 - 1)) < (data1.len : Int)) ∧
    deref data1.a fun a48 =>
    (0 ≤ s39.1 ∧ s39.1 < (data1.len : Int)) ∧
    deref data1.a fun a49 =>
    ld ((.int .i64) : Kd) h47 (a48.add (((w64 (s39.1 - 1)) : Int).toNat * 1)) fun t50 =>
    ld ((.int .i64) : Kd) h47 (a49.add ((s39.1 : Int).toNat * 1)) fun t51 =>
    (0 ≤ s39.1 ∧ s39.1 < (data1.len : Int)) ∧
    deref data1.a fun a52 =>
    st ((.int .i64) : Kd) h47 (a52.add ((s39.1 : Int).toNat * 1)) t50 fun h53 =>
    (0 ≤ (w64 (s39.1 - 1)) ∧ (w64 (s39.1 - 1)) < (data1.len : Int)) ∧
    deref data1.a fun a54 =>
    st ((.int .i64) : Kd) h53 (a54.add (((w64 (s39.1 - 1)) : Int).toNat * 1)) t51 fun h55 =>
    go41 ((w64 (s39.1 - 1)), ()) h55))) ∧
    ((decide ((1 : Int) ≤ s39.1)) = false →
    slices_partialInsertionSortOrdered_int.j3 c_cmp_Less_int data1 b3 go7 s5 s10 () h40))
def slices_partialInsertionSortOrdered_int.j5 (c_cmp_Less_int : Int → Int → Heap → (Bool → Heap → Prop) → Prop) (data1 : Sl) (a2 : Int) (b3 : Int) (Q : Bool → Heap → Prop) (go7 : Den kapiEdge → Heap → Prop) (s5 : Den kapiEdge) (s10 : (Int × Unit)) (h11 : Heap) : Prop :=
    (((decide (s10.1 = b3)) = true →
    Q true h11) ∧
    ((decide (s10.1 = b3)) = false →
    (((decide ((w64 (b3 - a2)) < 50)) = true →
    Q false h11) ∧
    ((decide ((w64 (b3 - a2)) < 50)) = false →
    (0 ≤ (w64 (s10.1 - 1)) ∧ (w64 (s10.1 - 1)) < (data1.len : Int)) ∧
    deref data1.a fun a12 =>
    (0 ≤ s10.1 ∧ s10.1 < (data1.len : Int)) ∧
    deref data1.a fun a13 =>
    ld ((.int .i64) : Kd) h11 (a12.add (((w64 (s10.1 - 1)) : Int).toNat * 1)) fun t14 =>
    ld ((.int .i64) : Kd) h11 (a13.add ((s10.1 : Int).toNat * 1)) fun t15 =>
    (0 ≤ s10.1 ∧ s10.1 < (data1.len : Int)) ∧
    deref data1.a fun a16 =>
    st ((.int .i64) : Kd) h11 (a16.add ((s10.1 : Int).toNat * 1)) t14 fun h17 =>
    (0 ≤ (w64 (s10.1 - 1)) ∧ (w64 (s10.1 - 1)) < (data1.len : Int)) ∧
    deref data1.a fun a18 =>
    st ((.int .i64) : Kd) h17 (a18.add (((w64 (s10.1 - 1)) : Int).toNat * 1)) t15 fun h19 =>
    (((decide ((2 : Int) ≤ (w64 (s10.1 - a2)))) = true →
    Loop (slices_partialInsertionSortOrdered_int.l4 c_cmp_Less_int data1 b3 go7 s5 s10) ((w64 (s10.1 - 1)), ()) h19) ∧
    ((decide ((2 : Int) ≤ (w64 (s10.1 - a2)))) = false →
    slices_partialInsertionSortOrdered_int.j3 c_cmp_Less_int data1 b3 go7 s5 s10 () h19))))))
def slices_partialInsertionSortOrdered_int.j6 (go58 : (Int × Unit) → Heap → Prop) (s56 : (Int × Unit)) (s59 : Unit) (h60 : Heap) : Prop :=
    go58 ((w64 (s56.1 + 1)), ()) h60
def slices_partialInsertionSortOrdered_int.j7 (c_cmp_Less_int : Int → Int → Heap → (Bool → Heap → Prop) → Prop) (data1 : Sl) (a2 : Int) (b3 : Int) (Q : Bool → Heap → Prop) (go7 : Den kapiEdge → Heap → Prop) (s5 : Den kapiEdge) (go58 : (Int × Unit) → Heap → Prop) (s56 : (Int × Unit)) (s61 : (Bool × Unit)) (h62 : Heap) : Prop :=
    ((s61.1 = true →
    slices_partialInsertionSortOrdered_int.j6 go58 s56 () h62) ∧
    (s61.1 = false →
    slices_partialInsertionSortOrdered_int.j5 c_cmp_Less_int data1 a2 b3 Q go7 s5 (s56.1, ()) h62))
def slices_partialInsertionSortOrdered_int.l8 (c_cmp_Less_int : Int → Int → Heap → (Bool → Heap → Prop) → Prop) (data1 : Sl) (a2 : Int) (b3 : Int) (Q : Bool → Heap → Prop) (go7 : Den kapiEdge → Heap → Prop) (s5 : Den kapiEdge) (go58 : (Int × Unit) → Heap → Prop) (s56 : (Int × Unit)) (h57 : Heap) : Prop :=
    (((decide (s56.1 < b3)) = true →
    (0 ≤ s56.1 ∧ s56.1 < (data1.len : Int)) ∧
    deref data1.a fun a63 =>
    (0 ≤ (w64 (s56.1 - 1)) ∧ (w64 (s56.1 - 1)) < (data1.len : Int)) ∧
    deref data1.a fun a64 =>
    ld ((.int .i64) : Kd) h57 (a63.add ((s56.1 : Int).toNat * 1)) fun t65 =>
    ld ((.int .i64) : Kd) h57 (a64.add (((w64 (s56.1 - 1)) : Int).toNat * 1)) fun t66 =>
    c_cmp_Less_int t65 t66 h57 fun r67 h68 =>
    slices_partialInsertionSortOrdered_int.j7 c_cmp_Less_int data1 a2 b3 Q go7 s5 go58 s56 ((!r67), ()) h68) ∧
    ((decide (s56.1 < b3)) = false →
    slices_partialInsertionSortOrdered_int.j7 c_cmp_Less_int data1 a2 b3 Q go7 s5 go58 s56 (false, ()) h57))
def slices_partialInsertionSortOrdered_int.l9 (c_cmp_Less_int : Int → Int → Heap → (Bool → Heap → Prop) → Prop) (data1 : Sl) (a2 : Int) (b3 : Int) (Q : Bool → Heap → Prop) (go7 : Den kapiEdge → Heap → Prop) (s5 : Den kapiEdge) (h6 : Heap) : Prop :=
    (((decide (s5.2.1 < 5)) = true →
    Loop (slices_partialInsertionSortOrdered_int.l8 c_cmp_Less_int data1 a2 b3 Q go7 s5) (s5.1, ()) h6) ∧
    ((decide (s5.2.1 < 5)) = false →
    Q false h6))
def slices_partialInsertionSortOrdered_int.M (c_cmp_Less_int : Int → Int → Heap → (Bool → Heap → Prop) → Prop) (data1 : Sl) (a2 : Int) (b3 : Int) (h4 : Heap) (Q : Bool → Heap → Prop) : Prop :=
    Loop (slices_partialInsertionSortOrdered_int.l9 c_cmp_Less_int data1 a2 b3 Q) ((w64 (a2 + 1)), 0, ()) h4
def slices_partialInsertionSortOrdered_int.mk : Mk := (.s .d (.s .d (.s (.s .d (.b (.l [.slot 7 (.int .i64), .slot 8 (.int .i64)] (.s (.s .d (.c .d .d)) (.j [.slot 7 (.int .i64)] (.b (.j [.slot 7 (.int .i64)] (.b (.l [.slot 7 (.int .i64)] (.j [] (.j [.slot 32 .bool] (.q [] [] [.p 0, .p 1, .p 2, .p 3, .p 4, .p 5, .p 6, .p 8, .p 9, .p 10, .p 11, .w 7 [7, 13, 14, 15], .w 12 [12, 13, 14, 15], .o 13, .p 14, .p 15]) (.c .d .d)) (.b .d)))) (.s (.s .d (.c (.s .d .d) .d)) (.s (.s .d (.c (.s .d .d) .d)) (.s (.q [] [] [.p 0, .p 1, .p 2, .p 3, .p 4, .p 5, .p 6, .p 7, .p 8, .p 10, .p 11, .p 12, .w 9 [9, 14, 15, 16, 17], .w 13 [13, 14, 15, 16, 17], .p 14, .o 15, .p 16, .o 17]) (.j [] (.s .d (.c (.s .d (.b (.l [.slot 9 (.int .i64)] (.s (.s .d (.c .d .d)) (.s (.b (.s (.s (.q [] [] [.p 0, .p 1, .p 2, .p 4, .p 5, .p 6, .p 7, .w 3 [3, 9, 10], .w 8 [8, 9, 10], .o 9, .p 10]) (.c .d .d)) (.q [] [] [.p 0, .p 1, .p 2, .p 3, .p 4, .p 5, .p 6, .p 7, .p 8, .p 10, .p 11, .p 12, .w 9 [9, 14, 15, 16, 17], .w 13 [13, 14, 15, 16, 17], .p 14, .o 15, .p 16, .o 17]))) .d))))) .d)) (.s .d (.c (.s .d (.b (.l [.slot 10 (.int .i64)] (.s (.s .d (.c .d .d)) (.s (.b (.s (.s (.q [] [] [.p 0, .p 1, .p 2, .p 4, .p 5, .p 6, .p 7, .w 3 [3, 9, 10], .w 8 [8, 9, 10], .o 9, .p 10]) (.c .d .d)) (.q [] [] [.p 0, .p 1, .p 2, .p 3, .p 4, .p 5, .p 6, .p 7, .p 8, .p 10, .p 11, .p 12, .w 9 [9, 14, 15, 16, 17], .w 13 [13, 14, 15, 16, 17], .p 14, .o 15, .p 16, .o 17]))) .d))))) .d)))))))) .d))))) (.s .d .d))))

def cmp_Less_int.M (c_cmp_isNaN_int : Int → Heap → (Bool → Heap → Prop) → Prop) (x1 : Int) (y2 : Int) (h3 : Heap) (Q : Bool → Heap → Prop) : Prop :=
    c_cmp_isNaN_int x1 h3 fun r4 h5 =>
    ((r4 = true →
    c_cmp_isNaN_int y2 h5 fun r6 h7 =>
    (((!r6) = true →
    Q true h7) ∧
    ((!r6) = false →
    Q (decide (x1 < y2)) h7))) ∧
    (r4 = false →
    Q (decide (x1 < y2)) h5))
def cmp_Less_int.mk : Mk := (.s .d (.s .d .d))

def slices_partitionEqualOrdered_int.j1 (Q : Int → Heap → Prop) (s14 : (Int × Unit)) (h15 : Heap) : Prop :=
    Q s14.1 h15
def slices_partitionEqualOrdered_int.j2 (data1 : Sl) (Q : Int → Heap → Prop) (go18 : Den kapiEdge → Heap → Prop) (s19 : (Int × Unit)) (s21 : (Int × Unit)) (h22 : Heap) : Prop :=
    (((decide (s21.1 < s19.1)) = true →
    slices_partitionEqualOrdered_int.j1 Q (s19.1, ()) h22) ∧
    ((decide (s21.1 < s19.1)) = false →
    (0 ≤ s21.1 ∧ s21.1 < (data1.len : Int)) ∧
    deref data1.a fun a23 =>
    (0 ≤ s19.1 ∧ s19.1 < (data1.len : Int)) ∧
    deref data1.a fun a24 =>
    ld ((.int .i64) : Kd) h22 (a23.add ((s21.1 : Int).toNat * 1)) fun t25 =>
    ld ((.int .i64) : Kd) h22 (a24.add ((s19.1 : Int).toNat * 1)) fun t26 =>
    (0 ≤ s19.1 ∧ s19.1 < (data1.len : Int)) ∧
    deref data1.a fun a27 =>
    st ((.int .i64) : Kd) h22 (a27.add ((s19.1 : Int).toNat * 1)) t25 fun h28 =>
    (0 ≤ s21.1 ∧ s21.1 < (data1.len : Int)) ∧
    deref data1.a fun a29 =>
    st ((.int .i64) : Kd) h28 (a29.add ((s21.1 : Int).toNat * 1)) t26 fun h30 =>
    go18 ((w64 (s19.1 + 1)), (w64 (s21.1 - 1)), ()) h30))
def slices_partitionEqualOrdered_int.j3 (go33 : (Int × Unit) → Heap → Prop) (s31 : (Int × Unit)) (s34 : Unit) (h35 : Heap) : Prop :=
    go33 ((w64 (s31.1 - 1)), ()) h35
def slices_partitionEqualOrdered_int.j4 (data1 : Sl) (Q : Int → Heap → Prop) (go18 : Den kapiEdge → Heap → Prop) (s19 : (Int × Unit)) (go33 : (Int × Unit) → Heap → Prop) (s31 : (Int × Unit)) (s36 : (Bool × Unit)) (h37 : Heap) : Prop :=
    ((s36.1 = true →
    slices_partitionEqualOrdered_int.j3 go33 s31 () h37) ∧
    (s36.1 = false →
    slices_partitionEqualOrdered_int.j2 data1 Q go18 s19 (s31.1, ()) h37))
def slices_partitionEqualOrdered_int.l5 (c_cmp_Less_int : Int → Int → Heap → (Bool → Heap → Prop) → Prop) (data1 : Sl) (a2 : Int) (Q : Int → Heap → Prop) (go18 : Den kapiEdge → Heap → Prop) (s19 : (Int × Unit)) (go33 : (Int × Unit) → Heap → Prop) (s31 : (Int × Unit)) (h32 : Heap) : Prop :=
    (((decide (s19.1 ≤ s31.1)) = true →
    (0 ≤ a2 ∧ a2 < (data1.len : Int)) ∧
    deref data1.a fun a38 =>
    (0 ≤ s31.1 ∧ s31.1 < (data1.len : Int)) ∧
    deref data1.a fun a39 =>
    ld ((.int .i64) : Kd) h32 (a38.add ((a2 : Int).toNat * 1)) fun t40 =>
    ld ((.int .i64) : Kd) h32 (a39.add ((s31.1 : Int).toNat * 1)) fun t41 =>
    c_cmp_Less_int t40 t41 h32 fun r42 h43 =>
    slices_partitionEqualOrdered_int.j4 data1 Q go18 s19 go33 s31 (r42, ()) h43) ∧
    ((decide (s19.1 ≤ s31.1)) = false →
    slices_partitionEqualOrdered_int.j4 data1 Q go18 s19 go33 s31 (false, ()) h32))
def slices_partitionEqualOrdered_int.j6 (c_cmp_Less_int : Int → Int → Heap → (Bool → Heap → Prop) → Prop) (data1 : Sl) (a2 : Int) (Q : Int → Heap → Prop) (go18 : Den kapiEdge → Heap → Prop) (s16 : Den kapiEdge) (s19 : (Int × Unit)) (h20 : Heap) : Prop :=
    Loop (slices_partitionEqualOrdered_int.l5 c_cmp_Less_int data1 a2 Q go18 s19) (s16.2.1, ()) h20
def slices_partitionEqualOrdered_int.j7 (go46 : (Int × Unit) → Heap → Prop) (s44 : (Int × Unit)) (s47 : Unit) (h48 : Heap) : Prop :=
    go46 ((w64 (s44.1 + 1)), ()) h48
def slices_partitionEqualOrdered_int.j8 (c_cmp_Less_int : Int → Int → Heap → (Bool → Heap → Prop) → Prop) (data1 : Sl) (a2 : Int) (Q : Int → Heap → Prop) (go18 : Den kapiEdge → Heap → Prop) (s16 : Den kapiEdge) (go46 : (Int × Unit) → Heap → Prop) (s44 : (Int × Unit)) (s49 : (Bool × Unit)) (h50 : Heap) : Prop :=
    ((s49.1 = true →
    slices_partitionEqualOrdered_int.j7 go46 s44 () h50) ∧
    (s49.1 = false →
    slices_partitionEqualOrdered_int.j6 c_cmp_Less_int data1 a2 Q go18 s16 (s44.1, ()) h50))
def slices_partitionEqualOrdered_int.l9 (c_cmp_Less_int : Int → Int → Heap → (Bool → Heap → Prop) → Prop) (data1 : Sl) (a2 : Int) (Q : Int → Heap → Prop) (go18 : Den kapiEdge → Heap → Prop) (s16 : Den kapiEdge) (go46 : (Int × Unit) → Heap → Prop) (s44 : (Int × Unit)) (h45 : Heap) : Prop :=
    (((decide (s44.1 ≤ s16.2.1)) = true →
    (0 ≤ a2 ∧ a2 < (data1.len : Int)) ∧
    deref data1.a fun a51 =>
    (0 ≤ s44.1 ∧ s44.1 < (data1.len : Int)) ∧
    deref data1.a fun a52 =>
    ld ((.int .i64) : Kd) h45 (a51.add ((a2 : Int).toNat * 1)) fun t53 =>
    ld ((.int .i64) : Kd) h45 (a52.add ((s44.1 : Int).toNat * 1)) fun t54 =>
    c_cmp_Less_int t53 t54 h45 fun r55 h56 =>
    slices_partitionEqualOrdered_int.j8 c_cmp_Less_int data1 a2 Q go18 s16 go46 s44 ((!r55), ()) h56) ∧
    ((decide (s44.1 ≤ s16.2.1)) = false →
    slices_partitionEqualOrdered_int.j8 c_cmp_Less_int data1 a2 Q go18 s16 go46 s44 (false, ()) h45))
def slices_partitionEqualOrdered_int.l10 (c_cmp_Less_int : Int → Int → Heap → (Bool → Heap → Prop) → Prop) (data1 : Sl) (a2 : Int) (Q : Int → Heap → Prop) (go18 : Den kapiEdge → Heap → Prop) (s16 : Den kapiEdge) (h17 : Heap) : Prop :=
    Loop (slices_partitionEqualOrdered_int.l9 c_cmp_Less_int data1 a2 Q go18 s16) (s16.1, ()) h17
def slices_partitionEqualOrdered_int.M (c_cmp_Less_int : Int → Int → Heap → (Bool → Heap → Prop) → Prop) (data1 : Sl) (a2 : Int) (b3 : Int) (pivot4 : Int) (h5 : Heap) (Q : Int → Heap → Prop) : Prop :=
    (0 ≤ pivot4 ∧ pivot4 < (data1.len : Int)) ∧
    deref data1.a fun a6 =>
    (0 ≤ a2 ∧ a2 < (data1.len : Int)) ∧
    deref data1.a fun a7 =>
    ld ((.int .i64) : Kd) h5 (a6.add ((pivot4 : Int).toNat * 1)) fun t8 =>
    ld ((.int .i64) : Kd) h5 (a7.add ((a2 : Int).toNat * 1)) fun t9 =>
    (0 ≤ a2 ∧ a2 < (data1.len : Int)) ∧
    deref data1.a fun a10 =>
    st ((.int .i64) : Kd) h5 (a10.add ((a2 : Int).toNat * 1)) t8 fun h11 =>
    (0 ≤ pivot4 ∧ pivot4 < (data1.len : Int)) ∧
    deref data1.a fun a12 =>
    st ((.int .i64) : Kd) h11 (a12.add ((pivot4 : Int).toNat * 1)) t9 fun h13 =>
    Loop (slices_partitionEqualOrdered_int.l10 c_cmp_Less_int data1 a2 Q) ((w64 (a2 + 1)), (w64 (b3 - 1)), ()) h13
def slices_partitionEqualOrdered_int.mk : Mk := (.s .d (.s (.q [] [] [.p 0, .p 1, .p 2, .p 3, .p 4, .p 5, .p 6, .p 8, .p 9, .p 10, .w 7 [7, 12, 13, 14, 15], .w 11 [11, 12, 13, 14, 15], .p 12, .o 13, .p 14, .o 15]) (.s .d (.j [.slot 9 (.int .i64)] (.b (.l [.slot 9 (.int .i64), .slot 10 (.int .i64)] (.b (.j [.slot 9 (.int .i64)] (.b (.l [.slot 9 (.int .i64)] (.j [] (.j [.slot 43 .bool] (.q [] [] [.p 0, .p 1, .p 2, .p 3, .p 4, .p 5, .p 6, .p 8, .p 9, .p 10, .w 7 [7, 12, 13, 14], .w 11 [11, 12, 13, 14], .o 12, .p 13, .p 14]) (.c .d .d)) (.b .d)))) (.j [.slot 10 (.int .i64)] (.b (.l [.slot 10 (.int .i64)] (.j [] (.j [.slot 59 .bool] (.q [] [] [.p 0, .p 1, .p 2, .p 3, .p 4, .p 5, .p 6, .p 8, .p 9, .p 10, .w 7 [7, 12, 13], .w 11 [11, 12, 13], .o 12, .p 13]) (.c .d .d)) (.b .d)))) (.s (.s .d (.c .d .d)) (.s (.q [] [] [.p 0, .p 1, .p 2, .p 3, .p 4, .p 5, .p 6, .p 8, .p 9, .p 10, .w 7 [7, 12, 13, 14, 15], .w 11 [11, 12, 13, 14, 15], .p 12, .o 13, .p 14, .o 15]) (.s .d .d)))))))) (.s .d .d)))))

def slices_partitionOrdered_int.j1 (data1 : Sl) (a2 : Int) (Q : (Int × (Bool × Unit)) → Heap → Prop) (s34 : (Int × Unit)) (h35 : Heap) : Prop :=
    (0 ≤ a2 ∧ a2 < (data1.len : Int)) ∧
    deref data1.a fun a36 =>
    (0 ≤ s34.1 ∧ s34.1 < (data1.len : Int)) ∧
    deref data1.a fun a37 =>
    ld ((.int .i64) : Kd) h35 (a36.add ((a2 : Int).toNat * 1)) fun t38 =>
    ld ((.int .i64) : Kd) h35 (a37.add ((s34.1 : Int).toNat * 1)) fun t39 =>
    (0 ≤ s34.1 ∧ s34.1 < (data1.len : Int)) ∧
    deref data1.a fun a40 =>
    st ((.int .i64) : Kd) h35 (a40.add ((s34.1 : Int).toNat * 1)) t38 fun h41 =>
    (0 ≤ a2 ∧ a2 < (data1.len : Int)) ∧
    deref data1.a fun a42 =>
    st ((.int .i64) : Kd) h41 (a42.add ((a2 : Int).toNat * 1)) t39 fun h43 =>
    Q (s34.1, false, ()) h43
def slices_partitionOrdered_int.j2 (data1 : Sl) (a2 : Int) (Q : (Int × (Bool × Unit)) → Heap → Prop) (go46 : Den kapiEdge → Heap → Prop) (s47 : (Int × Unit)) (s49 : (Int × Unit)) (h50 : Heap) : Prop :=
    (((decide (s49.1 < s47.1)) = true →
    slices_partitionOrdered_int.j1 data1 a2 Q (s49.1, ()) h50) ∧
    ((decide (s49.1 < s47.1)) = false →
    (0 ≤ s49.1 ∧ s49.1 < (data1.len : Int)) ∧
    deref data1.a fun a51 =>
    (0 ≤ s47.1 ∧ s47.1 < (data1.len : Int)) ∧
    deref data1.a fun a52 =>
    ld ((.int .i64) : Kd) h50 (a51.add ((s49.1 : Int).toNat * 1)) fun t53 =>
    ld ((.int .i64) : Kd) h50 (a52.add ((s47.1 : Int).toNat * 1)) fun t54 =>
    (0 ≤ s47.1 ∧ s47.1 < (data1.len : Int)) ∧
    deref data1.a fun a55 =>
    st ((.int .i64) : Kd) h50 (a55.add ((s47.1 : Int).toNat * 1)) t53 fun h56 =>
    (0 ≤ s49.1 ∧ s49.1 < (data1.len : Int)) ∧
    deref data1.a fun a57 =>
    st ((.int .i64) : Kd) h56 (a57.add ((s49.1 : Int).toNat * 1)) t54 fun h58 =>
    go46 ((w64 (s47.1 + 1)), (w64 (s49.1 - 1)), ()) h58))
def slices_partitionOrdered_int.j3 (go61 : (Int × Unit) → Heap → Prop) (s59 : (Int × Unit)) (s62 : Unit) (h63 : Heap) : Prop :=
    go61 ((w64 (s59.1 - 1)), ()) h63
def slices_partitionOrdered_int.j4 (data1 : Sl) (a2 : Int) (Q : (Int × (Bool × Unit)) → Heap → Prop) (go46 : Den kapiEdge → Heap → Prop) (s47 : (Int × Unit)) (go61 : (Int × Unit) → Heap → Prop) (s59 : (Int × Unit)) (s64 : (Bool × Unit)) (h65 : Heap) : Prop :=
    ((s64.1 = true →
    slices_partitionOrdered_int.j3 go61 s59 () h65) ∧
    (s64.1 = false →
    slices_partitionOrdered_int.j2 data1 a2 Q go46 s47 (s59.1, ()) h65))
def slices_partitionOrdered_int.l5 (c_cmp_Less_int : Int → Int → Heap → (Bool → Heap → Prop) → Prop) (data1 : Sl) (a2 : Int) (Q : (Int × (Bool × Unit)) → Heap → Prop) (go46 : Den kapiEdge → Heap → Prop) (s47 : (Int × Unit)) (go61 : (Int × Unit) → Heap → Prop) (s59 : (Int × Unit)) (h60 : Heap) : Prop :=
    (((decide (s47.1 ≤ s59.1)) = true →
    (0 ≤ s59.1 ∧ s59.1 < (data1.len : Int)) ∧
    deref data1.a fun a66 =>
    (0 ≤ a2 ∧ a2 < (data1.len : Int)) ∧
    deref data1.a fun a67 =>
    ld ((.int .i64) : Kd) h60 (a66.add ((s59.1 : Int).toNat * 1)) fun t68 =>
    ld ((.int .i64) : Kd) h60 (a67.add ((a2 : Int).toNat * 1)) fun t69 =>
    c_cmp_Less_int t68 t69 h60 fun r70 h71 =>
    slices_partitionOrdered_int.j4 data1 a2 Q go46 s47 go61 s59 ((!r70), ()) h71) ∧
    ((decide (s47.1 ≤ s59.1)) = false →
    slices_partitionOrdered_int.j4 data1 a2 Q go46 s47 go61 s59 (false, ()) h60))
def slices_partitionOrdered_int.j6 (c_cmp_Less_int : Int → Int → Heap → (Bool → Heap → Prop) → Prop) (data1 : Sl) (a2 : Int) (Q : (Int × (Bool × Unit)) → Heap → Prop) (go46 : Den kapiEdge → Heap → Prop) (s44 : Den kapiEdge) (s47 : (Int × Unit)) (h48 : Heap) : Prop :=
    Loop (slices_partitionOrdered_int.l5 c_cmp_Less_int data1 a2 Q go46 s47) (s44.2.1, ()) h48
def slices_partitionOrdered_int.j7 (go74 : (Int × Unit) → Heap → Prop) (s72 : (Int × Unit)) (s75 : Unit) (h76 : Heap) : Prop :=
    go74 ((w64 (s72.1 + 1)), ()) h76
def slices_partitionOrdered_int.j8 (c_cmp_Less_int : Int → Int → Heap → (Bool → Heap → Prop) → Prop) (data1 : Sl) (a2 : Int) (Q : (Int × (Bool × Unit)) → Heap → Prop) (go46 : Den kapiEdge → Heap → Prop) (s44 : Den kapiEdge) (go74 : (Int × Unit) → Heap → Prop) (s72 : (Int × Unit)) (s77 : (Bool × Unit)) (h78 : Heap) : Prop :=
    ((s77.1 = true →
    slices_partitionOrdered_int.j7 go74 s72 () h78) ∧
    (s77.1 = false →
    slices_partitionOrdered_int.j6 c_cmp_Less_int data1 a2 Q go46 s44 (s72.1, ()) h78))
def slices_partitionOrdered_int.l9 (c_cmp_Less_int : Int → Int → Heap → (Bool → Heap → Prop) → Prop) (data1 : Sl) (a2 : Int) (Q : (Int × (Bool × Unit)) → Heap → Prop) (go46 : Den kapiEdge → Heap → Prop) (s44 : Den kapiEdge) (go74 : (Int × Unit) → Heap → Prop) (s72 : (Int × Unit)) (h73 : Heap) : Prop :=
    (((decide (s72.1 ≤ s44.2.1)) = true →
    (0 ≤ s72.1 ∧ s72.1 < (data1.len : Int)) ∧
    deref data1.a fun a79 =>
    (0 ≤ a2 ∧ a2 < (data1.len : Int)) ∧
    deref data1.a fun a80 =>
    ld ((.int .i64) : Kd) h73 (a79.add ((s72.1 : Int).toNat * 1)) fun t81 =>
    ld ((.int .i64) : Kd) h73 (a80.add ((a2 : Int).toNat * 1)) fun t82 =>
    c_cmp_Less_int t81 t82 h73 fun r83 h84 =>
    slices_partitionOrdered_int.j8 c_cmp_Less_int data1 a2 Q go46 s44 go74 s72 (r83, ()) h84) ∧
    ((decide (s72.1 ≤ s44.2.1)) = false →
    slices_partitionOrdered_int.j8 c_cmp_Less_int data1 a2 Q go46 s44 go74 s72 (false, ()) h73))
def slices_partitionOrdered_int.l10 (c_cmp_Less_int : Int → Int → Heap → (Bool → Heap → Prop) → Prop) (data1 : Sl) (a2 : Int) (Q : (Int × (Bool × Unit)) → Heap → Prop) (go46 : Den kapiEdge → Heap → Prop) (s44 : Den kapiEdge) (h45 : Heap) : Prop :=
    Loop (slices_partitionOrdered_int.l9 c_cmp_Less_int data1 a2 Q go46 s44) (s44.1, ()) h45
def slices_partitionOrdered_int.j11 (c_cmp_Less_int : Int → Int → Heap → (Bool → Heap → Prop) → Prop) (data1 : Sl) (a2 : Int) (Q : (Int × (Bool × Unit)) → Heap → Prop) (s14 : (Int × Unit)) (s16 : (Int × Unit)) (h17 : Heap) : Prop :=
    (((decide (s16.1 < s14.1)) = true →
    (0 ≤ a2 ∧ a2 < (data1.len : Int)) ∧
    deref data1.a fun a18 =>
    (0 ≤ s16.1 ∧ s16.1 < (data1.len : Int)) ∧
    deref data1.a fun a19 =>
    ld ((.int .i64) : Kd) h17 (a18.add ((a2 : Int).toNat * 1)) fun t20 =>
    ld ((.int .i64) : Kd) h17 (a19.add ((s16.1 : Int).toNat * 1)) fun t21 =>
    (0 ≤ s16.1 ∧ s16.1 < (data1.len : Int)) ∧
    deref data1.a fun a22 =>
    st ((.int .i64) : Kd) h17 (a22.add ((s16.1 : Int).toNat * 1)) t20 fun h23 =>
    (0 ≤ a2 ∧ a2 < (data1.len : Int)) ∧
    deref data1.a fun a24 =>
    st ((.int .i64) : Kd) h23 (a24.add ((a2 : Int).toNat * 1)) t21 fun h25 =>
    Q (s16.1, true, ()) h25) ∧
    ((decide (s16.1 < s14.1)) = false →
    (0 ≤ s16.1 ∧ s16.1 < (data1.len : Int)) ∧
    deref data1.a fun a26 =>
    (0 ≤ s14.1 ∧ s14.1 < (data1.len : Int)) ∧
    deref data1.a fun a27 =>
    ld ((.int .i64) : Kd) h17 (a26.add ((s16.1 : Int).toNat * 1)) fun t28 =>
    ld ((.int .i64) : Kd) h17 (a27.add ((s14.1 : Int).toNat * 1)) fun t29 =>
    (0 ≤ s14.1 ∧ s14.1 < (data1.len : Int)) ∧
    deref data1.a fun a30 =>
    st ((.int .i64) : Kd) h17 (a30.add ((s14.1 : Int).toNat * 1)) t28 fun h31 =>
    (0 ≤ s16.1 ∧ s16.1 < (data1.len : Int)) ∧
    deref data1.a fun a32 =>
    st ((.int .i64) : Kd) h31 (a32.add ((s16.1 : Int).toNat * 1)) t29 fun h33 =>
    Loop (slices_partitionOrdered_int.l10 c_cmp_Less_int data1 a2 Q) ((w64 (s14.1 + 1)), (w64 (s16.1 - 1)), ()) h33))
def slices_partitionOrdered_int.j12 (go87 : (Int × Unit) → Heap → Prop) (s85 : (Int × Unit)) (s88 : Unit) (h89 : Heap) : Prop :=
    go87 ((w64 (s85.1 - 1)), ()) h89
def slices_partitionOrdered_int.j13 (c_cmp_Less_int : Int → Int → Heap → (Bool → Heap → Prop) → Prop) (data1 : Sl) (a2 : Int) (Q : (Int × (Bool × Unit)) → Heap → Prop) (s14 : (Int × Unit)) (go87 : (Int × Unit) → Heap → Prop) (s85 : (Int × Unit)) (s90 : (Bool × Unit)) (h91 : Heap) : Prop :=
    ((s90.1 = true →
    slices_partitionOrdered_int.j12 go87 s85 () h91) ∧
    (s90.1 = false →
    slices_partitionOrdered_int.j11 c_cmp_Less_int data1 a2 Q s14 (s85.1, ()) h91))
def slices_partitionOrdered_int.l14 (c_cmp_Less_int : Int → Int → Heap → (Bool → Heap → Prop) → Prop) (data1 : Sl) (a2 : Int) (Q : (Int × (Bool × Unit)) → Heap → Prop) (s14 : (Int × Unit)) (go87 : (Int × Unit) → Heap → Prop) (s85 : (Int × Unit)) (h86 : Heap) : Prop :=
    (((decide (s14.1 ≤ s85.1)) = true →
    (0 ≤ s85.1 ∧ s85.1 < (data1.len : Int)) ∧
    deref data1.a fun a92 =>
    (0 ≤ a2 ∧ a2 < (data1.len : Int)) ∧
    deref data1.a fun a93 =>
    ld ((.int .i64) : Kd) h86 (a92.add ((s85.1 : Int).toNat * 1)) fun t94 =>
    ld ((.int .i64) : Kd) h86 (a93.add ((a2 : Int).toNat * 1)) fun t95 =>
    c_cmp_Less_int t94 t95 h86 fun r96 h97 =>
    slices_partitionOrdered_int.j13 c_cmp_Less_int data1 a2 Q s14 go87 s85 ((!r96), ()) h97) ∧
    ((decide (s14.1 ≤ s85.1)) = false →
    slices_partitionOrdered_int.j13 c_cmp_Less_int data1 a2 Q s14 go87 s85 (false, ()) h86))
def slices_partitionOrdered_int.j15 (c_cmp_Less_int : Int → Int → Heap → (Bool → Heap → Prop) → Prop) (data1 : Sl) (a2 : Int) (b3 : Int) (Q : (Int × (Bool × Unit)) → Heap → Prop) (s14 : (Int × Unit)) (h15 : Heap) : Prop :=
    Loop (slices_partitionOrdered_int.l14 c_cmp_Less_int data1 a2 Q s14) ((w64 (b3 - 1)), ()) h15
def slices_partitionOrdered_int.j16 (go100 : (Int × Unit) → Heap → Prop) (s98 : (Int × Unit)) (s101 : Unit) (h102 : Heap) : Prop :=
    go100 ((w64 (s98.1 + 1)), ()) h102
def slices_partitionOrdered_int.j17 (c_cmp_Less_int : Int → Int → Heap → (Bool → Heap → Prop) → Prop) (data1 : Sl) (a2 : Int) (b3 : Int) (Q : (Int × (Bool × Unit)) → Heap → Prop) (go100 : (Int × Unit) → Heap → Prop) (s98 : (Int × Unit)) (s103 : (Bool × Unit)) (h104 : Heap) : Prop :=
    ((s103.1 = true →
    slices_partitionOrdered_int.j16 go100 s98 () h104) ∧
    (s103.1 = false →
    slices_partitionOrdered_int.j15 c_cmp_Less_int data1 a2 b3 Q (s98.1, ()) h104))
def slices_partitionOrdered_int.l18 (c_cmp_Less_int : Int → Int → Heap → (Bool → Heap → Prop) → Prop) (data1 : Sl) (a2 : Int) (b3 : Int) (Q : (Int × (Bool × Unit)) → Heap → Prop) (go100 : (Int × Unit) → Heap → Prop) (s98 : (Int × Unit)) (h99 : Heap) : Prop :=
    (((decide (s98.1 ≤ (w64 (b3 - 1)))) = true →
    (0 ≤ s98.1 ∧ s98.1 < (data1.len : Int)) ∧
    deref data1.a fun a105 =>
    (0 ≤ a2 ∧ a2 < (data1.len : Int)) ∧
    deref data1.a fun a106 =>
    ld ((.int .i64) : Kd) h99 (a105.add ((s98.1 : Int).toNat * 1)) fun t107 =>
    ld ((.int .i64) : Kd) h99 (a106.add ((a2 : Int).toNat * 1)) fun t108 =>
    c_cmp_Less_int t107 t108 h99 fun r109 h110 =>
    slices_partitionOrdered_int.j17 c_cmp_Less_int data1 a2 b3 Q go100 s98 (r109, ()) h110) ∧
    ((decide (s98.1 ≤ (w64 (b3 - 1)))) = false →
    slices_partitionOrdered_int.j17 c_cmp_Less_int data1 a2 b3 Q go100 s98 (false, ()) h99))
def slices_partitionOrdered_int.M (c_cmp_Less_int : Int → Int → Heap → (Bool → Heap → Prop) → Prop) (data1 : Sl) (a2 : Int) (b3 : Int) (pivot4 : Int) (h5 : Heap) (Q : (Int × (Bool × Unit)) → Heap → Prop) : Prop :=
    (0 ≤ pivot4 ∧ pivot4 < (data1.len : Int)) ∧
    deref data1.a fun a6 =>
    (0 ≤ a2 ∧ a2 < (data1.len : Int)) ∧
    deref data1.a fun a7 =>
    ld ((.int .i64) : Kd) h5 (a6.add ((pivot4 : Int).toNat * 1)) fun t8 =>
    ld ((.int .i64) : Kd) h5 (a7.add ((a2 : Int).toNat * 1)) fun t9 =>
    (0 ≤ a2 ∧ a2 < (data1.len : Int)) ∧
    deref data1.a fun a10 =>
    st ((.int .i64) : Kd) h5 (a10.add ((a2 : Int).toNat * 1)) t8 fun h11 =>
    (0 ≤ pivot4 ∧ pivot4 < (data1.len : Int)) ∧
    deref data1.a fun a12 =>
    st ((.int .i64) : Kd) h11 (a12.add ((pivot4 : Int).toNat * 1)) t9 fun h13 =>
    Loop (slices_partitionOrdered_int.l18 c_cmp_Less_int data1 a2 b3 Q) ((w64 (a2 + 1)), ()) h13
def slices_partitionOrdered_int.mk : Mk := (.s .d (.s (.q [] [] [.p 0, .p 1, .p 2, .p 3, .p 4, .p 5, .p 6, .p 8, .p 9, .p 10, .w 7 [7, 12, 13, 14, 15], .w 11 [11, 12, 13, 14, 15], .p 12, .o 13, .p 14, .o 15]) (.s .d (.j [.slot 10 (.int .i64)] (.b (.l [.slot 10 (.int .i64)] (.j [] (.j [.slot 43 .bool] (.q [] [] [.p 0, .p 1, .p 2, .p 3, .p 4, .p 5, .p 6, .p 8, .p 9, .p 10, .w 7 [7, 12, 13], .w 11 [11, 12, 13], .o 12, .p 13]) (.c .d .d)) (.b .d)))) (.j [.slot 11 (.int .i64)] (.b (.l [.slot 11 (.int .i64)] (.j [] (.j [.slot 60 .bool] (.q [] [] [.p 0, .p 1, .p 2, .p 3, .p 4, .p 5, .p 6, .p 8, .p 9, .p 10, .w 7 [7, 12, 13, 14], .w 11 [11, 12, 13, 14], .o 12, .p 13, .p 14]) (.c .d .d)) (.b .d)))) (.s (.s .d (.c (.s (.q [] [] [.p 0, .p 1, .p 2, .p 3, .p 4, .p 5, .p 6, .p 8, .p 9, .p 10, .w 7 [7, 12, 13, 14, 15], .w 11 [11, 12, 13, 14, 15], .p 12, .o 13, .p 14, .o 15]) (.s .d .d)) .d)) (.s (.q [] [] [.p 0, .p 1, .p 2, .p 3, .p 4, .p 5, .p 6, .p 8, .p 9, .p 10, .w 7 [7, 12, 13, 14, 15], .w 11 [11, 12, 13, 14, 15], .p 12, .o 13, .p 14, .o 15]) (.s .d (.s .d (.j [.slot 11 (.int .i64)] (.b (.l [.slot 10 (.int .i64), .slot 11 (.int .i64)] (.b (.j [.slot 10 (.int .i64)] (.b (.l [.slot 10 (.int .i64)] (.j [] (.j [.slot 112 .bool] (.q [] [] [.p 0, .p 1, .p 2, .p 3, .p 4, .p 5, .p 6, .p 8, .p 9, .p 10, .w 7 [7, 12, 13], .w 11 [11, 12, 13], .o 12, .p 13]) (.c .d .d)) (.b .d)))) (.j [.slot 11 (.int .i64)] (.b (.l [.slot 11 (.int .i64)] (.j [] (.j [.slot 129 .bool] (.q [] [] [.p 0, .p 1, .p 2, .p 3, .p 4, .p 5, .p 6, .p 8, .p 9, .p 10, .w 7 [7, 12, 13, 14], .w 11 [11, 12, 13, 14], .o 12, .p 13, .p 14]) (.c .d .d)) (.b .d)))) (.s (.s .d (.c .d .d)) (.s (.q [] [] [.p 0, .p 1, .p 2, .p 3, .p 4, .p 5, .p 6, .p 8, .p 9, .p 10, .w 7 [7, 12, 13, 14, 15], .w 11 [11, 12, 13, 14, 15], .p 12, .o 13, .p 14, .o 15]) (.s .d .d)))))))) (.s (.q [] [] [.p 0, .p 1, .p 2, .p 3, .p 4, .p 5, .p 6, .p 8, .p 9, .p 10, .w 7 [7, 12, 13, 14, 15], .w 11 [11, 12, 13, 14, 15], .p 12, .o 13, .p 14, .o 15]) (.s .d .d))))))))))))

def math_bits_Len64.j1 (Q : Int → Heap → Prop) (s7 : (Int × (Int × Unit))) (h8 : Heap) : Prop :=
    (0 ≤ (IntKind.wrap .u8 s7.1) ∧ (IntKind.wrap .u8 s7.1) < (256 : Int)) ∧
    ∀ b9 : Int,
    Q (w64 (s7.2.1 + (w64 b9))) h8
def math_bits_Len64.j2 (Q : Int → Heap → Prop) (s5 : (Int × (Int × Unit))) (h6 : Heap) : Prop :=
    (((decide ((256 : Int) ≤ s5.1)) = true →
    0 ≤ (8 : Int) ∧
    math_bits_Len64.j1 Q ((Int.fdiv s5.1 (2 ^ (min (8 : Int).toNat (IntKind.bits .u64)))), (w64 (s5.2.1 + 8)), ()) h6) ∧
    ((decide ((256 : Int) ≤ s5.1)) = false →
    math_bits_Len64.j1 Q (s5.1, s5.2.1, ()) h6))
def math_bits_Len64.j3 (Q : Int → Heap → Prop) (s3 : (Int × (Int × Unit))) (h4 : Heap) : Prop :=
    (((decide ((65536 : Int) ≤ s3.1)) = true →
    0 ≤ (16 : Int) ∧
    math_bits_Len64.j2 Q ((Int.fdiv s3.1 (2 ^ (min (16 : Int).toNat (IntKind.bits .u64)))), (w64 (s3.2.1 + 16)), ()) h4) ∧
    ((decide ((65536 : Int) ≤ s3.1)) = false →
    math_bits_Len64.j2 Q (s3.1, s3.2.1, ()) h4))
def math_bits_Len64.M  (x1 : Int) (h2 : Heap) (Q : Int → Heap → Prop) : Prop :=
    (((decide ((4294967296 : Int) ≤ x1)) = true →
    0 ≤ (32 : Int) ∧
    math_bits_Len64.j3 Q ((Int.fdiv x1 (2 ^ (min (32 : Int).toNat (IntKind.bits .u64)))), 32, ()) h2) ∧
    ((decide ((4294967296 : Int) ≤ x1)) = false →
    math_bits_Len64.j3 Q (x1, 0, ()) h2))
def math_bits_Len64.mk : Mk := (.s .d (.j [.slot 0 (.int .u64), .slot 2 (.int .i64)] (.s .d (.c (.s .d .d) .d)) (.j [.slot 0 (.int .u64), .slot 2 (.int .i64)] (.s .d (.c (.s .d .d) .d)) (.j [.slot 0 (.int .u64), .slot 2 (.int .i64)] (.s .d (.c (.s .d .d) .d)) (.s .d .d)))))

def cells_ledger_has.M  (l1 : Option Addr) (addr2 : Int) (h3 : Heap) (Q : Bool → Heap → Prop) : Prop :=
    (((decide ((0 : Int) ≤ addr2)) = true →
    deref l1 fun a4 =>
    ld ((.int .i64) : Kd) h3 (a4.add 1) fun t5 =>
    Q (decide (addr2 < t5)) h3) ∧
    ((decide ((0 : Int) ≤ addr2)) = false →
    Q false h3))
def cells_ledger_has.mk : Mk := (.s .d (.s .d .d))

def slices_siftDownOrdered_int.j1 (c_cmp_Less_int : Int → Int → Heap → (Bool → Heap → Prop) → Prop) (data1 : Sl) (first4 : Int) (Q : Unit → Heap → Prop) (go8 : (Int × Unit) → Heap → Prop) (s6 : (Int × Unit)) (s9 : (Int × Unit)) (h10 : Heap) : Prop :=
    (0 ≤ (w64 (first4 + s6.1)) ∧ (w64 (first4 + s6.1)) < (data1.len : Int)) ∧
    deref data1.a fun a11 =>
    (0 ≤ (w64 (first4 + s9.1)) ∧ (w64 (first4 + s9.1)) < (data1.len : Int)) ∧
    deref data1.a fun a12 =>
    ld ((.int .i64) : Kd) h10 (a11.add (((w64 (first4 + s6.1)) : Int).toNat * 1)) fun t13 =>
    ld ((.int .i64) : Kd) h10 (a12.add (((w64 (first4 + s9.1)) : Int).toNat * 1)) fun t14 =>
    c_cmp_Less_int t13 t14 h10 fun r15 h16 =>
    (((!r15) = true →
    Q () h16) ∧
    ((!r15) = false →
    (0 ≤ (w64 (first4 + s9.1)) ∧ (w64 (first4 + s9.1)) < (data1.len : Int)) ∧
    deref data1.a fun a17 =>
    (0 ≤ (w64 (first4 + s6.1)) ∧ (w64 (first4 + s6.1)) < (data1.len : Int)) ∧
    deref data1.a fun a18 =>
    ld ((.int .i64) : Kd) h16 (a17.add (((w64 (first4 + s9.1)) : Int).toNat * 1)) fun t19 =>
    ld ((.int .i64) : Kd) h16 (a18.add (((w64 (first4 + s6.1)) : Int).toNat * 1)) fun t20 =>
    (0 ≤ (w64 (first4 + s6.1)) ∧ (w64 (first4 + s6.1)) < (data1.len : Int)) ∧
    deref data1.a fun a21 =>
    st ((.int .i64) : Kd) h16 (a21.add (((w64 (first4 + s6.1)) : Int).toNat * 1)) t19 fun h22 =>
    (0 ≤ (w64 (first4 + s9.1)) ∧ (w64 (first4 + s9.1)) < (data1.len : Int)) ∧
    deref data1.a fun a23 =>
    st ((.int .i64) : Kd) h22 (a23.add (((w64 (first4 + s9.1)) : Int).toNat * 1)) t20 fun h24 =>
    go8 (s9.1, ()) h24))
def slices_siftDownOrdered_int.j2 (c_cmp_Less_int : Int → Int → Heap → (Bool → Heap → Prop) → Prop) (data1 : Sl) (first4 : Int) (Q : Unit → Heap → Prop) (go8 : (Int × Unit) → Heap → Prop) (s6 : (Int × Unit)) (s25 : (Bool × Unit)) (h26 : Heap) : Prop :=
    ((s25.1 = true →
    slices_siftDownOrdered_int.j1 c_cmp_Less_int data1 first4 Q go8 s6 ((w64 ((w64 ((w64 (2 * s6.1)) + 1)) + 1)), ()) h26) ∧
    (s25.1 = false →
    slices_siftDownOrdered_int.j1 c_cmp_Less_int data1 first4 Q go8 s6 ((w64 ((w64 (2 * s6.1)) + 1)), ()) h26))
def slices_siftDownOrdered_int.l3 (c_cmp_Less_int : Int → Int → Heap → (Bool → Heap → Prop) → Prop) (data1 : Sl) (hi3 : Int) (first4 : Int) (Q : Unit → Heap → Prop) (go8 : (Int × Unit) → Heap → Prop) (s6 : (Int × Unit)) (h7 : Heap) : Prop :=
    (((decide (hi3 ≤ (w64 ((w64 (2 * s6.1)) + 1)))) = true →
    Q () h7) ∧
    ((decide (hi3 ≤ (w64 ((w64 (2 * s6.1)) + 1)))) = false →
    (((decide ((w64 ((w64 ((w64 (2 * s6.1)) + 1)) + 1)) < hi3)) = true →
    (0 ≤ (w64 (first4 + (w64 ((w64 (2 * s6.1)) + 1)))) ∧ (w64 (first4 + (w64 ((w64 (2 * s6.1)) + 1)))) < (data1.len : Int)) ∧
    deref data1.a fun a27 =>
    (0 ≤ (w64 ((w64 (first4 + (w64 ((w64 (2 * s6.1)) + 1)))) + 1)) ∧ (w64 ((w64 (first4 + (w64 ((w64 (2 * s6.1)) + 1)))) + 1)) < (data1.len : Int)) ∧
    deref data1.a fun a28 =>
    ld ((.int .i64) : Kd) h7 (a27.add (((w64 (first4 + (w64 ((w64 (2 * s6.1)) + 1)))) : Int).toNat * 1)) fun t29 =>
    ld ((.int .i64) : Kd) h7 (a28.add (((w64 ((w64 (first4 + (w64 ((w64 (2 * s6.1)) + 1)))) + 1)) : Int).toNat * 1)) fun t30 =>
    c_cmp_Less_int t29 t30 h7 fun r31 h32 =>
    slices_siftDownOrdered_int.j2 c_cmp_Less_int data1 first4 Q go8 s6 (r31, ()) h32) ∧
    ((decide ((w64 ((w64 ((w64 (2 * s6.1)) + 1)) + 1)) < hi3)) = false →
    slices_siftDownOrdered_int.j2 c_cmp_Less_int data1 first4 Q go8 s6 (false, ()) h7))))
def slices_siftDownOrdered_int.M (c_cmp_Less_int : Int → Int → Heap → (Bool → Heap → Prop) → Prop) (data1 : Sl) (lo2 : Int) (hi3 : Int) (first4 : Int) (h5 : Heap) (Q : Unit → Heap → Prop) : Prop :=
    Loop (slices_siftDownOrdered_int.l3 c_cmp_Less_int data1 hi3 first4 Q) (lo2, ()) h5
def slices_siftDownOrdered_int.mk : Mk := (.s .d (.b (.l [.slot 8 (.int .i64)] (.b (.s .d (.s (.s .d (.c .d .d)) (.j [.slot 9 (.int .i64)] (.j [.slot 36 .bool] (.q [] [] [.p 0, .p 1, .p 2, .p 3, .p 4, .p 5, .p 6, .p 7, .p 8, .p 9, .p 11, .p 12, .p 13, .p 14, .p 15, .p 16, .w 10 [10, 18, 19], .w 17 [17, 18, 19], .o 18, .p 19]) (.c .d .d)) (.s (.s (.q [] [] [.p 0, .p 1, .p 2, .p 3, .p 4, .p 6, .p 7, .p 8, .p 9, .p 10, .w 5 [5, 12, 13], .w 11 [11, 12, 13], .o 12, .p 13]) (.c .d .d)) (.s (.q [] [] [.p 0, .p 1, .p 2, .p 3, .p 4, .p 5, .p 6, .p 7, .p 8, .p 9, .p 10, .p 11, .p 12, .p 14, .p 15, .p 16, .p 17, .p 18, .w 13 [13, 20, 21, 22, 23], .w 19 [19, 20, 21, 22, 23], .p 20, .o 21, .p 22, .o 23]) .d)))))))))

def slices_medianAdjacentOrdered_int.M (c_slices_medianOrdered_int : Sl → Int → Int → Int → Option Addr → Heap → (Int → Heap → Prop) → Prop) (data1 : Sl) (a2 : Int) (swaps3 : Option Addr) (h4 : Heap) (Q : Int → Heap → Prop) : Prop :=
    c_slices_medianOrdered_int data1 (w64 (a2 - 1)) a2 (w64 (a2 + 1)) swaps3 h4 fun r5 h6 =>
    Q r5 h6
def slices_medianAdjacentOrdered_int.mk : Mk := (.s .d (.s .d .d))

def slices_medianOrdered_int.M (c_slices_order2Ordered_int : Sl → Int → Int → Option Addr → Heap → (Den kapiEdge → Heap → Prop) → Prop) (data1 : Sl) (a2 : Int) (b3 : Int) (c4 : Int) (swaps5 : Option Addr) (h6 : Heap) (Q : Int → Heap → Prop) : Prop :=
    c_slices_order2Ordered_int data1 a2 b3 swaps5 h6 fun r7 h8 =>
    c_slices_order2Ordered_int data1 r7.2.1 c4 swaps5 h8 fun r9 h10 =>
    c_slices_order2Ordered_int data1 r7.1 r9.1 swaps5 h10 fun r11 h12 =>
    Q r11.2.1 h12
def slices_medianOrdered_int.mk : Mk := (.s .d (.s .d (.s .d (.s .d (.s .d .d)))))

def slices_order2Ordered_int.M (c_cmp_Less_int : Int → Int → Heap → (Bool → Heap → Prop) → Prop) (data1 : Sl) (a2 : Int) (b3 : Int) (swaps4 : Option Addr) (h5 : Heap) (Q : Den kapiEdge → Heap → Prop) : Prop :=
    (0 ≤ b3 ∧ b3 < (data1.len : Int)) ∧
    deref data1.a fun a6 =>
    (0 ≤ a2 ∧ a2 < (data1.len : Int)) ∧
    deref data1.a fun a7 =>
    ld ((.int .i64) : Kd) h5 (a6.add ((b3 : Int).toNat * 1)) fun t8 =>
    ld ((.int .i64) : Kd) h5 (a7.add ((a2 : Int).toNat * 1)) fun t9 =>
    c_cmp_Less_int t8 t9 h5 fun r10 h11 =>
    ((r10 = true →
    deref swaps4 fun a12 =>
    ld ((.int .i64) : Kd) h11 a12 fun t13 =>
    deref swaps4 fun a14 =>
    st ((.int .i64) : Kd) h11 a14 (w64 (t13 + 1)) fun h15 =>
    Q (b3, a2, ()) h15) ∧
    (r10 = false →
    Q (a2, b3, ()) h11))
def slices_order2Ordered_int.mk : Mk := (.s .d (.s (.s (.q [] [] [.p 0, .p 1, .p 2, .p 4, .p 5, .p 6, .w 3 [3, 8], .w 7 [7, 8], .o 8]) (.c (.s .d (.s .d .d)) .d)) (.s .d .d)))

end Go.Mx
