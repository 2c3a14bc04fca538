/-
  What the functions of this seat come to over abstract heaps: printed by a program of this workplace.
-/
import Derived.Test.YtanfmmcpjifgiabMxN
set_option linter.unusedVariables false
namespace Go.Mx
abbrev kapiScene : Kd := (.pair (.int .i64) (.pair .sl (.pair .sl .nil)))
abbrev kapiAct : Kd := (.pair (.int .i64) (.pair (.int .i64) (.pair (.int .i64) (.pair (.int .i64) (.pair (.int .i64) .nil)))))
abbrev kapiEnding : Kd := (.pair .sl (.pair .sl .nil))
abbrev kexploredone : Kd := (.pair (.int .i64) (.pair (.int .i64) (.pair kapiAct .nil)))
abbrev kapiEffect : Kd := (.pair (.int .i64) (.pair .bool (.pair (.int .i64) .nil)))
abbrev kexplorewalk : Kd := (.pair kapiScene kapiEnding)
abbrev kref22Act : Kd := (.pair (.int .i64) (.pair kapiAct .nil))
abbrev kcellsledger : Kd := (.pair (.int .i64) (.pair (.int .i64) .nil))
abbrev kcellsArena : Kd := (.pair kcellsledger (.pair .sl (.pair .sl (.pair (.int .i64) (.pair .bool .nil)))))
abbrev kapiAccess : Kd := (.pair (.int .i64) (.pair (.int .i64) (.pair (.int .i64) (.pair (.int .i64) (.pair (.int .i64) (.pair .bool .nil))))))
-- @T  98

def law22_ExploreKin.M (c_law22_copied : Den kapiScene → Heap → (Den kapiScene → Heap → Prop) → Prop) (c_law22_moved : Den kapiScene → Heap → (Unit → Heap → Prop) → Prop) (c_law22_turned : Sl → Heap → (Sl → Heap → Prop) → Prop) (c_explore_Kin : Den kapiScene → Sl → Heap → (Den kcellsledger → Heap → Prop) → Prop) (c_law22_back : Den kapiScene → Den kapiScene → Heap → (Unit → Heap → Prop) → Prop) (c_law22_written : Sl → Sl → Heap → (Unit → Heap → Prop) → Prop) (c_ref22_Kin : Den kapiScene → Sl → Heap → (Den kcellsledger → Heap → Prop) → Prop) (c_law22_alike : Den kapiScene → Den kapiScene → Heap → (Bool → Heap → Prop) → Prop) (c_law22_kept : Sl → Sl → Heap → (Bool → Heap → Prop) → Prop) (s1 : Den kapiScene) (picks2 : Sl) (h3 : Heap) (Q : Bool → Heap → Prop) : Prop :=
    c_law22_copied (s1.1, (s1.2.1, (s1.2.2.1, ()))) h3 fun r4 h5 =>
    c_law22_moved (r4.1, (r4.2.1, (r4.2.2.1, ()))) h5 fun r6 h7 =>
    c_law22_turned picks2 h7 fun r8 h9 =>
    c_explore_Kin (r4.1, (r4.2.1, (r4.2.2.1, ()))) r8 h9 fun r10 h11 =>
    c_law22_back (r4.1, (r4.2.1, (r4.2.2.1, ()))) (s1.1, (s1.2.1, (s1.2.2.1, ()))) h11 fun r12 h13 =>
    c_explore_Kin (r4.1, (r4.2.1, (r4.2.2.1, ()))) r8 h13 fun r14 h15 =>
    c_law22_written r8 picks2 h15 fun r16 h17 =>
    c_explore_Kin (r4.1, (r4.2.1, (r4.2.2.1, ()))) r8 h17 fun r18 h19 =>
    c_ref22_Kin (s1.1, (s1.2.1, (s1.2.2.1, ()))) picks2 h19 fun r20 h21 =>
    (((decide (r18.1 = r20.1)) = true →
    (((decide (r18.2.1 = r20.2.1)) = true →
    c_law22_alike (r4.1, (r4.2.1, (r4.2.2.1, ()))) (s1.1, (s1.2.1, (s1.2.2.1, ()))) h21 fun r22 h23 =>
    ((r22 = true →
    c_law22_kept r8 picks2 h23 fun r24 h25 =>
    Q r24 h25) ∧
    (r22 = false →
    Q false h23))) ∧
    ((decide (r18.2.1 = r20.2.1)) = false →
    Q false h21))) ∧
    ((decide (r18.1 = r20.1)) = false →
    Q false h21))
def law22_ExploreKin.mk : Mk := (.s (.r [0]) (.s (.r [2]) (.s .d (.s .d (.s .d (.s .d (.s .d (.s .d (.s .d (.s .d (.s .d .d)))))))))))

def law22_copied.l1 (s1 : Den kapiScene) (Q : Den kapiScene → Heap → Prop) (go9 : (Int × (Den kapiScene × Unit)) → Heap → Prop) (s7 : (Int × (Den kapiScene × Unit))) (h8 : Heap) : Prop :=
    (((decide (s7.1 < (s1.2.2.1.len : Int))) = true →
    new h8 (([] : List (Den kapiAct)).flatMap (Kd.cells kapiAct)) fun p10 h11 =>
    (0 ≤ s7.1 ∧ s7.1 < (s1.2.2.1.len : Int)) ∧
    deref s1.2.2.1.a fun a12 =>
    ld (.sl : Kd) h11 (a12.add ((s7.1 : Int).toNat * 1)) fun t13 =>
    appendM 5 40 h11 ⟨some p10, 0, 0⟩ t13 fun t14 h15 =>
    new h15 (([(0, ((-77), (0, (0, (0, ())))))] : List (Den kapiAct)).flatMap (Kd.cells kapiAct)) fun p16 h17 =>
    appendM 5 40 h17 t14 ⟨some p16, 1, 1⟩ fun t18 h19 =>
    (0 ≤ s7.1 ∧ s7.1 < (s1.2.2.1.len : Int)) ∧
    deref s1.2.2.1.a fun a20 =>
    ld (.sl : Kd) h19 (a20.add ((s7.1 : Int).toNat * 1)) fun t21 =>
    (0 ≤ (t21.len : Int) ∧ (t21.len : Int) ≤ (t18.cap : Int)) ∧
    new h19 (([(t18.cut 0 (((t21.len : Int) : Int).toNat) 5)] : List (Den (.sl : Kd))).flatMap (Kd.cells (.sl : Kd))) fun p22 h23 =>
    appendM 1 24 h23 s7.2.1.2.2.1 ⟨some p22, 1, 1⟩ fun t24 h25 =>
    go9 ((w64 (s7.1 + 1)), (s7.2.1.1, (s7.2.1.2.1, (t24, ()))), ()) h25) ∧
    ((decide (s7.1 < (s1.2.2.1.len : Int))) = false →
    new h8 (([(-77)] : List (Den ((.int .i64) : Kd))).flatMap (Kd.cells ((.int .i64) : Kd))) fun p26 h27 =>
    appendM 1 8 h27 s7.2.1.2.1 ⟨some p26, 1, 1⟩ fun t28 h29 =>
    (0 ≤ (s1.2.1.len : Int) ∧ (s1.2.1.len : Int) ≤ (t28.cap : Int)) ∧
    new h29 (([(0, ((-77), (0, (0, (0, ())))))] : List (Den kapiAct)).flatMap (Kd.cells kapiAct)) fun p30 h31 =>
    new h31 (([⟨some p30, 1, 1⟩] : List (Den (.sl : Kd))).flatMap (Kd.cells (.sl : Kd))) fun p32 h33 =>
    appendM 1 24 h33 s7.2.1.2.2.1 ⟨some p32, 1, 1⟩ fun t34 h35 =>
    (0 ≤ (s1.2.2.1.len : Int) ∧ (s1.2.2.1.len : Int) ≤ (t34.cap : Int)) ∧
    Q (s7.2.1.1, ((t28.cut 0 (((s1.2.1.len : Int) : Int).toNat) 1), ((t34.cut 0 (((s1.2.2.1.len : Int) : Int).toNat) 1), ()))) h35))
def law22_copied.M  (s1 : Den kapiScene) (h2 : Heap) (Q : Den kapiScene → Heap → Prop) : Prop :=
    new h2 (([] : List (Den ((.int .i64) : Kd))).flatMap (Kd.cells ((.int .i64) : Kd))) fun p3 h4 =>
    appendM 1 8 h4 ⟨some p3, 0, 0⟩ s1.2.1 fun t5 h6 =>
    Loop (law22_copied.l1 s1 Q) (0, (s1.1, (t5, (Sl.none, ()))), ()) h6
def law22_copied.mk : Mk := (.s (.r [0, 1]) (.s (.q [7] [3] [.p 0, .p 3, .w 1 [1, 6, 8], .w 4 [4, 5, 6, 8], .o 2, .o 5, .p 6, .a 7, .o 8]) (.s (.s .d (.b (.l [.slot 4 (.int .i64), .box 3 kapiScene] (.s (.s .d (.c .d .d)) (.s (.b (.s .d (.s .d (.q [] [3] [.p 0, .p 2, .p 3, .p 5, .w 1 [1, 11, 12, 13], .w 4 [4, 6, 7, 8, 9, 10, 11, 12, 13], .p 6, .w 7 [7, 8, 9, 10, 11, 12, 13], .p 8, .p 9, .o 10, .o 11, .p 12, .o 13])))) .d))))) (.s .d (.s .d (.s .d (.s .d (.s .d .d))))))))

def law22_moved.l1 (c1 : Den kapiScene) (go12 : (Int × Unit) → Heap → Prop) (s10 : (Int × Unit)) (go15 : (Int × Unit) → Heap → Prop) (s13 : (Int × Unit)) (h14 : Heap) : Prop :=
    (0 ≤ s10.1 ∧ s10.1 < (c1.2.2.1.len : Int)) ∧
    deref c1.2.2.1.a fun a16 =>
    ld (.sl : Kd) h14 (a16.add ((s10.1 : Int).toNat * 1)) fun t17 =>
    (((decide (s13.1 < (t17.len : Int))) = true →
    (0 ≤ s10.1 ∧ s10.1 < (c1.2.2.1.len : Int)) ∧
    deref c1.2.2.1.a fun a18 =>
    ld (.sl : Kd) h14 (a18.add ((s10.1 : Int).toNat * 1)) fun t19 =>
    (0 ≤ s10.1 ∧ s10.1 < (c1.2.2.1.len : Int)) ∧
    deref c1.2.2.1.a fun a20 =>
    ld (.sl : Kd) h14 (a20.add ((s10.1 : Int).toNat * 1)) fun t21 =>
    (0 ≤ s13.1 ∧ s13.1 < (t21.len : Int)) ∧
    deref t21.a fun a22 =>
    ld ((.int .i64) : Kd) h14 ((a22.add ((s13.1 : Int).toNat * 5)).add 1) fun t23 =>
    (5 : Int) ≠ 0 ∧
    (0 ≤ s13.1 ∧ s13.1 < (t19.len : Int)) ∧
    deref t19.a fun a24 =>
    st ((.int .i64) : Kd) h14 ((a24.add ((s13.1 : Int).toNat * 5)).add 1) (Int.tmod (w64 (t23 + 1)) 5) fun h25 =>
    (0 ≤ s10.1 ∧ s10.1 < (c1.2.2.1.len : Int)) ∧
    deref c1.2.2.1.a fun a26 =>
    ld (.sl : Kd) h25 (a26.add ((s10.1 : Int).toNat * 1)) fun t27 =>
    (0 ≤ s10.1 ∧ s10.1 < (c1.2.2.1.len : Int)) ∧
    deref c1.2.2.1.a fun a28 =>
    ld (.sl : Kd) h25 (a28.add ((s10.1 : Int).toNat * 1)) fun t29 =>
    (0 ≤ s13.1 ∧ s13.1 < (t29.len : Int)) ∧
    deref t29.a fun a30 =>
    ld ((.int .i64) : Kd) h25 ((a30.add ((s13.1 : Int).toNat * 5)).add 3) fun t31 =>
    (0 ≤ s13.1 ∧ s13.1 < (t27.len : Int)) ∧
    deref t27.a fun a32 =>
    st ((.int .i64) : Kd) h25 ((a32.add ((s13.1 : Int).toNat * 5)).add 3) (w64 (t31 + 1)) fun h33 =>
    go15 ((w64 (s13.1 + 1)), ()) h33) ∧
    ((decide (s13.1 < (t17.len : Int))) = false →
    go12 ((w64 (s10.1 + 1)), ()) h14))
def law22_moved.l2 (c1 : Den kapiScene) (Q : Unit → Heap → Prop) (go12 : (Int × Unit) → Heap → Prop) (s10 : (Int × Unit)) (h11 : Heap) : Prop :=
    (((decide (s10.1 < (c1.2.2.1.len : Int))) = true →
    Loop (law22_moved.l1 c1 go12 s10) (0, ()) h11) ∧
    ((decide (s10.1 < (c1.2.2.1.len : Int))) = false →
    Q () h11))
def law22_moved.l3 (c1 : Den kapiScene) (Q : Unit → Heap → Prop) (go5 : (Int × Unit) → Heap → Prop) (s3 : (Int × Unit)) (h4 : Heap) : Prop :=
    (((decide (s3.1 < (c1.2.1.len : Int))) = true →
    (0 ≤ s3.1 ∧ s3.1 < (c1.2.1.len : Int)) ∧
    deref c1.2.1.a fun a6 =>
    ld ((.int .i64) : Kd) h4 (a6.add ((s3.1 : Int).toNat * 1)) fun t7 =>
    (0 ≤ s3.1 ∧ s3.1 < (c1.2.1.len : Int)) ∧
    deref c1.2.1.a fun a8 =>
    st ((.int .i64) : Kd) h4 (a8.add ((s3.1 : Int).toNat * 1)) (w64 (t7 + 1)) fun h9 =>
    go5 ((w64 (s3.1 + 1)), ()) h9) ∧
    ((decide (s3.1 < (c1.2.1.len : Int))) = false →
    Loop (law22_moved.l2 c1 Q) (0, ()) h4))
def law22_moved.M  (c1 : Den kapiScene) (h2 : Heap) (Q : Unit → Heap → Prop) : Prop :=
    Loop (law22_moved.l3 c1 Q) (0, ()) h2
def law22_moved.mk : Mk := (.s (.r [0]) (.s (.s .d (.b (.l [.slot 2 (.int .i64)] (.s (.s .d (.c .d .d)) (.s (.b (.q [] [] [.p 0, .p 2, .p 3, .p 5, .w 1 [1, 9, 10], .w 4 [4, 6, 7, 8, 9, 10], .p 6, .w 7 [7, 8, 9, 10], .p 8, .p 9, .o 10])) .d))))) (.s .d (.b (.l [.slot 3 (.int .i64)] (.s (.s .d (.c .d .d)) (.s (.b (.s .d (.b (.l [.slot 4 (.int .i64)] (.s (.s .d (.c .d .d)) (.s (.b (.s (.q [] [] [.p 0, .p 2, .p 5, .p 6, .p 8, .p 11, .w 1 [1, 3, 4, 17, 18, 19], .p 3, .w 4 [4, 17, 18, 19], .w 7 [7, 9, 10, 12, 13, 14, 15, 16, 17, 18, 19], .p 9, .w 10 [10, 12, 13, 14, 15, 16, 17, 18, 19], .p 12, .p 13, .w 14 [14, 15, 16, 17, 18, 19], .p 15, .p 16, .p 17, .p 18, .o 19]) (.q [] [] [.p 0, .p 2, .p 5, .p 6, .p 8, .p 11, .w 1 [1, 3, 4, 16, 17, 18], .p 3, .w 4 [4, 16, 17, 18], .w 7 [7, 9, 10, 12, 13, 14, 15, 16, 17, 18], .p 9, .w 10 [10, 12, 13, 14, 15, 16, 17, 18], .p 12, .p 13, .w 14 [14, 15, 16, 17, 18], .p 15, .p 16, .p 17, .o 18]))) .d)))))) .d)))))))

def explore_Depends.j1 (c_explore_touches : Den kapiScene → Den kapiAct → Heap → (Bool → Heap → Prop) → Prop) (s1 : Den kapiScene) (x2 : Den kapiAct) (y3 : Den kapiAct) (Q : Bool → Heap → Prop) (s5 : Unit) (h6 : Heap) : Prop :=
    c_explore_touches (s1.1, (s1.2.1, (s1.2.2.1, ()))) (x2.1, (x2.2.1, (x2.2.2.1, (x2.2.2.2.1, (x2.2.2.2.2.1, ()))))) h6 fun r7 h8 =>
    ((r7 = true →
    c_explore_touches (s1.1, (s1.2.1, (s1.2.2.1, ()))) (y3.1, (y3.2.1, (y3.2.2.1, (y3.2.2.2.1, (y3.2.2.2.2.1, ()))))) h8 fun r9 h10 =>
    ((r9 = true →
    (((decide (x2.2.2.1 = y3.2.2.1)) = true →
    (((decide (x2.2.1 ≠ 0)) = true →
    Q true h10) ∧
    ((decide (x2.2.1 ≠ 0)) = false →
    Q (decide (y3.2.1 ≠ 0)) h10))) ∧
    ((decide (x2.2.2.1 = y3.2.2.1)) = false →
    Q false h10))) ∧
    (r9 = false →
    Q false h10))) ∧
    (r7 = false →
    Q false h8))
def explore_Depends.j2 (c_explore_gives : Den kapiAct → Heap → (Bool → Heap → Prop) → Prop) (c_explore_touches : Den kapiScene → Den kapiAct → Heap → (Bool → Heap → Prop) → Prop) (s1 : Den kapiScene) (x2 : Den kapiAct) (y3 : Den kapiAct) (Q : Bool → Heap → Prop) (s11 : (Bool × Unit)) (h12 : Heap) : Prop :=
    ((s11.1 = true →
    Q true h12) ∧
    (s11.1 = false →
    c_explore_gives (x2.1, (x2.2.1, (x2.2.2.1, (x2.2.2.2.1, (x2.2.2.2.2.1, ()))))) h12 fun r13 h14 =>
    ((r13 = true →
    c_explore_touches (s1.1, (s1.2.1, (s1.2.2.1, ()))) (y3.1, (y3.2.1, (y3.2.2.1, (y3.2.2.2.1, (y3.2.2.2.2.1, ()))))) h14 fun r15 h16 =>
    ((r15 = true →
    Q (decide ((s1.2.1.len : Int) ≤ y3.2.2.1)) h16) ∧
    (r15 = false →
    Q false h16))) ∧
    (r13 = false →
    c_explore_gives (y3.1, (y3.2.1, (y3.2.2.1, (y3.2.2.2.1, (y3.2.2.2.2.1, ()))))) h14 fun r17 h18 =>
    ((r17 = true →
    c_explore_touches (s1.1, (s1.2.1, (s1.2.2.1, ()))) (x2.1, (x2.2.1, (x2.2.2.1, (x2.2.2.2.1, (x2.2.2.2.2.1, ()))))) h18 fun r19 h20 =>
    ((r19 = true →
    Q (decide ((s1.2.1.len : Int) ≤ x2.2.2.1)) h20) ∧
    (r19 = false →
    Q false h20))) ∧
    (r17 = false →
    explore_Depends.j1 c_explore_touches s1 x2 y3 Q () h18))))))
def explore_Depends.M (c_explore_gives : Den kapiAct → Heap → (Bool → Heap → Prop) → Prop) (c_explore_touches : Den kapiScene → Den kapiAct → Heap → (Bool → Heap → Prop) → Prop) (s1 : Den kapiScene) (x2 : Den kapiAct) (y3 : Den kapiAct) (h4 : Heap) (Q : Bool → Heap → Prop) : Prop :=
    c_explore_gives (x2.1, (x2.2.1, (x2.2.2.1, (x2.2.2.2.1, (x2.2.2.2.2.1, ()))))) h4 fun r21 h22 =>
    ((r21 = true →
    c_explore_gives (y3.1, (y3.2.1, (y3.2.2.1, (y3.2.2.2.1, (y3.2.2.2.2.1, ()))))) h22 fun r23 h24 =>
    explore_Depends.j2 c_explore_gives c_explore_touches s1 x2 y3 Q (r23, ()) h24) ∧
    (r21 = false →
    explore_Depends.j2 c_explore_gives c_explore_touches s1 x2 y3 Q (false, ()) h22))
def explore_Depends.mk : Mk := (.s (.r [0, 1, 2]) (.j [] (.b (.j [.slot 7 .bool] .d (.c (.s .d .d) (.s .d (.c (.s .d .d) (.s .d (.c (.s .d .d) .d))))))) (.s .d .d)))

def law22_back.l1 (c1 : Den kapiScene) (s2 : Den kapiScene) (go13 : (Int × Unit) → Heap → Prop) (s11 : (Int × Unit)) (go16 : (Int × Unit) → Heap → Prop) (s14 : (Int × Unit)) (h15 : Heap) : Prop :=
    (0 ≤ s11.1 ∧ s11.1 < (s2.2.2.1.len : Int)) ∧
    deref s2.2.2.1.a fun a17 =>
    ld (.sl : Kd) h15 (a17.add ((s11.1 : Int).toNat * 1)) fun t18 =>
    (((decide (s14.1 < (t18.len : Int))) = true →
    (0 ≤ s11.1 ∧ s11.1 < (c1.2.2.1.len : Int)) ∧
    deref c1.2.2.1.a fun a19 =>
    ld (.sl : Kd) h15 (a19.add ((s11.1 : Int).toNat * 1)) fun t20 =>
    (0 ≤ s11.1 ∧ s11.1 < (s2.2.2.1.len : Int)) ∧
    deref s2.2.2.1.a fun a21 =>
    ld (.sl : Kd) h15 (a21.add ((s11.1 : Int).toNat * 1)) fun t22 =>
    (0 ≤ s14.1 ∧ s14.1 < (t22.len : Int)) ∧
    deref t22.a fun a23 =>
    ld kapiAct h15 (a23.add ((s14.1 : Int).toNat * 5)) fun t24 =>
    (0 ≤ s14.1 ∧ s14.1 < (t20.len : Int)) ∧
    deref t20.a fun a25 =>
    st kapiAct h15 (a25.add ((s14.1 : Int).toNat * 5)) t24 fun h26 =>
    go16 ((w64 (s14.1 + 1)), ()) h26) ∧
    ((decide (s14.1 < (t18.len : Int))) = false →
    go13 ((w64 (s11.1 + 1)), ()) h15))
def law22_back.l2 (c1 : Den kapiScene) (s2 : Den kapiScene) (Q : Unit → Heap → Prop) (go13 : (Int × Unit) → Heap → Prop) (s11 : (Int × Unit)) (h12 : Heap) : Prop :=
    (((decide (s11.1 < (s2.2.2.1.len : Int))) = true →
    Loop (law22_back.l1 c1 s2 go13 s11) (0, ()) h12) ∧
    ((decide (s11.1 < (s2.2.2.1.len : Int))) = false →
    Q () h12))
def law22_back.l3 (c1 : Den kapiScene) (s2 : Den kapiScene) (Q : Unit → Heap → Prop) (go6 : (Int × Unit) → Heap → Prop) (s4 : (Int × Unit)) (h5 : Heap) : Prop :=
    (((decide (s4.1 < (s2.2.1.len : Int))) = true →
    (0 ≤ s4.1 ∧ s4.1 < (s2.2.1.len : Int)) ∧
    deref s2.2.1.a fun a7 =>
    ld ((.int .i64) : Kd) h5 (a7.add ((s4.1 : Int).toNat * 1)) fun t8 =>
    (0 ≤ s4.1 ∧ s4.1 < (c1.2.1.len : Int)) ∧
    deref c1.2.1.a fun a9 =>
    st ((.int .i64) : Kd) h5 (a9.add ((s4.1 : Int).toNat * 1)) t8 fun h10 =>
    go6 ((w64 (s4.1 + 1)), ()) h10) ∧
    ((decide (s4.1 < (s2.2.1.len : Int))) = false →
    Loop (law22_back.l2 c1 s2 Q) (0, ()) h5))
def law22_back.M  (c1 : Den kapiScene) (s2 : Den kapiScene) (h3 : Heap) (Q : Unit → Heap → Prop) : Prop :=
    Loop (law22_back.l3 c1 s2 Q) (0, ()) h3
def law22_back.mk : Mk := (.s (.r [0, 1]) (.s (.s .d (.b (.l [.slot 4 (.int .i64)] (.s (.s .d (.c .d .d)) (.s (.b (.q [] [] [.p 0, .p 2, .p 3, .p 5, .w 1 [1, 8, 9], .w 4 [4, 6, 7, 8, 9], .p 6, .w 7 [7, 8, 9], .p 8, .o 9])) .d))))) (.s .d (.b (.l [.slot 5 (.int .i64)] (.s (.s .d (.c .d .d)) (.s (.b (.s .d (.b (.l [.slot 6 (.int .i64)] (.s (.s .d (.c .d .d)) (.s (.b (.q [] [] [.p 0, .p 2, .p 5, .p 6, .p 8, .p 11, .w 1 [1, 3, 4, 14, 15], .p 3, .w 4 [4, 14, 15], .w 7 [7, 9, 10, 12, 13, 14, 15], .p 9, .w 10 [10, 12, 13, 14, 15], .p 12, .w 13 [13, 14, 15], .p 14, .o 15])) .d)))))) .d)))))))

def ref22_Depends.j1 (c_ref22_makes : Den kapiAct → Heap → (Bool → Heap → Prop) → Prop) (s1 : Den kapiScene) (x2 : Den kapiAct) (y3 : Den kapiAct) (Q : Bool → Heap → Prop) (r5 : Int) (r7 : Int) (s11 : Unit) (h12 : Heap) : Prop :=
    c_ref22_makes (x2.1, (x2.2.1, (x2.2.2.1, (x2.2.2.2.1, (x2.2.2.2.2.1, ()))))) h12 fun r13 h14 =>
    ((r13 = true →
    (((decide ((s1.2.1.len : Int) ≤ r7)) = true →
    (((decide ((0 : Int) ≤ r7)) = true →
    Q true h14) ∧
    ((decide ((0 : Int) ≤ r7)) = false →
    c_ref22_makes (y3.1, (y3.2.1, (y3.2.2.1, (y3.2.2.2.1, (y3.2.2.2.2.1, ()))))) h14 fun r15 h16 =>
    ((r15 = true →
    (((decide ((s1.2.1.len : Int) ≤ r5)) = true →
    Q (decide ((0 : Int) ≤ r5)) h16) ∧
    ((decide ((s1.2.1.len : Int) ≤ r5)) = false →
    Q false h16))) ∧
    (r15 = false →
    Q false h16))))) ∧
    ((decide ((s1.2.1.len : Int) ≤ r7)) = false →
    c_ref22_makes (y3.1, (y3.2.1, (y3.2.2.1, (y3.2.2.2.1, (y3.2.2.2.2.1, ()))))) h14 fun r17 h18 =>
    ((r17 = true →
    (((decide ((s1.2.1.len : Int) ≤ r5)) = true →
    Q (decide ((0 : Int) ≤ r5)) h18) ∧
    ((decide ((s1.2.1.len : Int) ≤ r5)) = false →
    Q false h18))) ∧
    (r17 = false →
    Q false h18))))) ∧
    (r13 = false →
    c_ref22_makes (y3.1, (y3.2.1, (y3.2.2.1, (y3.2.2.2.1, (y3.2.2.2.2.1, ()))))) h14 fun r19 h20 =>
    ((r19 = true →
    (((decide ((s1.2.1.len : Int) ≤ r5)) = true →
    Q (decide ((0 : Int) ≤ r5)) h20) ∧
    ((decide ((s1.2.1.len : Int) ≤ r5)) = false →
    Q false h20))) ∧
    (r19 = false →
    Q false h20))))
def ref22_Depends.j2 (c_ref22_makes : Den kapiAct → Heap → (Bool → Heap → Prop) → Prop) (s1 : Den kapiScene) (x2 : Den kapiAct) (y3 : Den kapiAct) (Q : Bool → Heap → Prop) (r5 : Int) (r7 : Int) (s21 : (Bool × Unit)) (h22 : Heap) : Prop :=
    ((s21.1 = true →
    Q true h22) ∧
    (s21.1 = false →
    ref22_Depends.j1 c_ref22_makes s1 x2 y3 Q r5 r7 () h22))
def ref22_Depends.j3 (c_ref22_makes : Den kapiAct → Heap → (Bool → Heap → Prop) → Prop) (s1 : Den kapiScene) (x2 : Den kapiAct) (y3 : Den kapiAct) (Q : Bool → Heap → Prop) (r5 : Int) (r7 : Int) (s9 : Unit) (h10 : Heap) : Prop :=
    c_ref22_makes (x2.1, (x2.2.1, (x2.2.2.1, (x2.2.2.2.1, (x2.2.2.2.2.1, ()))))) h10 fun r23 h24 =>
    ((r23 = true →
    c_ref22_makes (y3.1, (y3.2.1, (y3.2.2.1, (y3.2.2.2.1, (y3.2.2.2.2.1, ()))))) h24 fun r25 h26 =>
    ref22_Depends.j2 c_ref22_makes s1 x2 y3 Q r5 r7 (r25, ()) h26) ∧
    (r23 = false →
    ref22_Depends.j2 c_ref22_makes s1 x2 y3 Q r5 r7 (false, ()) h24))
def ref22_Depends.j4 (c_ref22_makes : Den kapiAct → Heap → (Bool → Heap → Prop) → Prop) (s1 : Den kapiScene) (x2 : Den kapiAct) (y3 : Den kapiAct) (Q : Bool → Heap → Prop) (r5 : Int) (r7 : Int) (s27 : (Bool × Unit)) (h28 : Heap) : Prop :=
    ((s27.1 = true →
    (((decide (x2.2.1 ≠ 0)) = true →
    Q true h28) ∧
    ((decide (x2.2.1 ≠ 0)) = false →
    Q (decide (y3.2.1 ≠ 0)) h28))) ∧
    (s27.1 = false →
    ref22_Depends.j3 c_ref22_makes s1 x2 y3 Q r5 r7 () h28))
def ref22_Depends.M (c_ref22_cell : Den kapiScene → Den kapiAct → Heap → (Int → Heap → Prop) → Prop) (c_ref22_makes : Den kapiAct → Heap → (Bool → Heap → Prop) → Prop) (s1 : Den kapiScene) (x2 : Den kapiAct) (y3 : Den kapiAct) (h4 : Heap) (Q : Bool → Heap → Prop) : Prop :=
    c_ref22_cell (s1.1, (s1.2.1, (s1.2.2.1, ()))) (x2.1, (x2.2.1, (x2.2.2.1, (x2.2.2.2.1, (x2.2.2.2.2.1, ()))))) h4 fun r5 h6 =>
    c_ref22_cell (s1.1, (s1.2.1, (s1.2.2.1, ()))) (y3.1, (y3.2.1, (y3.2.2.1, (y3.2.2.2.1, (y3.2.2.2.2.1, ()))))) h6 fun r7 h8 =>
    (((decide ((0 : Int) ≤ r5)) = true →
    ref22_Depends.j4 c_ref22_makes s1 x2 y3 Q r5 r7 ((decide (r5 = r7)), ()) h8) ∧
    ((decide ((0 : Int) ≤ r5)) = false →
    ref22_Depends.j4 c_ref22_makes s1 x2 y3 Q r5 r7 (false, ()) h8))
def ref22_Depends.mk : Mk := (.s (.r [0, 1, 2]) (.s .d (.s .d (.j [] (.j [.slot 21 .bool] .d (.c (.s .d .d) .d)) (.j [] (.j [.slot 35 .bool] .d (.c (.s .d .d) .d)) (.s .d .d))))))

def law22_alike.l1 (a1 : Den kapiScene) (b2 : Den kapiScene) (Q : Bool → Heap → Prop) (go8 : (Int × Unit) → Heap → Prop) (s6 : (Int × Unit)) (go15 : (Int × Unit) → Heap → Prop) (s13 : (Int × Unit)) (h14 : Heap) : Prop :=
    (0 ≤ s6.1 ∧ s6.1 < (a1.2.2.1.len : Int)) ∧
    deref a1.2.2.1.a fun a16 =>
    ld (.sl : Kd) h14 (a16.add ((s6.1 : Int).toNat * 1)) fun t17 =>
    (((decide (s13.1 < (t17.len : Int))) = true →
    (0 ≤ s6.1 ∧ s6.1 < (a1.2.2.1.len : Int)) ∧
    deref a1.2.2.1.a fun a18 =>
    ld (.sl : Kd) h14 (a18.add ((s6.1 : Int).toNat * 1)) fun t19 =>
    (0 ≤ s13.1 ∧ s13.1 < (t19.len : Int)) ∧
    deref t19.a fun a20 =>
    ld kapiAct h14 (a20.add ((s13.1 : Int).toNat * 5)) fun t21 =>
    (0 ≤ s6.1 ∧ s6.1 < (b2.2.2.1.len : Int)) ∧
    deref b2.2.2.1.a fun a22 =>
    ld (.sl : Kd) h14 (a22.add ((s6.1 : Int).toNat * 1)) fun t23 =>
    (0 ≤ s13.1 ∧ s13.1 < (t23.len : Int)) ∧
    deref t23.a fun a24 =>
    ld kapiAct h14 (a24.add ((s13.1 : Int).toNat * 5)) fun t25 =>
    (((!(eqK kapiAct t21 t25)) = true →
    Q false h14) ∧
    ((!(eqK kapiAct t21 t25)) = false →
    go15 ((w64 (s13.1 + 1)), ()) h14))) ∧
    ((decide (s13.1 < (t17.len : Int))) = false →
    go8 ((w64 (s6.1 + 1)), ()) h14))
def law22_alike.l2 (a1 : Den kapiScene) (b2 : Den kapiScene) (Q : Bool → Heap → Prop) (go8 : (Int × Unit) → Heap → Prop) (s6 : (Int × Unit)) (h7 : Heap) : Prop :=
    (((decide (s6.1 < (a1.2.2.1.len : Int))) = true →
    (0 ≤ s6.1 ∧ s6.1 < (a1.2.2.1.len : Int)) ∧
    deref a1.2.2.1.a fun a9 =>
    ld (.sl : Kd) h7 (a9.add ((s6.1 : Int).toNat * 1)) fun t10 =>
    (0 ≤ s6.1 ∧ s6.1 < (b2.2.2.1.len : Int)) ∧
    deref b2.2.2.1.a fun a11 =>
    ld (.sl : Kd) h7 (a11.add ((s6.1 : Int).toNat * 1)) fun t12 =>
    (((decide ((t10.len : Int) ≠ (t12.len : Int))) = true →
    Q false h7) ∧
    ((decide ((t10.len : Int) ≠ (t12.len : Int))) = false →
    Loop (law22_alike.l1 a1 b2 Q go8 s6) (0, ()) h7))) ∧
    ((decide (s6.1 < (a1.2.2.1.len : Int))) = false →
    Q true h7))
def law22_alike.j3 (a1 : Den kapiScene) (b2 : Den kapiScene) (Q : Bool → Heap → Prop) (s4 : Unit) (h5 : Heap) : Prop :=
    Loop (law22_alike.l2 a1 b2 Q) (0, ()) h5
def law22_alike.j4 (a1 : Den kapiScene) (b2 : Den kapiScene) (Q : Bool → Heap → Prop) (s26 : (Bool × Unit)) (h27 : Heap) : Prop :=
    ((s26.1 = true →
    Q false h27) ∧
    (s26.1 = false →
    law22_alike.j3 a1 b2 Q () h27))
def law22_alike.M (c_law22_marked : Den kapiScene → Heap → (Bool → Heap → Prop) → Prop) (c_law22_sameCells : Sl → Sl → Heap → (Bool → Heap → Prop) → Prop) (a1 : Den kapiScene) (b2 : Den kapiScene) (h3 : Heap) (Q : Bool → Heap → Prop) : Prop :=
    c_law22_marked (a1.1, (a1.2.1, (a1.2.2.1, ()))) h3 fun r28 h29 =>
    (((!r28) = true →
    law22_alike.j4 a1 b2 Q (true, ()) h29) ∧
    ((!r28) = false →
    (((decide (a1.1 ≠ b2.1)) = true →
    law22_alike.j4 a1 b2 Q (true, ()) h29) ∧
    ((decide (a1.1 ≠ b2.1)) = false →
    c_law22_sameCells a1.2.1 b2.2.1 h29 fun r30 h31 =>
    (((!r30) = true →
    law22_alike.j4 a1 b2 Q (true, ()) h31) ∧
    ((!r30) = false →
    law22_alike.j4 a1 b2 Q ((decide ((a1.2.2.1.len : Int) ≠ (b2.2.2.1.len : Int))), ()) h31))))))
def law22_alike.mk : Mk := (.s (.r [0, 1]) (.j [] (.j [.slot 33 .bool] .d (.c (.s .d .d) .d)) (.s (.s .d (.b (.l [.slot 5 (.int .i64)] (.s (.s .d (.c .d .d)) (.s (.b (.s (.s (.q [] [] [.p 0, .p 2, .p 6, .p 8, .w 1 [1, 3, 4, 5, 12], .p 3, .w 4 [4, 5, 12], .p 5, .w 7 [7, 9, 10, 11, 12], .p 9, .w 10 [10, 11, 12], .p 11, .p 12]) (.c (.s .d .d) .d)) (.s .d (.b (.l [.slot 6 (.int .i64)] (.s (.s .d (.c .d .d)) (.s (.b (.s (.q [] [] [.p 0, .p 2, .p 5, .p 8, .p 10, .p 13, .w 1 [1, 3, 4, 6, 7, 16], .p 3, .w 4 [4, 6, 7, 16], .p 6, .w 7 [7, 16], .w 9 [9, 11, 12, 14, 15, 16], .p 11, .w 12 [12, 14, 15, 16], .p 14, .w 15 [15, 16], .p 16]) (.c (.s .d .d) .d))) .d))))))) .d))))) (.s .d .d))))

def explore_Check.j1 (go19 : (Int × Unit) → Heap → Prop) (s17 : (Int × Unit)) (s20 : Unit) (h21 : Heap) : Prop :=
    go19 ((w64 (s17.1 + 1)), ()) h21
def explore_Check.j2 (Q : Int → Heap → Prop) (go19 : (Int × Unit) → Heap → Prop) (s17 : (Int × Unit)) (s24 : (Bool × Unit)) (h25 : Heap) : Prop :=
    ((s24.1 = true →
    Q 23 h25) ∧
    (s24.1 = false →
    explore_Check.j1 go19 s17 () h25))
def explore_Check.l3 (Q : Int → Heap → Prop) (go14 : (Int × Unit) → Heap → Prop) (s12 : (Int × Unit)) (t16 : Sl) (go19 : (Int × Unit) → Heap → Prop) (s17 : (Int × Unit)) (h18 : Heap) : Prop :=
    (((decide (s17.1 < (t16.len : Int))) = true →
    (0 ≤ s17.1 ∧ s17.1 < (t16.len : Int)) ∧
    deref t16.a fun a22 =>
    ld kapiAct h18 (a22.add ((s17.1 : Int).toNat * 5)) fun t23 =>
    (((decide (t23.2.1 < 0)) = true →
    explore_Check.j2 Q go19 s17 (true, ()) h18) ∧
    ((decide (t23.2.1 < 0)) = false →
    explore_Check.j2 Q go19 s17 ((decide ((4 : Int) < t23.2.1)), ()) h18))) ∧
    ((decide (s17.1 < (t16.len : Int))) = false →
    go14 ((w64 (s12.1 + 1)), ()) h18))
def explore_Check.l4 (s1 : Den kapiScene) (Q : Int → Heap → Prop) (go14 : (Int × Unit) → Heap → Prop) (s12 : (Int × Unit)) (h13 : Heap) : Prop :=
    (((decide (s12.1 < (s1.2.2.1.len : Int))) = true →
    (0 ≤ s12.1 ∧ s12.1 < (s1.2.2.1.len : Int)) ∧
    deref s1.2.2.1.a fun a15 =>
    ld (.sl : Kd) h13 (a15.add ((s12.1 : Int).toNat * 1)) fun t16 =>
    Loop (explore_Check.l3 Q go14 s12 t16) (0, ()) h13) ∧
    ((decide (s12.1 < (s1.2.2.1.len : Int))) = false →
    Q 0 h13))
def explore_Check.j5 (s1 : Den kapiScene) (Q : Int → Heap → Prop) (s10 : Unit) (h11 : Heap) : Prop :=
    Loop (explore_Check.l4 s1 Q) (0, ()) h11
def explore_Check.j6 (s1 : Den kapiScene) (Q : Int → Heap → Prop) (s26 : (Bool × Unit)) (h27 : Heap) : Prop :=
    ((s26.1 = true →
    Q 2 h27) ∧
    (s26.1 = false →
    explore_Check.j5 s1 Q () h27))
def explore_Check.l7 (s1 : Den kapiScene) (Q : Int → Heap → Prop) (go7 : Den kcellsledger → Heap → Prop) (s5 : Den kcellsledger) (h6 : Heap) : Prop :=
    (((decide (s5.2.1 < (s1.2.2.1.len : Int))) = true →
    (0 ≤ s5.2.1 ∧ s5.2.1 < (s1.2.2.1.len : Int)) ∧
    deref s1.2.2.1.a fun a8 =>
    ld (.sl : Kd) h6 (a8.add ((s5.2.1 : Int).toNat * 1)) fun t9 =>
    go7 ((w64 (s5.1 + (t9.len : Int))), (w64 (s5.2.1 + 1)), ()) h6) ∧
    ((decide (s5.2.1 < (s1.2.2.1.len : Int))) = false →
    (((decide (s1.1 < (s1.2.1.len : Int))) = true →
    explore_Check.j6 s1 Q (true, ()) h6) ∧
    ((decide (s1.1 < (s1.2.1.len : Int))) = false →
    (((decide ((4 : Int) < (s1.2.2.1.len : Int))) = true →
    explore_Check.j6 s1 Q (true, ()) h6) ∧
    ((decide ((4 : Int) < (s1.2.2.1.len : Int))) = false →
    explore_Check.j6 s1 Q ((decide ((10 : Int) < s5.1)), ()) h6))))))
def explore_Check.j8 (s1 : Den kapiScene) (Q : Int → Heap → Prop) (s3 : Unit) (h4 : Heap) : Prop :=
    Loop (explore_Check.l7 s1 Q) (0, 0, ()) h4
def explore_Check.j9 (s1 : Den kapiScene) (Q : Int → Heap → Prop) (s28 : (Bool × Unit)) (h29 : Heap) : Prop :=
    ((s28.1 = true →
    Q 3 h29) ∧
    (s28.1 = false →
    explore_Check.j8 s1 Q () h29))
def explore_Check.M  (s1 : Den kapiScene) (h2 : Heap) (Q : Int → Heap → Prop) : Prop :=
    (((decide (s1.1 < 0)) = true →
    explore_Check.j9 s1 Q (true, ()) h2) ∧
    ((decide (s1.1 < 0)) = false →
    explore_Check.j9 s1 Q ((decide ((64 : Int) < s1.1)), ()) h2))
def explore_Check.mk : Mk := (.s (.r [0]) (.j [] (.j [.slot 17 .bool] .d (.c (.s .d .d) .d)) (.s .d (.s (.s .d (.b (.l [.slot 3 (.int .i64), .slot 21 (.int .i64)] (.s .d (.s (.c .d .d) (.s (.b (.s .d .d)) .d)))))) (.j [] (.j [.slot 45 .bool] .d (.c (.s .d .d) .d)) (.s (.s .d (.b (.l [.slot 49 (.int .i64)] (.s .d (.s (.c .d .d) (.s (.b (.s .d (.s .d (.b (.l [.slot 55 (.int .i64)] (.s .d (.s (.c .d .d) (.j [] (.b (.s (.r [2]) (.j [.slot 66 .bool] .d (.c (.s .d .d) .d)))) .d)))))))) .d)))))) (.s .d .d)))))))

def ref22_Check.j1 (go12 : (Int × Unit) → Heap → Prop) (s10 : (Int × Unit)) (s15 : Unit) (h16 : Heap) : Prop :=
    go12 ((w64 (s10.1 + 1)), ()) h16
def ref22_Check.j2 (Q : Int → Heap → Prop) (go12 : (Int × Unit) → Heap → Prop) (s10 : (Int × Unit)) (s21 : (Bool × Unit)) (h22 : Heap) : Prop :=
    ((s21.1 = true →
    Q 23 h22) ∧
    (s21.1 = false →
    ref22_Check.j1 go12 s10 () h22))
def ref22_Check.l3 (s1 : Den kapiScene) (Q : Int → Heap → Prop) (go9 : (Int × Unit) → Heap → Prop) (s7 : (Int × Unit)) (go12 : (Int × Unit) → Heap → Prop) (s10 : (Int × Unit)) (h11 : Heap) : Prop :=
    (0 ≤ s7.1 ∧ s7.1 < (s1.2.2.1.len : Int)) ∧
    deref s1.2.2.1.a fun a13 =>
    ld (.sl : Kd) h11 (a13.add ((s7.1 : Int).toNat * 1)) fun t14 =>
    (((decide (s10.1 < (t14.len : Int))) = true →
    (0 ≤ s7.1 ∧ s7.1 < (s1.2.2.1.len : Int)) ∧
    deref s1.2.2.1.a fun a17 =>
    ld (.sl : Kd) h11 (a17.add ((s7.1 : Int).toNat * 1)) fun t18 =>
    (0 ≤ s10.1 ∧ s10.1 < (t18.len : Int)) ∧
    deref t18.a fun a19 =>
    ld ((.int .i64) : Kd) h11 ((a19.add ((s10.1 : Int).toNat * 5)).add 1) fun t20 =>
    (((decide (t20 < 0)) = true →
    ref22_Check.j2 Q go12 s10 (true, ()) h11) ∧
    ((decide (t20 < 0)) = false →
    ref22_Check.j2 Q go12 s10 ((decide ((4 : Int) < t20)), ()) h11))) ∧
    ((decide (s10.1 < (t14.len : Int))) = false →
    go9 ((w64 (s7.1 + 1)), ()) h11))
def ref22_Check.l4 (s1 : Den kapiScene) (Q : Int → Heap → Prop) (go9 : (Int × Unit) → Heap → Prop) (s7 : (Int × Unit)) (h8 : Heap) : Prop :=
    (((decide (s7.1 < (s1.2.2.1.len : Int))) = true →
    Loop (ref22_Check.l3 s1 Q go9 s7) (0, ()) h8) ∧
    ((decide (s7.1 < (s1.2.2.1.len : Int))) = false →
    Q 0 h8))
def ref22_Check.j5 (s1 : Den kapiScene) (Q : Int → Heap → Prop) (s5 : Unit) (h6 : Heap) : Prop :=
    Loop (ref22_Check.l4 s1 Q) (0, ()) h6
def ref22_Check.j6 (s1 : Den kapiScene) (Q : Int → Heap → Prop) (s23 : (Bool × Unit)) (h24 : Heap) : Prop :=
    ((s23.1 = true →
    Q 2 h24) ∧
    (s23.1 = false →
    ref22_Check.j5 s1 Q () h24))
def ref22_Check.j7 (c_ref22_acts : Den kapiScene → Heap → (Int → Heap → Prop) → Prop) (s1 : Den kapiScene) (Q : Int → Heap → Prop) (s3 : Unit) (h4 : Heap) : Prop :=
    (((decide (s1.1 < (s1.2.1.len : Int))) = true →
    ref22_Check.j6 s1 Q (true, ()) h4) ∧
    ((decide (s1.1 < (s1.2.1.len : Int))) = false →
    (((decide ((4 : Int) < (s1.2.2.1.len : Int))) = true →
    ref22_Check.j6 s1 Q (true, ()) h4) ∧
    ((decide ((4 : Int) < (s1.2.2.1.len : Int))) = false →
    c_ref22_acts (s1.1, (s1.2.1, (s1.2.2.1, ()))) h4 fun r25 h26 =>
    ref22_Check.j6 s1 Q ((decide ((10 : Int) < r25)), ()) h26))))
def ref22_Check.j8 (c_ref22_acts : Den kapiScene → Heap → (Int → Heap → Prop) → Prop) (s1 : Den kapiScene) (Q : Int → Heap → Prop) (s27 : (Bool × Unit)) (h28 : Heap) : Prop :=
    ((s27.1 = true →
    Q 3 h28) ∧
    (s27.1 = false →
    ref22_Check.j7 c_ref22_acts s1 Q () h28))
def ref22_Check.M (c_ref22_acts : Den kapiScene → Heap → (Int → Heap → Prop) → Prop) (s1 : Den kapiScene) (h2 : Heap) (Q : Int → Heap → Prop) : Prop :=
    (((decide (s1.1 < 0)) = true →
    ref22_Check.j8 c_ref22_acts s1 Q (true, ()) h2) ∧
    ((decide (s1.1 < 0)) = false →
    ref22_Check.j8 c_ref22_acts s1 Q ((decide ((64 : Int) < s1.1)), ()) h2))
def ref22_Check.mk : Mk := (.s (.r [0]) (.j [] (.j [.slot 13 .bool] .d (.c (.s .d .d) .d)) (.j [] (.j [.slot 30 .bool] .d (.c (.s .d .d) .d)) (.s (.s .d (.b (.l [.slot 3 (.int .i64)] (.s (.s .d (.c .d .d)) (.s (.b (.s .d (.b (.l [.slot 4 (.int .i64)] (.s (.s .d (.c .d .d)) (.j [] (.b (.s .d (.j [.slot 62 .bool] .d (.c (.s .d .d) .d)))) .d)))))) .d))))) (.s .d .d)))))

def law22_turned.l1 (list1 : Sl) (Q : Sl → Heap → Prop) (go5 : (Sl × (Int × Unit)) → Heap → Prop) (s3 : (Sl × (Int × Unit))) (h4 : Heap) : Prop :=
    (((decide (s3.2.1 < (list1.len : Int))) = true →
    (0 ≤ (w64 ((w64 ((list1.len : Int) - 1)) - s3.2.1)) ∧ (w64 ((w64 ((list1.len : Int) - 1)) - s3.2.1)) < (list1.len : Int)) ∧
    deref list1.a fun a6 =>
    ld ((.int .i64) : Kd) h4 (a6.add (((w64 ((w64 ((list1.len : Int) - 1)) - s3.2.1)) : Int).toNat * 1)) fun t7 =>
    new h4 (([t7] : List (Den ((.int .i64) : Kd))).flatMap (Kd.cells ((.int .i64) : Kd))) fun p8 h9 =>
    appendM 1 8 h9 s3.1 ⟨some p8, 1, 1⟩ fun t10 h11 =>
    go5 (t10, (w64 (s3.2.1 + 1)), ()) h11) ∧
    ((decide (s3.2.1 < (list1.len : Int))) = false →
    new h4 (([(-77)] : List (Den ((.int .i64) : Kd))).flatMap (Kd.cells ((.int .i64) : Kd))) fun p12 h13 =>
    appendM 1 8 h13 s3.1 ⟨some p12, 1, 1⟩ fun t14 h15 =>
    (0 ≤ (list1.len : Int) ∧ (list1.len : Int) ≤ (t14.cap : Int)) ∧
    Q (t14.cut 0 (((list1.len : Int) : Int).toNat) 1) h15))
def law22_turned.M  (list1 : Sl) (h2 : Heap) (Q : Sl → Heap → Prop) : Prop :=
    Loop (law22_turned.l1 list1 Q) (⟨none, 0, 0⟩, 0, ()) h2
def law22_turned.mk : Mk := (.s .d (.s .d (.s (.s .d (.b (.l [.slot 3 .sl, .slot 4 (.int .i64)] (.s (.s .d (.c .d .d)) (.s (.b .d) .d))))) (.s .d (.s .d .d)))))

def explore_Kin.j1 (go17 : (Int × (((Fin 4 → Int) × Unit) × (((Fin 4 → Int) × Unit) × Unit))) → Heap → Prop) (s15 : (Int × (((Fin 4 → Int) × Unit) × (((Fin 4 → Int) × Unit) × Unit)))) (s18 : (((Fin 4 → Int) × Unit) × (((Fin 4 → Int) × Unit) × Unit))) (h19 : Heap) : Prop :=
    go17 ((w64 (s15.1 + 1)), (s18.1.1, ()), (s18.2.1.1, ()), ()) h19
def explore_Kin.j2 (go17 : (Int × (((Fin 4 → Int) × Unit) × (((Fin 4 → Int) × Unit) × Unit))) → Heap → Prop) (s15 : (Int × (((Fin 4 → Int) × Unit) × (((Fin 4 → Int) × Unit) × Unit)))) (t21 : Den kexploredone) (s22 : (Bool × Unit)) (h23 : Heap) : Prop :=
    ((s22.1 = true →
    (0 ≤ t21.1 ∧ t21.1 < (4 : Int)) ∧
    (0 ≤ t21.1 ∧ t21.1 < (4 : Int)) ∧
    explore_Kin.j1 go17 s15 (((aset (n := 4) (a := ((.int .i64) : Kd)) s15.2.1.1 (t21.1 : Int).toNat (aget (n := 4) (a := ((.int .i64) : Kd)) (aset (n := 4) (a := ((.int .i64) : Kd)) s15.2.2.1.1 (t21.1 : Int).toNat (w64 ((aget (n := 4) (a := ((.int .i64) : Kd)) s15.2.2.1.1 (t21.1 : Int).toNat) + 1))) (t21.1 : Int).toNat)), ()), ((aset (n := 4) (a := ((.int .i64) : Kd)) s15.2.2.1.1 (t21.1 : Int).toNat (w64 ((aget (n := 4) (a := ((.int .i64) : Kd)) s15.2.2.1.1 (t21.1 : Int).toNat) + 1))), ()), ()) h23) ∧
    (s22.1 = false →
    explore_Kin.j1 go17 s15 ((s15.2.1.1, ()), ((aset (n := 4) (a := ((.int .i64) : Kd)) s15.2.2.1.1 (t21.1 : Int).toNat (w64 ((aget (n := 4) (a := ((.int .i64) : Kd)) s15.2.2.1.1 (t21.1 : Int).toNat) + 1))), ()), ()) h23))
def explore_Kin.l3 (c_explore_Depends : Den kapiScene → Den kapiAct → Den kapiAct → Heap → (Bool → Heap → Prop) → Prop) (s1 : Den kapiScene) (s6 : Sl) (r8 : Sl) (go12 : (Int × (((Fin 4 → Int) × Unit) × Unit)) → Heap → Prop) (s10 : (Int × (((Fin 4 → Int) × Unit) × Unit))) (t14 : Den kexploredone) (go17 : (Int × (((Fin 4 → Int) × Unit) × (((Fin 4 → Int) × Unit) × Unit))) → Heap → Prop) (s15 : (Int × (((Fin 4 → Int) × Unit) × (((Fin 4 → Int) × Unit) × Unit)))) (h16 : Heap) : Prop :=
    (((decide (s15.1 < ((r8.cut 0 ((s10.1 : Int).toNat) 7).len : Int))) = true →
    (0 ≤ s15.1 ∧ s15.1 < ((r8.cut 0 ((s10.1 : Int).toNat) 7).len : Int)) ∧
    deref (r8.cut 0 ((s10.1 : Int).toNat) 7).a fun a20 =>
    ld kexploredone h16 (a20.add ((s15.1 : Int).toNat * 7)) fun t21 =>
    (0 ≤ t21.1 ∧ t21.1 < (4 : Int)) ∧
    (0 ≤ t21.1 ∧ t21.1 < (4 : Int)) ∧
    (((decide (t21.1 = t14.1)) = true →
    explore_Kin.j2 go17 s15 t21 (true, ()) h16) ∧
    ((decide (t21.1 = t14.1)) = false →
    c_explore_Depends (s1.1, (s1.2.1, (s1.2.2.1, ()))) (t21.2.2.1.1, (t21.2.2.1.2.1, (t21.2.2.1.2.2.1, (t21.2.2.1.2.2.2.1, (t21.2.2.1.2.2.2.2.1, ()))))) (t14.2.2.1.1, (t14.2.2.1.2.1, (t14.2.2.1.2.2.1, (t14.2.2.1.2.2.2.1, (t14.2.2.1.2.2.2.2.1, ()))))) h16 fun r24 h25 =>
    explore_Kin.j2 go17 s15 t21 (r24, ()) h25))) ∧
    ((decide (s15.1 < ((r8.cut 0 ((s10.1 : Int).toNat) 7).len : Int))) = false →
    (0 ≤ t14.1 ∧ t14.1 < (s6.len : Int)) ∧
    deref s6.a fun a26 =>
    ld (.sl : Kd) h16 (a26.add ((t14.1 : Int).toNat * 1)) fun t27 =>
    new h16 (([s15.2.1.1] : List (Den ((.arr 4 (.int .i64)) : Kd))).flatMap (Kd.cells ((.arr 4 (.int .i64)) : Kd))) fun p28 h29 =>
    appendM 4 32 h29 t27 ⟨some p28, 1, 1⟩ fun t30 h31 =>
    (0 ≤ t14.1 ∧ t14.1 < (s6.len : Int)) ∧
    deref s6.a fun a32 =>
    st (.sl : Kd) h31 (a32.add ((t14.1 : Int).toNat * 1)) t30 fun h33 =>
    (0 ≤ t14.1 ∧ t14.1 < (4 : Int)) ∧
    (0 ≤ t14.1 ∧ t14.1 < (4 : Int)) ∧
    go12 ((w64 (s10.1 + 1)), ((aset (n := 4) (a := ((.int .i64) : Kd)) s10.2.1.1 (t14.1 : Int).toNat (w64 ((aget (n := 4) (a := ((.int .i64) : Kd)) s10.2.1.1 (t14.1 : Int).toNat) + 1))), ()), ()) h33))
def explore_Kin.l4 (c_explore_Depends : Den kapiScene → Den kapiAct → Den kapiAct → Heap → (Bool → Heap → Prop) → Prop) (c_explore_ways : Sl → (Fin 4 → Int) → Option Nat → Heap → (Int → Heap → Prop) → Prop) (s1 : Den kapiScene) (Q : Den kcellsledger → Heap → Prop) (s6 : Sl) (r8 : Sl) (go12 : (Int × (((Fin 4 → Int) × Unit) × Unit)) → Heap → Prop) (s10 : (Int × (((Fin 4 → Int) × Unit) × Unit))) (h11 : Heap) : Prop :=
    (((decide (s10.1 < (r8.len : Int))) = true →
    (0 ≤ s10.1 ∧ s10.1 < (r8.len : Int)) ∧
    deref r8.a fun a13 =>
    ld kexploredone h11 (a13.add ((s10.1 : Int).toNat * 7)) fun t14 =>
    (0 ≤ s10.1 ∧ s10.1 ≤ (r8.cap : Int)) ∧
    Loop (explore_Kin.l3 c_explore_Depends s1 s6 r8 go12 s10 t14) (0, ((fun _ => 0), ()), ((fun _ => 0), ()), ()) h11) ∧
    ((decide (s10.1 < (r8.len : Int))) = false →
    mapNew h11 fun m34 h35 =>
    mapPut ((.arr 4 (.int .i64)) : Kd) ((.int .i64) : Kd) h35 (some m34) (Kd.zero ((.arr 4 (.int .i64)) : Kd)) 1 fun h36 =>
    c_explore_ways s6 s10.2.1.1 (some m34) h36 fun r37 h38 =>
    Q (r37, 0, ()) h38))
def explore_Kin.M (c_explore_ready : Den kapiScene → Sl → Heap → (Int → Heap → Prop) → Prop) (c_explore_steps : Den kapiScene → Sl → Heap → (Sl → Heap → Prop) → Prop) (c_explore_Depends : Den kapiScene → Den kapiAct → Den kapiAct → Heap → (Bool → Heap → Prop) → Prop) (c_explore_ways : Sl → (Fin 4 → Int) → Option Nat → Heap → (Int → Heap → Prop) → Prop) (s1 : Den kapiScene) (picks2 : Sl) (h3 : Heap) (Q : Den kcellsledger → Heap → Prop) : Prop :=
    c_explore_ready (s1.1, (s1.2.1, (s1.2.2.1, ()))) picks2 h3 fun r4 h5 =>
    (((decide (r4 ≠ 0)) = true →
    Q (0, r4, ()) h5) ∧
    ((decide (r4 ≠ 0)) = false →
    makeM (.sl : Kd) 24 h5 (s1.2.2.1.len : Int) (s1.2.2.1.len : Int) fun s6 h7 =>
    c_explore_steps (s1.1, (s1.2.1, (s1.2.2.1, ()))) picks2 h7 fun r8 h9 =>
    Loop (explore_Kin.l4 c_explore_Depends c_explore_ways s1 Q s6 r8) (0, ((fun _ => 0), ()), ()) h9))
def explore_Kin.mk : Mk := (.s (.r [0]) (.s (.s .d (.s .d (.c (.s .d .d) .d))) (.s .d (.s .d (.s (.r [0]) (.s (.s .d (.b (.l [.slot 32 (.int .i64), .box 9 (.pair (.arr 4 (.int .i64)) .nil)] (.s .d (.s (.c .d .d) (.s (.b (.s (.r [3]) (.s (.r [0]) (.s (.r [0]) (.s (.s .d (.b (.l [.slot 41 (.int .i64), .box 12 (.pair (.arr 4 (.int .i64)) .nil), .box 13 (.pair (.arr 4 (.int .i64)) .nil)] (.s .d (.s (.c .d .d) (.j [.box 12 (.pair (.arr 4 (.int .i64)) .nil), .box 13 (.pair (.arr 4 (.int .i64)) .nil)] (.b (.s (.r [2]) (.s .d (.j [.slot 63 .bool] .d (.c (.q [] [12] [.p 0, .p 2, .w 1 [1, 6, 7], .w 3 [3, 4, 5, 6, 7], .p 4, .w 5 [5, 6, 7], .p 6, .o 7]) .d))))) .d)))))) (.s (.q [] [] [.p 0, .p 1, .p 3, .p 4, .w 2 [2, 11, 12], .w 5 [5, 6, 7, 10, 11, 12], .p 6, .w 7 [7, 10, 11, 12], .w 8 [8, 9, 10, 11, 12], .o 9, .o 10, .p 11, .o 12]) .d)))))) .d)))))) (.s .d (.s .d .d))))))))

def law22_written.l1 (l1 : Sl) (list2 : Sl) (Q : Unit → Heap → Prop) (go6 : (Int × Unit) → Heap → Prop) (s4 : (Int × Unit)) (h5 : Heap) : Prop :=
    (((decide (s4.1 < (list2.len : Int))) = true →
    (0 ≤ s4.1 ∧ s4.1 < (list2.len : Int)) ∧
    deref list2.a fun a7 =>
    ld ((.int .i64) : Kd) h5 (a7.add ((s4.1 : Int).toNat * 1)) fun t8 =>
    (0 ≤ s4.1 ∧ s4.1 < (l1.len : Int)) ∧
    deref l1.a fun a9 =>
    st ((.int .i64) : Kd) h5 (a9.add ((s4.1 : Int).toNat * 1)) t8 fun h10 =>
    go6 ((w64 (s4.1 + 1)), ()) h10) ∧
    ((decide (s4.1 < (list2.len : Int))) = false →
    Q () h5))
def law22_written.M  (l1 : Sl) (list2 : Sl) (h3 : Heap) (Q : Unit → Heap → Prop) : Prop :=
    Loop (law22_written.l1 l1 list2 Q) (0, ()) h3
def law22_written.mk : Mk := (.s .d (.b (.l [.slot 4 (.int .i64)] (.s (.s .d (.c .d .d)) (.s (.b .d) .d)))))

def ref22_Kin.j1 (go10 : Den kcellsledger → Heap → Prop) (s8 : Den kcellsledger) (s11 : (Int × Unit)) (h12 : Heap) : Prop :=
    go10 (s11.1, (w64 (s8.2.1 + 1)), ()) h12
def ref22_Kin.l2 (c_ref22_same : Den kapiScene → Sl → Sl → Heap → (Bool → Heap → Prop) → Prop) (s1 : Den kapiScene) (picks2 : Sl) (Q : Den kcellsledger → Heap → Prop) (r6 : Sl) (go10 : Den kcellsledger → Heap → Prop) (s8 : Den kcellsledger) (h9 : Heap) : Prop :=
    (((decide (s8.2.1 < (r6.len : Int))) = true →
    (0 ≤ s8.2.1 ∧ s8.2.1 < (r6.len : Int)) ∧
    deref r6.a fun a13 =>
    ld (.sl : Kd) h9 (a13.add ((s8.2.1 : Int).toNat * 1)) fun t14 =>
    c_ref22_same (s1.1, (s1.2.1, (s1.2.2.1, ()))) picks2 t14 h9 fun r15 h16 =>
    ((r15 = true →
    ref22_Kin.j1 go10 s8 ((w64 (s8.1 + 1)), ()) h16) ∧
    (r15 = false →
    ref22_Kin.j1 go10 s8 (s8.1, ()) h16))) ∧
    ((decide (s8.2.1 < (r6.len : Int))) = false →
    Q (s8.1, 0, ()) h9))
def ref22_Kin.M (c_ref22_Bad : Den kapiScene → Sl → Heap → (Int → Heap → Prop) → Prop) (c_ref22_Scripts : Den kapiScene → Heap → (Sl → Heap → Prop) → Prop) (c_ref22_same : Den kapiScene → Sl → Sl → Heap → (Bool → Heap → Prop) → Prop) (s1 : Den kapiScene) (picks2 : Sl) (h3 : Heap) (Q : Den kcellsledger → Heap → Prop) : Prop :=
    c_ref22_Bad (s1.1, (s1.2.1, (s1.2.2.1, ()))) picks2 h3 fun r4 h5 =>
    (((decide (r4 ≠ 0)) = true →
    Q (0, r4, ()) h5) ∧
    ((decide (r4 ≠ 0)) = false →
    c_ref22_Scripts (s1.1, (s1.2.1, (s1.2.2.1, ()))) h5 fun r6 h7 =>
    Loop (ref22_Kin.l2 c_ref22_same s1 picks2 Q r6) (0, 0, ()) h7))
def ref22_Kin.mk : Mk := (.s (.r [0]) (.s .d (.s (.s .d (.c (.s .d .d) .d)) (.s .d (.s .d (.s (.s .d (.b (.l [.slot 8 (.int .i64), .slot 9 (.int .i64)] (.s (.s .d (.c .d .d)) (.j [.slot 8 (.int .i64)] (.b (.s (.q [] [] [.p 1, .p 2, .p 3, .p 4, .w 0 [0, 6], .w 5 [5, 6], .o 6]) (.c .d .d))) .d))))) (.s .d .d)))))))

def law22_kept.M (c_law22_same : Sl → Sl → Heap → (Bool → Heap → Prop) → Prop) (l1 : Sl) (list2 : Sl) (h3 : Heap) (Q : Bool → Heap → Prop) : Prop :=
    (0 ≤ (w64 ((l1.len : Int) + 1)) ∧ (w64 ((l1.len : Int) + 1)) ≤ (l1.cap : Int)) ∧
    c_law22_same l1 list2 h3 fun r4 h5 =>
    ((r4 = true →
    (0 ≤ (l1.len : Int) ∧ (l1.len : Int) < ((l1.cut 0 (((w64 ((l1.len : Int) + 1)) : Int).toNat) 1).len : Int)) ∧
    deref (l1.cut 0 (((w64 ((l1.len : Int) + 1)) : Int).toNat) 1).a fun a6 =>
    ld ((.int .i64) : Kd) h5 (a6.add (((l1.len : Int) : Int).toNat * 1)) fun t7 =>
    Q (decide (t7 = (-77))) h5) ∧
    (r4 = false →
    Q false h5))
def law22_kept.mk : Mk := (.s .d (.s .d (.s .d .d)))

def explore_Run.M (c_explore_ready : Den kapiScene → Sl → Heap → (Int → Heap → Prop) → Prop) (c_explore_play : Den kapiScene → Sl → Heap → (Den kapiEnding → Heap → Prop) → Prop) (s1 : Den kapiScene) (picks2 : Sl) (h3 : Heap) (Q : (Den kapiEnding × (Int × Unit)) → Heap → Prop) : Prop :=
    c_explore_ready (s1.1, (s1.2.1, (s1.2.2.1, ()))) picks2 h3 fun r4 h5 =>
    (((decide (r4 ≠ 0)) = true →
    Q ((Sl.none, (Sl.none, ())), r4, ()) h5) ∧
    ((decide (r4 ≠ 0)) = false →
    c_explore_play (s1.1, (s1.2.1, (s1.2.2.1, ()))) picks2 h5 fun r6 h7 =>
    Q ((r6.1, (r6.2.1, ())), 0, ()) h7))
def explore_Run.mk : Mk := (.s (.r [0, 1]) (.s (.s .d (.s .d (.c (.s .d .d) .d))) (.s .d .d)))

def law22_sameCells.l1 (a1 : Sl) (b2 : Sl) (Q : Bool → Heap → Prop) (go6 : (Int × Unit) → Heap → Prop) (s4 : (Int × Unit)) (h5 : Heap) : Prop :=
    (((decide (s4.1 < (a1.len : Int))) = true →
    (0 ≤ s4.1 ∧ s4.1 < (a1.len : Int)) ∧
    deref a1.a fun a7 =>
    (0 ≤ s4.1 ∧ s4.1 < (b2.len : Int)) ∧
    deref b2.a fun a8 =>
    ld ((.int .i64) : Kd) h5 (a7.add ((s4.1 : Int).toNat * 1)) fun t9 =>
    ld ((.int .i64) : Kd) h5 (a8.add ((s4.1 : Int).toNat * 1)) fun t10 =>
    (((decide (t9 ≠ t10)) = true →
    Q false h5) ∧
    ((decide (t9 ≠ t10)) = false →
    go6 ((w64 (s4.1 + 1)), ()) h5))) ∧
    ((decide (s4.1 < (a1.len : Int))) = false →
    Q true h5))
def law22_sameCells.M  (a1 : Sl) (b2 : Sl) (h3 : Heap) (Q : Bool → Heap → Prop) : Prop :=
    (((decide ((a1.len : Int) ≠ (b2.len : Int))) = true →
    Q false h3) ∧
    ((decide ((a1.len : Int) ≠ (b2.len : Int))) = false →
    Loop (law22_sameCells.l1 a1 b2 Q) (0, ()) h3))
def law22_sameCells.mk : Mk := (.s .d (.s (.s .d (.c (.s .d .d) .d)) (.s (.s .d (.b (.l [.slot 5 (.int .i64)] (.s (.s .d (.c .d .d)) (.s (.b (.s (.q [] [] [.p 0, .p 1, .p 2, .p 4, .p 5, .p 6, .w 3 [3, 8], .w 7 [7, 8], .p 8]) (.c (.s .d .d) .d))) .d))))) (.s .d .d))))

def explore_gives.M  (x1 : Den kapiAct) (h2 : Heap) (Q : Bool → Heap → Prop) : Prop :=
    (((decide (x1.2.1 = 4)) = true →
    Q (decide ((1 : Int) ≤ x1.2.2.2.1)) h2) ∧
    ((decide (x1.2.1 = 4)) = false →
    Q false h2))
def explore_gives.mk : Mk := (.s (.r [0]) (.s .d .d))

def explore_touches.M  (s1 : Den kapiScene) (x2 : Den kapiAct) (h3 : Heap) (Q : Bool → Heap → Prop) : Prop :=
    (((decide ((0 : Int) ≤ x2.2.1)) = true →
    (((decide (x2.2.1 ≤ 3)) = true →
    (((decide ((0 : Int) ≤ x2.2.2.1)) = true →
    Q (decide (x2.2.2.1 < s1.1)) h3) ∧
    ((decide ((0 : Int) ≤ x2.2.2.1)) = false →
    Q false h3))) ∧
    ((decide (x2.2.1 ≤ 3)) = false →
    Q false h3))) ∧
    ((decide ((0 : Int) ≤ x2.2.1)) = false →
    Q false h3))
def explore_touches.mk : Mk := (.s (.r [0, 1]) (.s .d .d))

def ref22_cell.j1 (x2 : Den kapiAct) (Q : Int → Heap → Prop) (s4 : Unit) (h5 : Heap) : Prop :=
    Q x2.2.2.1 h5
def ref22_cell.j2 (x2 : Den kapiAct) (Q : Int → Heap → Prop) (s6 : (Bool × Unit)) (h7 : Heap) : Prop :=
    ((s6.1 = true →
    Q (-1) h7) ∧
    (s6.1 = false →
    ref22_cell.j1 x2 Q () h7))
def ref22_cell.M  (s1 : Den kapiScene) (x2 : Den kapiAct) (h3 : Heap) (Q : Int → Heap → Prop) : Prop :=
    (((decide (x2.2.1 < 0)) = true →
    ref22_cell.j2 x2 Q (true, ()) h3) ∧
    ((decide (x2.2.1 < 0)) = false →
    (((decide ((3 : Int) < x2.2.1)) = true →
    ref22_cell.j2 x2 Q (true, ()) h3) ∧
    ((decide ((3 : Int) < x2.2.1)) = false →
    (((decide (x2.2.2.1 < 0)) = true →
    ref22_cell.j2 x2 Q (true, ()) h3) ∧
    ((decide (x2.2.2.1 < 0)) = false →
    ref22_cell.j2 x2 Q ((decide (s1.1 ≤ x2.2.2.1)), ()) h3))))))
def ref22_cell.mk : Mk := (.s (.r [0, 1]) (.j [] (.j [.slot 24 .bool] .d (.c (.s .d .d) .d)) (.s .d .d)))

def ref22_makes.M  (x1 : Den kapiAct) (h2 : Heap) (Q : Bool → Heap → Prop) : Prop :=
    (((decide (x1.2.1 = 4)) = true →
    Q (decide ((1 : Int) ≤ x1.2.2.2.1)) h2) ∧
    ((decide (x1.2.1 = 4)) = false →
    Q false h2))
def ref22_makes.mk : Mk := (.s (.r [0]) (.s .d .d))

def law22_marked.l1 (c1 : Den kapiScene) (Q : Bool → Heap → Prop) (go5 : (Int × Unit) → Heap → Prop) (s3 : (Int × Unit)) (h4 : Heap) : Prop :=
    (((decide (s3.1 < (c1.2.2.1.len : Int))) = true →
    (0 ≤ s3.1 ∧ s3.1 < (c1.2.2.1.len : Int)) ∧
    deref c1.2.2.1.a fun a6 =>
    ld (.sl : Kd) h4 (a6.add ((s3.1 : Int).toNat * 1)) fun t7 =>
    (0 ≤ s3.1 ∧ s3.1 < (c1.2.2.1.len : Int)) ∧
    deref c1.2.2.1.a fun a8 =>
    ld (.sl : Kd) h4 (a8.add ((s3.1 : Int).toNat * 1)) fun t9 =>
    (0 ≤ (w64 ((t7.len : Int) + 1)) ∧ (w64 ((t7.len : Int) + 1)) ≤ (t9.cap : Int)) ∧
    (0 ≤ (t7.len : Int) ∧ (t7.len : Int) < ((t9.cut 0 (((w64 ((t7.len : Int) + 1)) : Int).toNat) 5).len : Int)) ∧
    deref (t9.cut 0 (((w64 ((t7.len : Int) + 1)) : Int).toNat) 5).a fun a10 =>
    ld ((.int .i64) : Kd) h4 ((a10.add (((t7.len : Int) : Int).toNat * 5)).add 1) fun t11 =>
    (((decide (t11 ≠ (-77))) = true →
    Q false h4) ∧
    ((decide (t11 ≠ (-77))) = false →
    go5 ((w64 (s3.1 + 1)), ()) h4))) ∧
    ((decide (s3.1 < (c1.2.2.1.len : Int))) = false →
    (0 ≤ (w64 ((c1.2.1.len : Int) + 1)) ∧ (w64 ((c1.2.1.len : Int) + 1)) ≤ (c1.2.1.cap : Int)) ∧
    (0 ≤ (w64 ((c1.2.2.1.len : Int) + 1)) ∧ (w64 ((c1.2.2.1.len : Int) + 1)) ≤ (c1.2.2.1.cap : Int)) ∧
    (0 ≤ (c1.2.2.1.len : Int) ∧ (c1.2.2.1.len : Int) < ((c1.2.2.1.cut 0 (((w64 ((c1.2.2.1.len : Int) + 1)) : Int).toNat) 1).len : Int)) ∧
    deref (c1.2.2.1.cut 0 (((w64 ((c1.2.2.1.len : Int) + 1)) : Int).toNat) 1).a fun a12 =>
    ld (.sl : Kd) h4 (a12.add (((c1.2.2.1.len : Int) : Int).toNat * 1)) fun t13 =>
    (0 ≤ (c1.2.1.len : Int) ∧ (c1.2.1.len : Int) < ((c1.2.1.cut 0 (((w64 ((c1.2.1.len : Int) + 1)) : Int).toNat) 1).len : Int)) ∧
    deref (c1.2.1.cut 0 (((w64 ((c1.2.1.len : Int) + 1)) : Int).toNat) 1).a fun a14 =>
    ld ((.int .i64) : Kd) h4 (a14.add (((c1.2.1.len : Int) : Int).toNat * 1)) fun t15 =>
    (((decide (t15 = (-77))) = true →
    (((decide ((t13.len : Int) = 1)) = true →
    (0 ≤ (0 : Int) ∧ (0 : Int) < (t13.len : Int)) ∧
    deref t13.a fun a16 =>
    ld ((.int .i64) : Kd) h4 ((a16.add (((0 : Int) : Int).toNat * 5)).add 1) fun t17 =>
    Q (decide (t17 = (-77))) h4) ∧
    ((decide ((t13.len : Int) = 1)) = false →
    Q false h4))) ∧
    ((decide (t15 = (-77))) = false →
    Q false h4))))
def law22_marked.M  (c1 : Den kapiScene) (h2 : Heap) (Q : Bool → Heap → Prop) : Prop :=
    Loop (law22_marked.l1 c1 Q) (0, ()) h2
def law22_marked.mk : Mk := (.s (.r [0]) (.s (.s .d (.b (.l [.slot 3 (.int .i64)] (.s (.s .d (.c .d .d)) (.s (.b (.s .d (.s .d (.s .d (.c (.s .d .d) .d))))) .d))))) (.s .d (.s .d (.s .d (.s .d .d))))))

def ref22_acts.l1 (s1 : Den kapiScene) (Q : Int → Heap → Prop) (go5 : Den kcellsledger → Heap → Prop) (s3 : Den kcellsledger) (h4 : Heap) : Prop :=
    (((decide (s3.2.1 < (s1.2.2.1.len : Int))) = true →
    (0 ≤ s3.2.1 ∧ s3.2.1 < (s1.2.2.1.len : Int)) ∧
    deref s1.2.2.1.a fun a6 =>
    ld (.sl : Kd) h4 (a6.add ((s3.2.1 : Int).toNat * 1)) fun t7 =>
    go5 ((w64 (s3.1 + (t7.len : Int))), (w64 (s3.2.1 + 1)), ()) h4) ∧
    ((decide (s3.2.1 < (s1.2.2.1.len : Int))) = false →
    Q s3.1 h4))
def ref22_acts.M  (s1 : Den kapiScene) (h2 : Heap) (Q : Int → Heap → Prop) : Prop :=
    Loop (ref22_acts.l1 s1 Q) (0, 0, ()) h2
def ref22_acts.mk : Mk := (.s (.r [0]) (.s .d (.s (.s .d (.b (.l [.slot 3 (.int .i64), .slot 4 (.int .i64)] (.s (.s .d (.c .d .d)) (.s (.b .d) .d))))) (.s .d .d))))

def ref22_Scripts.M (c_ref22_more : Den kapiScene → Sl → Sl → Heap → (Sl → Heap → Prop) → Prop) (s1 : Den kapiScene) (h2 : Heap) (Q : Sl → Heap → Prop) : Prop :=
    c_ref22_more (s1.1, (s1.2.1, (s1.2.2.1, ()))) ⟨none, 0, 0⟩ ⟨none, 0, 0⟩ h2 fun r3 h4 =>
    Q r3 h4
def ref22_Scripts.mk : Mk := (.s (.r [0]) (.s .d (.s .d .d)))

def law22_same.l1 (a1 : Sl) (b2 : Sl) (Q : Bool → Heap → Prop) (go6 : (Int × Unit) → Heap → Prop) (s4 : (Int × Unit)) (h5 : Heap) : Prop :=
    (((decide (s4.1 < (a1.len : Int))) = true →
    (0 ≤ s4.1 ∧ s4.1 < (a1.len : Int)) ∧
    deref a1.a fun a7 =>
    (0 ≤ s4.1 ∧ s4.1 < (b2.len : Int)) ∧
    deref b2.a fun a8 =>
    ld ((.int .i64) : Kd) h5 (a7.add ((s4.1 : Int).toNat * 1)) fun t9 =>
    ld ((.int .i64) : Kd) h5 (a8.add ((s4.1 : Int).toNat * 1)) fun t10 =>
    (((decide (t9 ≠ t10)) = true →
    Q false h5) ∧
    ((decide (t9 ≠ t10)) = false →
    go6 ((w64 (s4.1 + 1)), ()) h5))) ∧
    ((decide (s4.1 < (a1.len : Int))) = false →
    Q true h5))
def law22_same.M  (a1 : Sl) (b2 : Sl) (h3 : Heap) (Q : Bool → Heap → Prop) : Prop :=
    (((decide ((a1.len : Int) ≠ (b2.len : Int))) = true →
    Q false h3) ∧
    ((decide ((a1.len : Int) ≠ (b2.len : Int))) = false →
    Loop (law22_same.l1 a1 b2 Q) (0, ()) h3))
def law22_same.mk : Mk := (.s .d (.s (.s .d (.c (.s .d .d) .d)) (.s (.s .d (.b (.l [.slot 5 (.int .i64)] (.s (.s .d (.c .d .d)) (.s (.b (.s (.q [] [] [.p 0, .p 1, .p 2, .p 4, .p 5, .p 6, .w 3 [3, 8], .w 7 [7, 8], .p 8]) (.c (.s .d .d) .d))) .d))))) (.s .d .d))))

def explore_ready.M (c_explore_Check : Den kapiScene → Heap → (Int → Heap → Prop) → Prop) (c_explore_isScript : Den kapiScene → Sl → Heap → (Bool → Heap → Prop) → Prop) (s1 : Den kapiScene) (picks2 : Sl) (h3 : Heap) (Q : Int → Heap → Prop) : Prop :=
    c_explore_Check (s1.1, (s1.2.1, (s1.2.2.1, ()))) h3 fun r4 h5 =>
    (((decide (r4 ≠ 0)) = true →
    Q r4 h5) ∧
    ((decide (r4 ≠ 0)) = false →
    c_explore_isScript (s1.1, (s1.2.1, (s1.2.2.1, ()))) picks2 h5 fun r6 h7 =>
    (((!r6) = true →
    Q 220 h7) ∧
    ((!r6) = false →
    Q 0 h7))))
def explore_ready.mk : Mk := (.s (.r [0]) (.s (.s .d (.s .d (.c (.s .d .d) .d))) (.s (.s .d (.c (.s .d .d) .d)) (.s .d .d))))

def explore_steps.j1 (go23 : (Int × ((Int × (Int × Den kapiAct)) × Unit)) → Heap → Prop) (s21 : (Int × ((Int × (Int × Den kapiAct)) × Unit))) (s24 : ((Int × (Int × Den kapiAct)) × Unit)) (h25 : Heap) : Prop :=
    go23 ((w64 (s21.1 + 1)), (s24.1.1, (s24.1.2.1, (s24.1.2.2.1, (s24.1.2.2.2.1, (s24.1.2.2.2.2.1, (s24.1.2.2.2.2.2.1, (s24.1.2.2.2.2.2.2.1, ()))))))), ()) h25
def explore_steps.j2 (go23 : (Int × ((Int × (Int × Den kapiAct)) × Unit)) → Heap → Prop) (s21 : (Int × ((Int × (Int × Den kapiAct)) × Unit))) (t27 : Den kexploredone) (s28 : (Bool × Unit)) (h29 : Heap) : Prop :=
    ((s28.1 = true →
    explore_steps.j1 go23 s21 ((s21.2.1.1, ((if s21.2.1.2.1 < (w64 (t27.2.1 + 1)) then (w64 (t27.2.1 + 1)) else s21.2.1.2.1), (s21.2.1.2.2.1, (s21.2.1.2.2.2.1, (s21.2.1.2.2.2.2.1, (s21.2.1.2.2.2.2.2.1, (s21.2.1.2.2.2.2.2.2.1, ()))))))), ()) h29) ∧
    (s28.1 = false →
    explore_steps.j1 go23 s21 ((s21.2.1.1, (s21.2.1.2.1, (s21.2.1.2.2.1, (s21.2.1.2.2.2.1, (s21.2.1.2.2.2.2.1, (s21.2.1.2.2.2.2.2.1, (s21.2.1.2.2.2.2.2.2.1, ()))))))), ()) h29))
def explore_steps.l3 (c_explore_Depends : Den kapiScene → Den kapiAct → Den kapiAct → Heap → (Bool → Heap → Prop) → Prop) (s1 : Den kapiScene) (go8 : (Sl × (Int × Unit)) → Heap → Prop) (s6 : (Sl × (Int × Unit))) (t10 : Int) (go23 : (Int × ((Int × (Int × Den kapiAct)) × Unit)) → Heap → Prop) (s21 : (Int × ((Int × (Int × Den kapiAct)) × Unit))) (h22 : Heap) : Prop :=
    (((decide (s21.1 < (s6.1.len : Int))) = true →
    (0 ≤ s21.1 ∧ s21.1 < (s6.1.len : Int)) ∧
    deref s6.1.a fun a26 =>
    ld kexploredone h22 (a26.add ((s21.1 : Int).toNat * 7)) fun t27 =>
    (((decide (t27.1 = t10)) = true →
    explore_steps.j2 go23 s21 t27 (true, ()) h22) ∧
    ((decide (t27.1 = t10)) = false →
    c_explore_Depends (s1.1, (s1.2.1, (s1.2.2.1, ()))) (t27.2.2.1.1, (t27.2.2.1.2.1, (t27.2.2.1.2.2.1, (t27.2.2.1.2.2.2.1, (t27.2.2.1.2.2.2.2.1, ()))))) (s21.2.1.2.2.1, (s21.2.1.2.2.2.1, (s21.2.1.2.2.2.2.1, (s21.2.1.2.2.2.2.2.1, (s21.2.1.2.2.2.2.2.2.1, ()))))) h22 fun r30 h31 =>
    explore_steps.j2 go23 s21 t27 (r30, ()) h31))) ∧
    ((decide (s21.1 < (s6.1.len : Int))) = false →
    new h22 (([(s21.2.1.1, (s21.2.1.2.1, ((s21.2.1.2.2.1, (s21.2.1.2.2.2.1, (s21.2.1.2.2.2.2.1, (s21.2.1.2.2.2.2.2.1, (s21.2.1.2.2.2.2.2.2.1, ()))))), ())))] : List (Den kexploredone)).flatMap (Kd.cells kexploredone)) fun p32 h33 =>
    appendM 7 56 h33 s6.1 ⟨some p32, 1, 1⟩ fun t34 h35 =>
    go8 (t34, (w64 (s6.2.1 + 1)), ()) h35))
def explore_steps.l4 (c_explore_Depends : Den kapiScene → Den kapiAct → Den kapiAct → Heap → (Bool → Heap → Prop) → Prop) (s1 : Den kapiScene) (picks2 : Sl) (Q : Sl → Heap → Prop) (s4 : Sl) (go8 : (Sl × (Int × Unit)) → Heap → Prop) (s6 : (Sl × (Int × Unit))) (h7 : Heap) : Prop :=
    (((decide (s6.2.1 < (picks2.len : Int))) = true →
    (0 ≤ s6.2.1 ∧ s6.2.1 < (picks2.len : Int)) ∧
    deref picks2.a fun a9 =>
    ld ((.int .i64) : Kd) h7 (a9.add ((s6.2.1 : Int).toNat * 1)) fun t10 =>
    (0 ≤ t10 ∧ t10 < (s4.len : Int)) ∧
    deref s4.a fun a11 =>
    (0 ≤ t10 ∧ t10 < (s1.2.2.1.len : Int)) ∧
    deref s1.2.2.1.a fun a12 =>
    ld (.sl : Kd) h7 (a12.add ((t10 : Int).toNat * 1)) fun t13 =>
    ld ((.int .i64) : Kd) h7 (a11.add ((t10 : Int).toNat * 1)) fun t14 =>
    (0 ≤ t14 ∧ t14 < (t13.len : Int)) ∧
    deref t13.a fun a15 =>
    ld kapiAct h7 (a15.add ((t14 : Int).toNat * 5)) fun t16 =>
    (0 ≤ t10 ∧ t10 < (s4.len : Int)) ∧
    deref s4.a fun a17 =>
    ld ((.int .i64) : Kd) h7 (a17.add ((t10 : Int).toNat * 1)) fun t18 =>
    (0 ≤ t10 ∧ t10 < (s4.len : Int)) ∧
    deref s4.a fun a19 =>
    st ((.int .i64) : Kd) h7 (a19.add ((t10 : Int).toNat * 1)) (w64 (t18 + 1)) fun h20 =>
    Loop (explore_steps.l3 c_explore_Depends s1 go8 s6 t10) (0, (t10, (1, (t16.1, (t16.2.1, (t16.2.2.1, (t16.2.2.2.1, (t16.2.2.2.2.1, ()))))))), ()) h20) ∧
    ((decide (s6.2.1 < (picks2.len : Int))) = false →
    Q s6.1 h7))
def explore_steps.M (c_explore_Depends : Den kapiScene → Den kapiAct → Den kapiAct → Heap → (Bool → Heap → Prop) → Prop) (s1 : Den kapiScene) (picks2 : Sl) (h3 : Heap) (Q : Sl → Heap → Prop) : Prop :=
    makeM ((.int .i64) : Kd) 8 h3 (s1.2.2.1.len : Int) (s1.2.2.1.len : Int) fun s4 h5 =>
    Loop (explore_steps.l4 c_explore_Depends s1 picks2 Q s4) (⟨none, 0, 0⟩, 0, ()) h5
def explore_steps.mk : Mk := (.s (.r [0]) (.s .d (.s .d (.s (.s .d (.b (.l [.slot 6 .sl, .slot 18 (.int .i64)] (.s .d (.s (.c .d .d) (.s (.b (.s .d (.s (.q [13] [9] [.p 0, .p 1, .p 3, .p 6, .p 7, .p 8, .w 2 [2, 4, 5, 10, 11, 12, 14], .p 4, .w 5 [5, 10, 11, 12, 14], .w 9 [9, 10, 11, 12, 14], .p 10, .w 11 [11, 12, 14], .p 12, .o 13, .o 14]) (.s .d (.s (.s .d (.b (.l [.slot 43 (.int .i64), .box 9 (.pair (.int .i64) (.pair (.int .i64) kapiAct))] (.s .d (.s (.c .d .d) (.j [.box 9 (.pair (.int .i64) (.pair (.int .i64) kapiAct))] (.b (.s (.r [2]) (.j [.slot 58 .bool] .d (.c .d .d)))) .d)))))) .d))))) .d)))))) (.s .d .d)))))

def explore_ways.j1 (go9 : Den kcellsledger → Heap → Prop) (s7 : Den kcellsledger) (s10 : (Int × Unit)) (h11 : Heap) : Prop :=
    go9 (s10.1, (w64 (s7.2.1 + 1)), ()) h11
def explore_ways.j2 (go19 : (Bool × (Int × Unit)) → Heap → Prop) (s17 : (Bool × (Int × Unit))) (s20 : (Bool × Unit)) (h21 : Heap) : Prop :=
    go19 (s20.1, (w64 (s17.2.1 + 1)), ()) h21
def explore_ways.j3 (go19 : (Bool × (Int × Unit)) → Heap → Prop) (s17 : (Bool × (Int × Unit))) (s22 : (Bool × Unit)) (h23 : Heap) : Prop :=
    ((s22.1 = true →
    explore_ways.j2 go19 s17 (false, ()) h23) ∧
    (s22.1 = false →
    explore_ways.j2 go19 s17 (s17.1, ()) h23))
def explore_ways.l4 (at_2 : (Fin 4 → Int)) (s7 : Den kcellsledger) (go14 : (Bool × (Int × Unit)) → Heap → Prop) (s12 : (Bool × (Int × Unit))) (t16 : Sl) (go19 : (Bool × (Int × Unit)) → Heap → Prop) (s17 : (Bool × (Int × Unit))) (h18 : Heap) : Prop :=
    (((decide (s17.2.1 < (aget (n := 4) (a := ((.int .i64) : Kd)) at_2 (s12.2.1 : Int).toNat))) = true →
    (((decide (s12.2.1 ≠ s7.2.1)) = true →
    (0 ≤ s17.2.1 ∧ s17.2.1 < (t16.len : Int)) ∧
    deref t16.a fun a24 =>
    (0 ≤ s7.2.1 ∧ s7.2.1 < (4 : Int)) ∧
    (0 ≤ s7.2.1 ∧ s7.2.1 < (4 : Int)) ∧
    ld ((.int .i64) : Kd) h18 ((a24.add ((s17.2.1 : Int).toNat * 4)).add ((s7.2.1 : Int).toNat * 1)) fun t25 =>
    explore_ways.j3 go19 s17 ((decide ((aget (n := 4) (a := ((.int .i64) : Kd)) (aset (n := 4) (a := ((.int .i64) : Kd)) at_2 (s7.2.1 : Int).toNat (w64 ((aget (n := 4) (a := ((.int .i64) : Kd)) at_2 (s7.2.1 : Int).toNat) - 1))) (s7.2.1 : Int).toNat) < t25)), ()) h18) ∧
    ((decide (s12.2.1 ≠ s7.2.1)) = false →
    (0 ≤ s7.2.1 ∧ s7.2.1 < (4 : Int)) ∧
    (((decide (s17.2.1 < (aget (n := 4) (a := ((.int .i64) : Kd)) (aset (n := 4) (a := ((.int .i64) : Kd)) at_2 (s7.2.1 : Int).toNat (w64 ((aget (n := 4) (a := ((.int .i64) : Kd)) at_2 (s7.2.1 : Int).toNat) - 1))) (s7.2.1 : Int).toNat))) = true →
    (0 ≤ s17.2.1 ∧ s17.2.1 < (t16.len : Int)) ∧
    deref t16.a fun a26 =>
    (0 ≤ s7.2.1 ∧ s7.2.1 < (4 : Int)) ∧
    (0 ≤ s7.2.1 ∧ s7.2.1 < (4 : Int)) ∧
    ld ((.int .i64) : Kd) h18 ((a26.add ((s17.2.1 : Int).toNat * 4)).add ((s7.2.1 : Int).toNat * 1)) fun t27 =>
    explore_ways.j3 go19 s17 ((decide ((aget (n := 4) (a := ((.int .i64) : Kd)) (aset (n := 4) (a := ((.int .i64) : Kd)) at_2 (s7.2.1 : Int).toNat (w64 ((aget (n := 4) (a := ((.int .i64) : Kd)) at_2 (s7.2.1 : Int).toNat) - 1))) (s7.2.1 : Int).toNat) < t27)), ()) h18) ∧
    ((decide (s17.2.1 < (aget (n := 4) (a := ((.int .i64) : Kd)) (aset (n := 4) (a := ((.int .i64) : Kd)) at_2 (s7.2.1 : Int).toNat (w64 ((aget (n := 4) (a := ((.int .i64) : Kd)) at_2 (s7.2.1 : Int).toNat) - 1))) (s7.2.1 : Int).toNat))) = false →
    explore_ways.j3 go19 s17 (false, ()) h18))))) ∧
    ((decide (s17.2.1 < (aget (n := 4) (a := ((.int .i64) : Kd)) at_2 (s12.2.1 : Int).toNat))) = false →
    go14 (s17.1, (w64 (s12.2.1 + 1)), ()) h18))
def explore_ways.l5 (c_explore_ways : Sl → (Fin 4 → Int) → Option Nat → Heap → (Int → Heap → Prop) → Prop) (before1 : Sl) (at_2 : (Fin 4 → Int)) (known3 : Option Nat) (go9 : Den kcellsledger → Heap → Prop) (s7 : Den kcellsledger) (go14 : (Bool × (Int × Unit)) → Heap → Prop) (s12 : (Bool × (Int × Unit))) (h13 : Heap) : Prop :=
    (((decide (s12.2.1 < (before1.len : Int))) = true →
    (0 ≤ s12.2.1 ∧ s12.2.1 < (before1.len : Int)) ∧
    deref before1.a fun a15 =>
    ld (.sl : Kd) h13 (a15.add ((s12.2.1 : Int).toNat * 1)) fun t16 =>
    (0 ≤ s12.2.1 ∧ s12.2.1 < (4 : Int)) ∧
    Loop (explore_ways.l4 at_2 s7 go14 s12 t16) (s12.1, 0, ()) h13) ∧
    ((decide (s12.2.1 < (before1.len : Int))) = false →
    ((s12.1 = true →
    c_explore_ways before1 (aset (n := 4) (a := ((.int .i64) : Kd)) at_2 (s7.2.1 : Int).toNat (w64 ((aget (n := 4) (a := ((.int .i64) : Kd)) at_2 (s7.2.1 : Int).toNat) - 1))) known3 h13 fun r28 h29 =>
    explore_ways.j1 go9 s7 ((w64 (s7.1 + r28)), ()) h29) ∧
    (s12.1 = false →
    explore_ways.j1 go9 s7 (s7.1, ()) h13))))
def explore_ways.l6 (c_explore_ways : Sl → (Fin 4 → Int) → Option Nat → Heap → (Int → Heap → Prop) → Prop) (before1 : Sl) (at_2 : (Fin 4 → Int)) (known3 : Option Nat) (Q : Int → Heap → Prop) (go9 : Den kcellsledger → Heap → Prop) (s7 : Den kcellsledger) (h8 : Heap) : Prop :=
    (((decide (s7.2.1 < (before1.len : Int))) = true →
    (0 ≤ s7.2.1 ∧ s7.2.1 < (4 : Int)) ∧
    (((decide ((aget (n := 4) (a := ((.int .i64) : Kd)) at_2 (s7.2.1 : Int).toNat) = 0)) = true →
    explore_ways.j1 go9 s7 (s7.1, ()) h8) ∧
    ((decide ((aget (n := 4) (a := ((.int .i64) : Kd)) at_2 (s7.2.1 : Int).toNat) = 0)) = false →
    (0 ≤ s7.2.1 ∧ s7.2.1 < (4 : Int)) ∧
    (0 ≤ s7.2.1 ∧ s7.2.1 < (4 : Int)) ∧
    Loop (explore_ways.l5 c_explore_ways before1 at_2 known3 go9 s7) (true, 0, ()) h8))) ∧
    ((decide (s7.2.1 < (before1.len : Int))) = false →
    mapPut ((.arr 4 (.int .i64)) : Kd) ((.int .i64) : Kd) h8 known3 at_2 s7.1 fun h30 =>
    Q s7.1 h30))
def explore_ways.M (c_explore_ways : Sl → (Fin 4 → Int) → Option Nat → Heap → (Int → Heap → Prop) → Prop) (before1 : Sl) (at_2 : (Fin 4 → Int)) (known3 : Option Nat) (h4 : Heap) (Q : Int → Heap → Prop) : Prop :=
    mapAt ((.arr 4 (.int .i64)) : Kd) ((.int .i64) : Kd) h4 known3 at_2 fun t5 b6 =>
    ((b6 = true →
    Q t5 h4) ∧
    (b6 = false →
    Loop (explore_ways.l6 c_explore_ways before1 at_2 known3 Q) (0, 0, ()) h4))
def explore_ways.mk : Mk := (.s (.r [0]) (.s (.s .d (.s .d (.c (.s .d .d) .d))) (.s .d (.s (.s .d (.b (.l [.slot 9 (.int .i64), .slot 26 (.int .i64)] (.s .d (.s (.c .d .d) (.j [.slot 9 (.int .i64)] (.b (.s .d (.s (.s .d (.c .d .d)) (.s (.r [1]) (.s .d (.s .d (.s (.s .d (.b (.l [.slot 12 .bool, .slot 41 (.int .i64)] (.s .d (.s (.c .d .d) (.s (.b (.s .d (.s .d (.b (.l [.slot 12 .bool, .slot 49 (.int .i64)] (.s .d (.s (.c .d .d) (.j [.slot 12 .bool] (.b (.s .d (.j [.slot 73 .bool] (.q [] [] [.p 0, .p 1, .p 2, .p 3, .p 4, .p 5, .p 6, .w 7 [7, 8, 9, 10, 11, 12, 13, 14, 15, 16, 17, 18, 19, 20, 21], .p 8, .p 9, .p 10, .p 11, .p 12, .p 13, .p 14, .p 15, .p 17, .p 18, .w 16 [16, 20, 21], .w 19 [19, 20, 21], .p 20, .p 21]) (.c .d .d)))) .d)))))))) .d)))))) (.s .d (.c .d .d))))))))) .d)))))) (.s .d (.s .d .d))))))

def ref22_Bad.j1 (Q : Int → Heap → Prop) (r4 : Int) (s6 : Unit) (h7 : Heap) : Prop :=
    Q r4 h7
def ref22_Bad.j2 (Q : Int → Heap → Prop) (r4 : Int) (s8 : (Bool × Unit)) (h9 : Heap) : Prop :=
    ((s8.1 = true →
    Q 220 h9) ∧
    (s8.1 = false →
    ref22_Bad.j1 Q r4 () h9))
def ref22_Bad.M (c_ref22_Check : Den kapiScene → Heap → (Int → Heap → Prop) → Prop) (c_ref22_Script : Den kapiScene → Sl → Heap → (Bool → Heap → Prop) → Prop) (s1 : Den kapiScene) (picks2 : Sl) (h3 : Heap) (Q : Int → Heap → Prop) : Prop :=
    c_ref22_Check (s1.1, (s1.2.1, (s1.2.2.1, ()))) h3 fun r4 h5 =>
    (((decide (r4 = 0)) = true →
    c_ref22_Script (s1.1, (s1.2.1, (s1.2.2.1, ()))) picks2 h5 fun r10 h11 =>
    ref22_Bad.j2 Q r4 ((!r10), ()) h11) ∧
    ((decide (r4 = 0)) = false →
    ref22_Bad.j2 Q r4 (false, ()) h5))
def ref22_Bad.mk : Mk := (.s (.r [0]) (.s .d (.j [] (.j [.slot 15 .bool] .d (.c (.s .d .d) .d)) (.s .d .d))))

def ref22_same.l1 (c_ref22_first : Den kapiScene → Sl → Int → Heap → (Int → Heap → Prop) → Prop) (c_ref22_without : Sl → Int → Heap → (Sl → Heap → Prop) → Prop) (s1 : Den kapiScene) (q3 : Sl) (Q : Bool → Heap → Prop) (go9 : (Sl × (Int × Unit)) → Heap → Prop) (s7 : (Sl × (Int × Unit))) (h8 : Heap) : Prop :=
    (((decide (s7.2.1 < (q3.len : Int))) = true →
    (0 ≤ s7.2.1 ∧ s7.2.1 < (q3.len : Int)) ∧
    deref q3.a fun a10 =>
    ld ((.int .i64) : Kd) h8 (a10.add ((s7.2.1 : Int).toNat * 1)) fun t11 =>
    c_ref22_first (s1.1, (s1.2.1, (s1.2.2.1, ()))) s7.1 t11 h8 fun r12 h13 =>
    (((decide (r12 < 0)) = true →
    Q false h13) ∧
    ((decide (r12 < 0)) = false →
    c_ref22_without s7.1 r12 h13 fun r14 h15 =>
    go9 (r14, (w64 (s7.2.1 + 1)), ()) h15))) ∧
    ((decide (s7.2.1 < (q3.len : Int))) = false →
    Q true h8))
def ref22_same.M (c_ref22_Row : Den kapiScene → Sl → Heap → (Sl → Heap → Prop) → Prop) (c_ref22_first : Den kapiScene → Sl → Int → Heap → (Int → Heap → Prop) → Prop) (c_ref22_without : Sl → Int → Heap → (Sl → Heap → Prop) → Prop) (s1 : Den kapiScene) (p2 : Sl) (q3 : Sl) (h4 : Heap) (Q : Bool → Heap → Prop) : Prop :=
    c_ref22_Row (s1.1, (s1.2.1, (s1.2.2.1, ()))) p2 h4 fun r5 h6 =>
    Loop (ref22_same.l1 c_ref22_first c_ref22_without s1 q3 Q) (r5, 0, ()) h6
def ref22_same.mk : Mk := (.s (.r [0]) (.s .d (.s (.s .d (.b (.l [.slot 7 .sl, .slot 8 (.int .i64)] (.s (.s .d (.c .d .d)) (.s (.b (.s (.q [] [] [.p 1, .p 2, .p 3, .p 4, .w 0 [0, 6, 7], .w 5 [5, 6, 7], .o 6, .p 7]) (.s (.s .d (.c (.s .d .d) .d)) .d))) .d))))) (.s .d .d))))

def explore_play.l1 (c_explore_act : Option Addr → Den kapiAct → Heap → (Den kapiEffect → Heap → Prop) → Prop) (c_cells_Arena_Cells : Option Addr → Heap → (Sl → Heap → Prop) → Prop) (s1 : Den kapiScene) (picks2 : Sl) (Q : Den kapiEnding → Heap → Prop) (r4 : (Option Addr × (Int × Unit))) (s15 : Sl) (go19 : (Int × Unit) → Heap → Prop) (s17 : (Int × Unit)) (h18 : Heap) : Prop :=
    (((decide (s17.1 < (picks2.len : Int))) = true →
    (0 ≤ s17.1 ∧ s17.1 < (picks2.len : Int)) ∧
    deref picks2.a fun a20 =>
    ld ((.int .i64) : Kd) h18 (a20.add ((s17.1 : Int).toNat * 1)) fun t21 =>
    (0 ≤ t21 ∧ t21 < (s1.2.2.1.len : Int)) ∧
    deref s1.2.2.1.a fun a22 =>
    ld (.sl : Kd) h18 (a22.add ((t21 : Int).toNat * 1)) fun t23 =>
    (0 ≤ t21 ∧ t21 < (s15.len : Int)) ∧
    deref s15.a fun a24 =>
    ld (.sl : Kd) h18 (a24.add ((t21 : Int).toNat * 1)) fun t25 =>
    (0 ≤ (t25.len : Int) ∧ (t25.len : Int) < (t23.len : Int)) ∧
    deref t23.a fun a26 =>
    ld kapiAct h18 (a26.add (((t25.len : Int) : Int).toNat * 5)) fun t27 =>
    (0 ≤ t21 ∧ t21 < (s15.len : Int)) ∧
    deref s15.a fun a28 =>
    ld (.sl : Kd) h18 (a28.add ((t21 : Int).toNat * 1)) fun t29 =>
    c_explore_act r4.1 (t27.1, (t27.2.1, (t27.2.2.1, (t27.2.2.2.1, (t27.2.2.2.2.1, ()))))) h18 fun r30 h31 =>
    sees h31 (some (a28.add ((t21 : Int).toNat * 1))) (.sl : Kd) t29 ∧
    new h31 (([r30] : List (Den kapiEffect)).flatMap (Kd.cells kapiEffect)) fun p32 h33 =>
    appendM 3 24 h33 t29 ⟨some p32, 1, 1⟩ fun t34 h35 =>
    (0 ≤ t21 ∧ t21 < (s15.len : Int)) ∧
    deref s15.a fun a36 =>
    st (.sl : Kd) h35 (a36.add ((t21 : Int).toNat * 1)) t34 fun h37 =>
    go19 ((w64 (s17.1 + 1)), ()) h37) ∧
    ((decide (s17.1 < (picks2.len : Int))) = false →
    c_cells_Arena_Cells r4.1 h18 fun r38 h39 =>
    Q (s15, (r38, ())) h39))
def explore_play.l2 (c_cells_Arena_Store : Option Addr → Int → Int → Heap → (Int → Heap → Prop) → Prop) (c_explore_act : Option Addr → Den kapiAct → Heap → (Den kapiEffect → Heap → Prop) → Prop) (c_cells_Arena_Cells : Option Addr → Heap → (Sl → Heap → Prop) → Prop) (s1 : Den kapiScene) (picks2 : Sl) (Q : Den kapiEnding → Heap → Prop) (r4 : (Option Addr × (Int × Unit))) (go10 : (Int × Unit) → Heap → Prop) (s8 : (Int × Unit)) (h9 : Heap) : Prop :=
    (((decide (s8.1 < (s1.2.1.len : Int))) = true →
    (0 ≤ s8.1 ∧ s8.1 < (s1.2.1.len : Int)) ∧
    deref s1.2.1.a fun a11 =>
    ld ((.int .i64) : Kd) h9 (a11.add ((s8.1 : Int).toNat * 1)) fun t12 =>
    c_cells_Arena_Store r4.1 s8.1 t12 h9 fun r13 h14 =>
    go10 ((w64 (s8.1 + 1)), ()) h14) ∧
    ((decide (s8.1 < (s1.2.1.len : Int))) = false →
    makeM (.sl : Kd) 24 h9 (s1.2.2.1.len : Int) (s1.2.2.1.len : Int) fun s15 h16 =>
    Loop (explore_play.l1 c_explore_act c_cells_Arena_Cells s1 picks2 Q r4 s15) (0, ()) h16))
def explore_play.j3 (c_cells_Arena_Store : Option Addr → Int → Int → Heap → (Int → Heap → Prop) → Prop) (c_explore_act : Option Addr → Den kapiAct → Heap → (Den kapiEffect → Heap → Prop) → Prop) (c_cells_Arena_Cells : Option Addr → Heap → (Sl → Heap → Prop) → Prop) (s1 : Den kapiScene) (picks2 : Sl) (Q : Den kapiEnding → Heap → Prop) (r4 : (Option Addr × (Int × Unit))) (s6 : Unit) (h7 : Heap) : Prop :=
    Loop (explore_play.l2 c_cells_Arena_Store c_explore_act c_cells_Arena_Cells s1 picks2 Q r4) (0, ()) h7
def explore_play.M (c_cells_New : Int → Heap → ((Option Addr × (Int × Unit)) → Heap → Prop) → Prop) (c_cells_Arena_Reserve : Option Addr → Int → Heap → (Den kcellsledger → Heap → Prop) → Prop) (c_cells_Arena_Store : Option Addr → Int → Int → Heap → (Int → Heap → Prop) → Prop) (c_explore_act : Option Addr → Den kapiAct → Heap → (Den kapiEffect → Heap → Prop) → Prop) (c_cells_Arena_Cells : Option Addr → Heap → (Sl → Heap → Prop) → Prop) (s1 : Den kapiScene) (picks2 : Sl) (h3 : Heap) (Q : Den kapiEnding → Heap → Prop) : Prop :=
    c_cells_New s1.1 h3 fun r4 h5 =>
    (((decide ((0 : Int) < (s1.2.1.len : Int))) = true →
    c_cells_Arena_Reserve r4.1 (s1.2.1.len : Int) h5 fun r40 h41 =>
    explore_play.j3 c_cells_Arena_Store c_explore_act c_cells_Arena_Cells s1 picks2 Q r4 () h41) ∧
    ((decide ((0 : Int) < (s1.2.1.len : Int))) = false →
    explore_play.j3 c_cells_Arena_Store c_explore_act c_cells_Arena_Cells s1 picks2 Q r4 () h5))
def explore_play.mk : Mk := (.s (.r [0, 1]) (.s .d (.j [] (.s .d (.c .d .d)) (.s (.s .d (.b (.l [.slot 31 (.int .i64)] (.s .d (.s (.c .d .d) (.s (.b (.s .d .d)) .d)))))) (.s (.r [5]) (.s (.s .d (.b (.l [.slot 48 (.int .i64)] (.s .d (.s (.c .d .d) (.s (.b (.s .d (.s (.q [13] [12] [.p 0, .p 2, .p 5, .p 7, .w 1 [1, 3, 4, 11, 12, 14], .p 3, .w 4 [4, 11, 12, 14], .w 6 [6, 8, 9, 10, 11, 12, 14], .p 8, .w 9 [9, 10, 11, 12, 14], .p 10, .p 11, .w 12 [12, 14], .o 13, .o 14]) (.q [] [] [.p 0, .p 2, .p 3, .p 5, .p 8, .w 1 [1, 13, 14], .w 4 [4, 6, 7, 12, 13, 14], .p 6, .w 7 [7, 12, 13, 14], .w 9 [9, 10, 11, 12, 13, 14], .o 10, .o 11, .o 12, .p 13, .o 14])))) .d)))))) (.s .d (.s .d .d))))))))

def ref22_more.j1 (go17 : (Sl × (Int × Unit)) → Heap → Prop) (s15 : (Sl × (Int × Unit))) (s18 : (Sl × Unit)) (h19 : Heap) : Prop :=
    go17 (s18.1, (w64 (s15.2.1 + 1)), ()) h19
def ref22_more.j2 (go22 : Den kcellsledger → Heap → Prop) (s20 : Den kcellsledger) (s23 : (Int × Unit)) (h24 : Heap) : Prop :=
    go22 (s23.1, (w64 (s20.2.1 + 1)), ()) h24
def ref22_more.l3 (c_ref22_more : Den kapiScene → Sl → Sl → Heap → (Sl → Heap → Prop) → Prop) (s1 : Den kapiScene) (picks2 : Sl) (go17 : (Sl × (Int × Unit)) → Heap → Prop) (s15 : (Sl × (Int × Unit))) (go22 : Den kcellsledger → Heap → Prop) (s20 : Den kcellsledger) (h21 : Heap) : Prop :=
    (((decide (s20.2.1 < (picks2.len : Int))) = true →
    (0 ≤ s20.2.1 ∧ s20.2.1 < (picks2.len : Int)) ∧
    deref picks2.a fun a25 =>
    ld ((.int .i64) : Kd) h21 (a25.add ((s20.2.1 : Int).toNat * 1)) fun t26 =>
    (((decide (t26 = s15.2.1)) = true →
    ref22_more.j2 go22 s20 ((w64 (s20.1 + 1)), ()) h21) ∧
    ((decide (t26 = s15.2.1)) = false →
    ref22_more.j2 go22 s20 (s20.1, ()) h21))) ∧
    ((decide (s20.2.1 < (picks2.len : Int))) = false →
    (0 ≤ s15.2.1 ∧ s15.2.1 < (s1.2.2.1.len : Int)) ∧
    deref s1.2.2.1.a fun a27 =>
    ld (.sl : Kd) h21 (a27.add ((s15.2.1 : Int).toNat * 1)) fun t28 =>
    (((decide (s20.1 < (t28.len : Int))) = true →
    new h21 (([] : List (Den ((.int .i64) : Kd))).flatMap (Kd.cells ((.int .i64) : Kd))) fun p29 h30 =>
    appendM 1 8 h30 ⟨some p29, 0, 0⟩ picks2 fun t31 h32 =>
    new h32 (([s15.2.1] : List (Den ((.int .i64) : Kd))).flatMap (Kd.cells ((.int .i64) : Kd))) fun p33 h34 =>
    appendM 1 8 h34 t31 ⟨some p33, 1, 1⟩ fun t35 h36 =>
    c_ref22_more (s1.1, (s1.2.1, (s1.2.2.1, ()))) t35 s15.1 h36 fun r37 h38 =>
    ref22_more.j1 go17 s15 (r37, ()) h38) ∧
    ((decide (s20.1 < (t28.len : Int))) = false →
    ref22_more.j1 go17 s15 (s15.1, ()) h21))))
def ref22_more.l4 (c_ref22_more : Den kapiScene → Sl → Sl → Heap → (Sl → Heap → Prop) → Prop) (s1 : Den kapiScene) (picks2 : Sl) (Q : Sl → Heap → Prop) (go17 : (Sl × (Int × Unit)) → Heap → Prop) (s15 : (Sl × (Int × Unit))) (h16 : Heap) : Prop :=
    (((decide (s15.2.1 < (s1.2.2.1.len : Int))) = true →
    Loop (ref22_more.l3 c_ref22_more s1 picks2 go17 s15) (0, 0, ()) h16) ∧
    ((decide (s15.2.1 < (s1.2.2.1.len : Int))) = false →
    Q s15.1 h16))
def ref22_more.M (c_ref22_acts : Den kapiScene → Heap → (Int → Heap → Prop) → Prop) (c_ref22_more : Den kapiScene → Sl → Sl → Heap → (Sl → Heap → Prop) → Prop) (s1 : Den kapiScene) (picks2 : Sl) (l3 : Sl) (h4 : Heap) (Q : Sl → Heap → Prop) : Prop :=
    c_ref22_acts (s1.1, (s1.2.1, (s1.2.2.1, ()))) h4 fun r5 h6 =>
    (((decide ((picks2.len : Int) = r5)) = true →
    new h6 (([] : List (Den ((.int .i64) : Kd))).flatMap (Kd.cells ((.int .i64) : Kd))) fun p7 h8 =>
    appendM 1 8 h8 ⟨some p7, 0, 0⟩ picks2 fun t9 h10 =>
    new h10 (([t9] : List (Den (.sl : Kd))).flatMap (Kd.cells (.sl : Kd))) fun p11 h12 =>
    appendM 1 24 h12 l3 ⟨some p11, 1, 1⟩ fun t13 h14 =>
    Q t13 h14) ∧
    ((decide ((picks2.len : Int) = r5)) = false →
    Loop (ref22_more.l4 c_ref22_more s1 picks2 Q) (l3, 0, ()) h6))
def ref22_more.mk : Mk := (.s (.r [0]) (.s (.s .d (.c (.s .d (.s .d .d)) .d)) (.s (.s .d (.b (.l [.slot 2 .sl, .slot 8 (.int .i64)] (.s (.s .d (.c .d .d)) (.j [.slot 2 .sl] (.b (.s .d (.s (.s .d (.b (.l [.slot 9 (.int .i64), .slot 10 (.int .i64)] (.s (.s .d (.c .d .d)) (.j [.slot 9 (.int .i64)] (.b (.s .d (.c .d .d))) .d))))) (.s .d (.c (.s .d (.s .d .d)) .d))))) .d))))) (.s .d .d))))

def ref22_Row.l1 (s1 : Den kapiScene) (picks2 : Sl) (Q : Sl → Heap → Prop) (go6 : (Sl × (Int × (((Fin 4 → Int) × Unit) × Unit))) → Heap → Prop) (s4 : (Sl × (Int × (((Fin 4 → Int) × Unit) × Unit)))) (h5 : Heap) : Prop :=
    (((decide (s4.2.1 < (picks2.len : Int))) = true →
    (0 ≤ s4.2.1 ∧ s4.2.1 < (picks2.len : Int)) ∧
    deref picks2.a fun a7 =>
    ld ((.int .i64) : Kd) h5 (a7.add ((s4.2.1 : Int).toNat * 1)) fun t8 =>
    (0 ≤ t8 ∧ t8 < (4 : Int)) ∧
    (0 ≤ t8 ∧ t8 < (s1.2.2.1.len : Int)) ∧
    deref s1.2.2.1.a fun a9 =>
    ld (.sl : Kd) h5 (a9.add ((t8 : Int).toNat * 1)) fun t10 =>
    (0 ≤ (aget (n := 4) (a := ((.int .i64) : Kd)) s4.2.2.1.1 (t8 : Int).toNat) ∧ (aget (n := 4) (a := ((.int .i64) : Kd)) s4.2.2.1.1 (t8 : Int).toNat) < (t10.len : Int)) ∧
    deref t10.a fun a11 =>
    ld kapiAct h5 (a11.add (((aget (n := 4) (a := ((.int .i64) : Kd)) s4.2.2.1.1 (t8 : Int).toNat) : Int).toNat * 5)) fun t12 =>
    new h5 (([(t8, ((t12.1, (t12.2.1, (t12.2.2.1, (t12.2.2.2.1, (t12.2.2.2.2.1, ()))))), ()))] : List (Den kref22Act)).flatMap (Kd.cells kref22Act)) fun p13 h14 =>
    appendM 6 48 h14 s4.1 ⟨some p13, 1, 1⟩ fun t15 h16 =>
    (0 ≤ t8 ∧ t8 < (4 : Int)) ∧
    (0 ≤ t8 ∧ t8 < (4 : Int)) ∧
    go6 (t15, (w64 (s4.2.1 + 1)), ((aset (n := 4) (a := ((.int .i64) : Kd)) s4.2.2.1.1 (t8 : Int).toNat (w64 ((aget (n := 4) (a := ((.int .i64) : Kd)) s4.2.2.1.1 (t8 : Int).toNat) + 1))), ()), ()) h16) ∧
    ((decide (s4.2.1 < (picks2.len : Int))) = false →
    Q s4.1 h5))
def ref22_Row.M  (s1 : Den kapiScene) (picks2 : Sl) (h3 : Heap) (Q : Sl → Heap → Prop) : Prop :=
    Loop (ref22_Row.l1 s1 picks2 Q) (⟨none, 0, 0⟩, 0, ((fun _ => 0), ()), ()) h3
def ref22_Row.mk : Mk := (.s (.r [0]) (.s (.r [0]) (.s .d (.s (.s .d (.b (.l [.slot 6 .sl, .slot 7 (.int .i64), .box 5 (.pair (.arr 4 (.int .i64)) .nil)] (.s (.s .d (.c .d .d)) (.s (.b (.s .d (.s (.q [] [] [.p 0, .p 1, .p 2, .p 4, .p 7, .p 8, .w 3 [3, 5, 6, 10, 11, 12, 13, 14, 15], .p 5, .w 6 [6, 10, 11, 12, 13, 14, 15], .w 9 [9, 10, 11, 12, 13, 14, 15], .p 10, .w 11 [11, 12, 13, 14, 15], .p 12, .o 13, .o 14, .p 15]) .d))) .d))))) (.s .d .d)))))

def ref22_first.l1 (c_ref22_bound : Den kapiScene → Den kref22Act → Den kref22Act → Heap → (Bool → Heap → Prop) → Prop) (s1 : Den kapiScene) (l2 : Sl) (Q : Int → Heap → Prop) (s5 : (Int × Unit)) (go12 : (Int × Unit) → Heap → Prop) (s10 : (Int × Unit)) (h11 : Heap) : Prop :=
    (((decide (s10.1 < s5.1)) = true →
    (0 ≤ s10.1 ∧ s10.1 < (l2.len : Int)) ∧
    deref l2.a fun a13 =>
    (0 ≤ s5.1 ∧ s5.1 < (l2.len : Int)) ∧
    deref l2.a fun a14 =>
    ld kref22Act h11 (a13.add ((s10.1 : Int).toNat * 6)) fun t15 =>
    ld kref22Act h11 (a14.add ((s5.1 : Int).toNat * 6)) fun t16 =>
    c_ref22_bound (s1.1, (s1.2.1, (s1.2.2.1, ()))) t15 t16 h11 fun r17 h18 =>
    ((r17 = true →
    Q (-1) h18) ∧
    (r17 = false →
    go12 ((w64 (s10.1 + 1)), ()) h18))) ∧
    ((decide (s10.1 < s5.1)) = false →
    Q s5.1 h11))
def ref22_first.l2 (c_ref22_bound : Den kapiScene → Den kref22Act → Den kref22Act → Heap → (Bool → Heap → Prop) → Prop) (s1 : Den kapiScene) (l2 : Sl) (who3 : Int) (Q : Int → Heap → Prop) (go7 : (Int × Unit) → Heap → Prop) (s5 : (Int × Unit)) (h6 : Heap) : Prop :=
    (((decide (s5.1 < (l2.len : Int))) = true →
    (0 ≤ s5.1 ∧ s5.1 < (l2.len : Int)) ∧
    deref l2.a fun a8 =>
    ld ((.int .i64) : Kd) h6 ((a8.add ((s5.1 : Int).toNat * 6)).add 0) fun t9 =>
    (((decide (t9 ≠ who3)) = true →
    go7 ((w64 (s5.1 + 1)), ()) h6) ∧
    ((decide (t9 ≠ who3)) = false →
    Loop (ref22_first.l1 c_ref22_bound s1 l2 Q s5) (0, ()) h6))) ∧
    ((decide (s5.1 < (l2.len : Int))) = false →
    Q (-1) h6))
def ref22_first.M (c_ref22_bound : Den kapiScene → Den kref22Act → Den kref22Act → Heap → (Bool → Heap → Prop) → Prop) (s1 : Den kapiScene) (l2 : Sl) (who3 : Int) (h4 : Heap) (Q : Int → Heap → Prop) : Prop :=
    Loop (ref22_first.l2 c_ref22_bound s1 l2 who3 Q) (0, ()) h4
def ref22_first.mk : Mk := (.s (.r [0]) (.s (.s .d (.b (.l [.slot 7 (.int .i64)] (.s (.s .d (.c .d .d)) (.s (.b (.s (.s .d (.c .d .d)) (.s (.s .d (.b (.l [.slot 8 (.int .i64)] (.s (.s .d (.c .d .d)) (.s (.b (.s (.q [] [] [.p 1, .p 2, .p 3, .p 5, .p 6, .p 7, .w 0 [0, 9], .w 4 [4, 9], .w 8 [8, 9], .o 9]) (.c (.s .d .d) .d))) .d))))) (.s .d .d)))) .d))))) (.s .d .d)))

def ref22_without.j1 (go6 : (Sl × (Int × Unit)) → Heap → Prop) (s4 : (Sl × (Int × Unit))) (s7 : (Sl × Unit)) (h8 : Heap) : Prop :=
    go6 (s7.1, (w64 (s4.2.1 + 1)), ()) h8
def ref22_without.l2 (l1 : Sl) (at_2 : Int) (Q : Sl → Heap → Prop) (go6 : (Sl × (Int × Unit)) → Heap → Prop) (s4 : (Sl × (Int × Unit))) (h5 : Heap) : Prop :=
    (((decide (s4.2.1 < (l1.len : Int))) = true →
    (((decide (s4.2.1 ≠ at_2)) = true →
    (0 ≤ s4.2.1 ∧ s4.2.1 < (l1.len : Int)) ∧
    deref l1.a fun a9 =>
    ld kref22Act h5 (a9.add ((s4.2.1 : Int).toNat * 6)) fun t10 =>
    new h5 (([t10] : List (Den kref22Act)).flatMap (Kd.cells kref22Act)) fun p11 h12 =>
    appendM 6 48 h12 s4.1 ⟨some p11, 1, 1⟩ fun t13 h14 =>
    ref22_without.j1 go6 s4 (t13, ()) h14) ∧
    ((decide (s4.2.1 ≠ at_2)) = false →
    ref22_without.j1 go6 s4 (s4.1, ()) h5))) ∧
    ((decide (s4.2.1 < (l1.len : Int))) = false →
    Q s4.1 h5))
def ref22_without.M  (l1 : Sl) (at_2 : Int) (h3 : Heap) (Q : Sl → Heap → Prop) : Prop :=
    Loop (ref22_without.l2 l1 at_2 Q) (⟨none, 0, 0⟩, 0, ()) h3
def ref22_without.mk : Mk := (.s .d (.s .d (.s (.s .d (.b (.l [.slot 5 .sl, .slot 6 (.int .i64)] (.s (.s .d (.c .d .d)) (.j [.slot 5 .sl] (.b (.s .d (.c .d .d))) .d))))) (.s .d .d))))

def explore_isScript.j1 (go15 : (Int × Unit) → Heap → Prop) (s13 : (Int × Unit)) (s16 : Unit) (h17 : Heap) : Prop :=
    go15 ((w64 (s13.1 + 1)), ()) h17
def explore_isScript.j2 (s4 : Sl) (go15 : (Int × Unit) → Heap → Prop) (s13 : (Int × Unit)) (t19 : Int) (s20 : Unit) (h21 : Heap) : Prop :=
    (0 ≤ t19 ∧ t19 < (s4.len : Int)) ∧
    deref s4.a fun a22 =>
    ld ((.int .i64) : Kd) h21 (a22.add ((t19 : Int).toNat * 1)) fun t23 =>
    (0 ≤ t19 ∧ t19 < (s4.len : Int)) ∧
    deref s4.a fun a24 =>
    st ((.int .i64) : Kd) h21 (a24.add ((t19 : Int).toNat * 1)) (w64 (t23 - 1)) fun h25 =>
    explore_isScript.j1 go15 s13 () h25
def explore_isScript.j3 (Q : Bool → Heap → Prop) (s4 : Sl) (go15 : (Int × Unit) → Heap → Prop) (s13 : (Int × Unit)) (t19 : Int) (s26 : (Bool × Unit)) (h27 : Heap) : Prop :=
    ((s26.1 = true →
    Q false h27) ∧
    (s26.1 = false →
    explore_isScript.j2 s4 go15 s13 t19 () h27))
def explore_isScript.l4 (c_slices_ContainsFunc_int_int : Sl → Value → Heap → (Bool → Heap → Prop) → Prop) (picks2 : Sl) (Q : Bool → Heap → Prop) (s4 : Sl) (go15 : (Int × Unit) → Heap → Prop) (s13 : (Int × Unit)) (h14 : Heap) : Prop :=
    (((decide (s13.1 < (picks2.len : Int))) = true →
    (0 ≤ s13.1 ∧ s13.1 < (picks2.len : Int)) ∧
    deref picks2.a fun a18 =>
    ld ((.int .i64) : Kd) h14 (a18.add ((s13.1 : Int).toNat * 1)) fun t19 =>
    (((decide (t19 < 0)) = true →
    explore_isScript.j3 Q s4 go15 s13 t19 (true, ()) h14) ∧
    ((decide (t19 < 0)) = false →
    (((decide ((s4.len : Int) ≤ t19)) = true →
    explore_isScript.j3 Q s4 go15 s13 t19 (true, ()) h14) ∧
    ((decide ((s4.len : Int) ≤ t19)) = false →
    (0 ≤ t19 ∧ t19 < (s4.len : Int)) ∧
    deref s4.a fun a28 =>
    ld ((.int .i64) : Kd) h14 (a28.add ((t19 : Int).toNat * 1)) fun t29 =>
    explore_isScript.j3 Q s4 go15 s13 t19 ((decide (t29 = 0)), ()) h14))))) ∧
    ((decide (s13.1 < (picks2.len : Int))) = false →
    c_slices_ContainsFunc_int_int s4 (Value.func (.func 82) #[] #[]) h14 fun r30 h31 =>
    Q (!r30) h31))
def explore_isScript.l5 (c_slices_ContainsFunc_int_int : Sl → Value → Heap → (Bool → Heap → Prop) → Prop) (s1 : Den kapiScene) (picks2 : Sl) (Q : Bool → Heap → Prop) (s4 : Sl) (go8 : (Int × Unit) → Heap → Prop) (s6 : (Int × Unit)) (h7 : Heap) : Prop :=
    (((decide (s6.1 < (s1.2.2.1.len : Int))) = true →
    (0 ≤ s6.1 ∧ s6.1 < (s1.2.2.1.len : Int)) ∧
    deref s1.2.2.1.a fun a9 =>
    ld (.sl : Kd) h7 (a9.add ((s6.1 : Int).toNat * 1)) fun t10 =>
    (0 ≤ s6.1 ∧ s6.1 < (s4.len : Int)) ∧
    deref s4.a fun a11 =>
    st ((.int .i64) : Kd) h7 (a11.add ((s6.1 : Int).toNat * 1)) (t10.len : Int) fun h12 =>
    go8 ((w64 (s6.1 + 1)), ()) h12) ∧
    ((decide (s6.1 < (s1.2.2.1.len : Int))) = false →
    Loop (explore_isScript.l4 c_slices_ContainsFunc_int_int picks2 Q s4) (0, ()) h7))
def explore_isScript.M (c_slices_ContainsFunc_int_int : Sl → Value → Heap → (Bool → Heap → Prop) → Prop) (s1 : Den kapiScene) (picks2 : Sl) (h3 : Heap) (Q : Bool → Heap → Prop) : Prop :=
    makeM ((.int .i64) : Kd) 8 h3 (s1.2.2.1.len : Int) (s1.2.2.1.len : Int) fun s4 h5 =>
    Loop (explore_isScript.l5 c_slices_ContainsFunc_int_int s1 picks2 Q s4) (0, ()) h5
def explore_isScript.mk : Mk := (.s (.r [0]) (.s .d (.s (.s .d (.b (.l [.slot 17 (.int .i64)] (.s .d (.s (.c .d .d) (.s (.b (.s .d .d)) .d)))))) (.s (.s .d (.b (.l [.slot 30 (.int .i64)] (.s .d (.s (.c .d .d) (.j [] (.b (.s .d (.j [] (.j [.slot 48 .bool] .d (.c (.s .d .d) .d)) .d))) .d)))))) (.s .d .d)))))

def ref22_Script.j1 (go8 : (Int × (((Fin 4 → Int) × Unit) × Unit)) → Heap → Prop) (s6 : (Int × (((Fin 4 → Int) × Unit) × Unit))) (s9 : (((Fin 4 → Int) × Unit) × Unit)) (h10 : Heap) : Prop :=
    go8 ((w64 (s6.1 + 1)), (s9.1.1, ()), ()) h10
def ref22_Script.j2 (go8 : (Int × (((Fin 4 → Int) × Unit) × Unit)) → Heap → Prop) (s6 : (Int × (((Fin 4 → Int) × Unit) × Unit))) (t12 : Int) (s13 : Unit) (h14 : Heap) : Prop :=
    (0 ≤ t12 ∧ t12 < (4 : Int)) ∧
    (0 ≤ t12 ∧ t12 < (4 : Int)) ∧
    ref22_Script.j1 go8 s6 (((aset (n := 4) (a := ((.int .i64) : Kd)) s6.2.1.1 (t12 : Int).toNat (w64 ((aget (n := 4) (a := ((.int .i64) : Kd)) s6.2.1.1 (t12 : Int).toNat) + 1))), ()), ()) h14
def ref22_Script.j3 (Q : Bool → Heap → Prop) (go8 : (Int × (((Fin 4 → Int) × Unit) × Unit)) → Heap → Prop) (s6 : (Int × (((Fin 4 → Int) × Unit) × Unit))) (t12 : Int) (s15 : (Bool × Unit)) (h16 : Heap) : Prop :=
    ((s15.1 = true →
    Q false h16) ∧
    (s15.1 = false →
    ref22_Script.j2 go8 s6 t12 () h16))
def ref22_Script.l4 (s1 : Den kapiScene) (Q : Bool → Heap → Prop) (s6 : (Int × (((Fin 4 → Int) × Unit) × Unit))) (go19 : (Int × Unit) → Heap → Prop) (s17 : (Int × Unit)) (h18 : Heap) : Prop :=
    (((decide (s17.1 < (s1.2.2.1.len : Int))) = true →
    (0 ≤ s17.1 ∧ s17.1 < (4 : Int)) ∧
    (0 ≤ s17.1 ∧ s17.1 < (s1.2.2.1.len : Int)) ∧
    deref s1.2.2.1.a fun a20 =>
    ld (.sl : Kd) h18 (a20.add ((s17.1 : Int).toNat * 1)) fun t21 =>
    (((decide ((aget (n := 4) (a := ((.int .i64) : Kd)) s6.2.1.1 (s17.1 : Int).toNat) ≠ (t21.len : Int))) = true →
    Q false h18) ∧
    ((decide ((aget (n := 4) (a := ((.int .i64) : Kd)) s6.2.1.1 (s17.1 : Int).toNat) ≠ (t21.len : Int))) = false →
    go19 ((w64 (s17.1 + 1)), ()) h18))) ∧
    ((decide (s17.1 < (s1.2.2.1.len : Int))) = false →
    Q true h18))
def ref22_Script.l5 (s1 : Den kapiScene) (picks2 : Sl) (Q : Bool → Heap → Prop) (go8 : (Int × (((Fin 4 → Int) × Unit) × Unit)) → Heap → Prop) (s6 : (Int × (((Fin 4 → Int) × Unit) × Unit))) (h7 : Heap) : Prop :=
    (((decide (s6.1 < (picks2.len : Int))) = true →
    (0 ≤ s6.1 ∧ s6.1 < (picks2.len : Int)) ∧
    deref picks2.a fun a11 =>
    ld ((.int .i64) : Kd) h7 (a11.add ((s6.1 : Int).toNat * 1)) fun t12 =>
    (((decide (t12 < 0)) = true →
    ref22_Script.j3 Q go8 s6 t12 (true, ()) h7) ∧
    ((decide (t12 < 0)) = false →
    ref22_Script.j3 Q go8 s6 t12 ((decide ((s1.2.2.1.len : Int) ≤ t12)), ()) h7))) ∧
    ((decide (s6.1 < (picks2.len : Int))) = false →
    Loop (ref22_Script.l4 s1 Q s6) (0, ()) h7))
def ref22_Script.M (c_ref22_acts : Den kapiScene → Heap → (Int → Heap → Prop) → Prop) (s1 : Den kapiScene) (picks2 : Sl) (h3 : Heap) (Q : Bool → Heap → Prop) : Prop :=
    c_ref22_acts (s1.1, (s1.2.1, (s1.2.2.1, ()))) h3 fun r4 h5 =>
    (((decide ((picks2.len : Int) ≠ r4)) = true →
    Q false h5) ∧
    ((decide ((picks2.len : Int) ≠ r4)) = false →
    Loop (ref22_Script.l5 s1 picks2 Q) (0, ((fun _ => 0), ()), ()) h5))
def ref22_Script.mk : Mk := (.s (.r [0]) (.s (.s .d (.c (.s .d .d) .d)) (.s (.r [0]) (.s (.s .d (.b (.l [.slot 6 (.int .i64), .box 5 (.pair (.arr 4 (.int .i64)) .nil)] (.s (.s .d (.c .d .d)) (.j [.box 5 (.pair (.arr 4 (.int .i64)) .nil)] (.b (.s .d (.j [] (.j [.slot 32 .bool] .d (.c (.s .d .d) .d)) .d))) .d))))) (.s (.s .d (.b (.l [.slot 8 (.int .i64)] (.s (.s .d (.c .d .d)) (.s (.b (.s (.q [] [] [.p 0, .p 1, .p 3, .p 5, .w 2 [2, 9], .w 4 [4, 6, 7, 8, 9], .p 6, .w 7 [7, 8, 9], .p 8, .p 9]) (.c (.s .d .d) .d))) .d))))) (.s .d .d))))))

def cells_New.M (c_cells_good : Int → Heap → (Bool → Heap → Prop) → Prop) (size1 : Int) (h2 : Heap) (Q : (Option Addr × (Int × Unit)) → Heap → Prop) : Prop :=
    c_cells_good size1 h2 fun r3 h4 =>
    (((!r3) = true →
    Q (none, 3, ()) h4) ∧
    ((!r3) = false →
    new h4 (kcellsArena.cells ((size1, (0, ())), (Sl.none, (Sl.none, (0, (false, ())))))) fun p5 h6 =>
    Q ((some p5), 0, ()) h6))
def cells_New.mk : Mk := (.s .d (.s (.s .d (.c (.s .d .d) .d)) (.s .d .d)))

def cells_Arena_Reserve.j1 (c_cells_ledger_refuse : Option Addr → Int → Heap → (Int → Heap → Prop) → Prop) (c_cells_ledger_take : Option Addr → Int → Heap → (Int → Heap → Prop) → Prop) (c_cells_Arena_note : Option Addr → Int → Int → Int → Int → Bool → Heap → (Unit → Heap → Prop) → Prop) (a1 : Option Addr) (n2 : Int) (Q : Den kcellsledger → Heap → Prop) (s4 : (Option Addr × Unit)) (h5 : Heap) : Prop :=
    c_cells_ledger_refuse s4.1 n2 h5 fun r6 h7 =>
    (((decide (r6 ≠ 0)) = true →
    Q (0, r6, ()) h7) ∧
    ((decide (r6 ≠ 0)) = false →
    c_cells_ledger_take s4.1 n2 h7 fun r8 h9 =>
    deref a1 fun a10 =>
    ld (.sl : Kd) h9 (a10.add 2) fun t11 =>
    appendZM ((.int .i64) : Kd) 8 h9 t11 n2 fun t12 h13 =>
    deref a1 fun a14 =>
    st (.sl : Kd) h13 (a14.add 2) t12 fun h15 =>
    c_cells_Arena_note a1 4 r8 n2 0 true h15 fun r16 h17 =>
    Q (r8, 0, ()) h17))
def cells_Arena_Reserve.M (c_cells_ledger_refuse : Option Addr → Int → Heap → (Int → Heap → Prop) → Prop) (c_cells_ledger_take : Option Addr → Int → Heap → (Int → Heap → Prop) → Prop) (c_cells_Arena_note : Option Addr → Int → Int → Int → Int → Bool → Heap → (Unit → Heap → Prop) → Prop) (a1 : Option Addr) (n2 : Int) (h3 : Heap) (Q : Den kcellsledger → Heap → Prop) : Prop :=
    (((Option.isSome a1) = true →
    deref a1 fun a18 =>
    cells_Arena_Reserve.j1 c_cells_ledger_refuse c_cells_ledger_take c_cells_Arena_note a1 n2 Q ((some (a18.add 0)), ()) h3) ∧
    ((Option.isSome a1) = false →
    cells_Arena_Reserve.j1 c_cells_ledger_refuse c_cells_ledger_take c_cells_Arena_note a1 n2 Q (none, ()) h3))
def cells_Arena_Reserve.mk : Mk := (.s .d (.s .d (.j [.slot 6 .ptr] (.s .d (.c .d .d)) (.s (.s .d (.s .d (.c (.s .d .d) .d))) (.s .d (.s .d (.s .d (.s .d .d))))))))

def cells_Arena_Store.M (c_cells_Arena_outside : Option Addr → Int → Heap → (Bool → Heap → Prop) → Prop) (c_cells_Arena_note : Option Addr → Int → Int → Int → Int → Bool → Heap → (Unit → Heap → Prop) → Prop) (a1 : Option Addr) (addr2 : Int) (v3 : Int) (h4 : Heap) (Q : Int → Heap → Prop) : Prop :=
    c_cells_Arena_outside a1 addr2 h4 fun r5 h6 =>
    ((r5 = true →
    Q 20 h6) ∧
    (r5 = false →
    deref a1 fun a7 =>
    ld (.sl : Kd) h6 (a7.add 2) fun t8 =>
    (0 ≤ addr2 ∧ addr2 < (t8.len : Int)) ∧
    deref t8.a fun a9 =>
    st ((.int .i64) : Kd) h6 (a9.add ((addr2 : Int).toNat * 1)) v3 fun h10 =>
    c_cells_Arena_note a1 1 addr2 v3 0 true h10 fun r11 h12 =>
    Q 0 h12))
def cells_Arena_Store.mk : Mk := (.s .d (.s (.s .d (.c (.s .d .d) .d)) (.s .d (.s .d (.s .d .d)))))

def explore_act.j1 (Q : Den kapiEffect → Heap → Prop) (s4 : (Den kapiEffect × Unit)) (h5 : Heap) : Prop :=
    Q (s4.1.1, ((decide (s4.1.2.2.1 = 0)), (s4.1.2.2.1, ()))) h5
def explore_act.M (c_cells_Arena_Load : Option Addr → Int → Heap → (Den kcellsledger → Heap → Prop) → Prop) (c_cells_Arena_Store : Option Addr → Int → Int → Heap → (Int → Heap → Prop) → Prop) (c_cells_Arena_CAS : Option Addr → Int → Int → Int → Heap → ((Bool × (Int × Unit)) → Heap → Prop) → Prop) (c_cells_Arena_Add : Option Addr → Int → Int → Heap → (Den kcellsledger → Heap → Prop) → Prop) (c_cells_Arena_Reserve : Option Addr → Int → Heap → (Den kcellsledger → Heap → Prop) → Prop) (a1 : Option Addr) (x2 : Den kapiAct) (h3 : Heap) (Q : Den kapiEffect → Heap → Prop) : Prop :=
    (((decide (x2.2.1 = 0)) = true →
    c_cells_Arena_Load a1 x2.2.2.1 h3 fun r6 h7 =>
    explore_act.j1 Q ((r6.1, (false, (r6.2.1, ()))), ()) h7) ∧
    ((decide (x2.2.1 = 0)) = false →
    (((decide (x2.2.1 = 1)) = true →
    c_cells_Arena_Store a1 x2.2.2.1 x2.2.2.2.1 h3 fun r8 h9 =>
    explore_act.j1 Q ((0, (false, (r8, ()))), ()) h9) ∧
    ((decide (x2.2.1 = 1)) = false →
    (((decide (x2.2.1 = 2)) = true →
    c_cells_Arena_CAS a1 x2.2.2.1 x2.2.2.2.1 x2.2.2.2.2.1 h3 fun r10 h11 =>
    Q (0, (r10.1, (r10.2.1, ()))) h11) ∧
    ((decide (x2.2.1 = 2)) = false →
    (((decide (x2.2.1 = 3)) = true →
    c_cells_Arena_Add a1 x2.2.2.1 x2.2.2.2.1 h3 fun r12 h13 =>
    explore_act.j1 Q ((r12.1, (false, (r12.2.1, ()))), ()) h13) ∧
    ((decide (x2.2.1 = 3)) = false →
    c_cells_Arena_Reserve a1 x2.2.2.2.1 h3 fun r14 h15 =>
    explore_act.j1 Q ((r14.1, (false, (r14.2.1, ()))), ()) h15))))))))
def explore_act.mk : Mk := (.s (.r [0, 1]) (.j [.box 4 kapiEffect] (.s .d (.b (.s .d (.c .d (.s .d (.c .d (.s .d (.c (.s .d (.s .d .d)) (.s .d (.c .d (.s .d .d))))))))))) (.s .d (.s .d .d))))

def cells_Arena_Cells.M  (a1 : Option Addr) (h2 : Heap) (Q : Sl → Heap → Prop) : Prop :=
    (((Option.isNone a1) = true →
    Q ⟨none, 0, 0⟩ h2) ∧
    ((Option.isNone a1) = false →
    deref a1 fun a3 =>
    ld (.sl : Kd) h2 (a3.add 2) fun t4 =>
    makeM ((.int .i64) : Kd) 8 h2 (t4.len : Int) (t4.len : Int) fun s5 h6 =>
    deref a1 fun a7 =>
    ld (.sl : Kd) h6 (a7.add 2) fun t8 =>
    copyM 1 h6 s5 t8 fun n9 h10 =>
    Q s5 h10))
def cells_Arena_Cells.mk : Mk := (.s .d (.s (.s .d (.c (.s .d .d) .d)) (.s .d (.s .d (.s .d .d)))))

def ref22_bound.M (c_ref22_Depends : Den kapiScene → Den kapiAct → Den kapiAct → Heap → (Bool → Heap → Prop) → Prop) (s1 : Den kapiScene) (a2 : Den kref22Act) (b3 : Den kref22Act) (h4 : Heap) (Q : Bool → Heap → Prop) : Prop :=
    (((decide (a2.1 = b3.1)) = true →
    Q true h4) ∧
    ((decide (a2.1 = b3.1)) = false →
    c_ref22_Depends (s1.1, (s1.2.1, (s1.2.2.1, ()))) (a2.2.1.1, (a2.2.1.2.1, (a2.2.1.2.2.1, (a2.2.1.2.2.2.1, (a2.2.1.2.2.2.2.1, ()))))) (b3.2.1.1, (b3.2.1.2.1, (b3.2.1.2.2.1, (b3.2.1.2.2.2.1, (b3.2.1.2.2.2.2.1, ()))))) h4 fun r5 h6 =>
    Q r5 h6))
def ref22_bound.mk : Mk := (.s (.r [0, 1, 2]) (.s .d .d))

def slices_ContainsFunc_int_int.M (c_slices_IndexFunc_int_int : Sl → Value → Heap → (Int → Heap → Prop) → Prop) (s1 : Sl) (f2 : Value) (h3 : Heap) (Q : Bool → Heap → Prop) : Prop :=
    c_slices_IndexFunc_int_int s1 f2 h3 fun r4 h5 =>
    Q (decide ((0 : Int) ≤ r4)) h5
def slices_ContainsFunc_int_int.mk : Mk := (.s .d (.s .d .d))

def explore_isScript_1.M  (n1 : Int) (h2 : Heap) (Q : Bool → Heap → Prop) : Prop :=
    Q (decide ((0 : Int) < n1)) h2
def explore_isScript_1.mk : Mk := (.s .d (.s .d .d))

def cells_good.M  (size1 : Int) (h2 : Heap) (Q : Bool → Heap → Prop) : Prop :=
    (((decide ((0 : Int) ≤ size1)) = true →
    Q (decide (size1 ≤ 1048576)) h2) ∧
    ((decide ((0 : Int) ≤ size1)) = false →
    Q false h2))
def cells_good.mk : Mk := (.s .d (.s .d .d))

def cells_ledger_refuse.j1 (Q : Int → Heap → Prop) (s4 : Unit) (h5 : Heap) : Prop :=
    Q 0 h5
def cells_ledger_refuse.j2 (Q : Int → Heap → Prop) (s6 : (Bool × Unit)) (h7 : Heap) : Prop :=
    ((s6.1 = true →
    Q 22 h7) ∧
    (s6.1 = false →
    cells_ledger_refuse.j1 Q () h7))
def cells_ledger_refuse.M  (l1 : Option Addr) (n2 : Int) (h3 : Heap) (Q : Int → Heap → Prop) : Prop :=
    (((decide (n2 < 1)) = true →
    Q 21 h3) ∧
    ((decide (n2 < 1)) = false →
    (((Option.isNone l1) = true →
    cells_ledger_refuse.j2 Q (true, ()) h3) ∧
    ((Option.isNone l1) = false →
    deref l1 fun a8 =>
    deref l1 fun a9 =>
    ld ((.int .i64) : Kd) h3 (a8.add 0) fun t10 =>
    ld ((.int .i64) : Kd) h3 (a9.add 1) fun t11 =>
    cells_ledger_refuse.j2 Q ((decide ((w64 (t10 - t11)) < n2)), ()) h3))))
def cells_ledger_refuse.mk : Mk := (.s .d (.s (.s .d (.c (.s .d .d) .d)) (.j [] (.j [.slot 21 .bool] (.q [] [] [.p 0, .p 1, .p 2, .p 3, .p 4, .p 5, .p 6, .p 8, .p 9, .p 10, .w 7 [7, 12, 13, 14], .w 11 [11, 12, 13, 14], .p 12, .p 13, .p 14]) (.c (.s .d .d) .d)) (.s .d .d))))

def cells_ledger_take.M  (l1 : Option Addr) (n2 : Int) (h3 : Heap) (Q : Int → Heap → Prop) : Prop :=
    deref l1 fun a4 =>
    ld ((.int .i64) : Kd) h3 (a4.add 1) fun t5 =>
    deref l1 fun a6 =>
    ld ((.int .i64) : Kd) h3 (a6.add 1) fun t7 =>
    deref l1 fun a8 =>
    st ((.int .i64) : Kd) h3 (a8.add 1) (w64 (t7 + n2)) fun h9 =>
    Q t5 h9
def cells_ledger_take.mk : Mk := (.s .d (.s .d (.s .d (.s .d .d))))

def cells_Arena_note.M  (a1 : Option Addr) (kind2 : Int) (addr3 : Int) (x4 : Int) (y5 : Int) (ok6 : Bool) (h7 : Heap) (Q : Unit → Heap → Prop) : Prop :=
    deref a1 fun a8 =>
    ld (.bool : Kd) h7 (a8.add 5) fun t9 =>
    ((t9 = true →
    deref a1 fun a10 =>
    deref a1 fun a11 =>
    ld (.sl : Kd) h7 (a10.add 3) fun t12 =>
    ld ((.int .i64) : Kd) h7 (a11.add 4) fun t13 =>
    new h7 (([(t13, (kind2, (addr3, (x4, (y5, (ok6, ()))))))] : List (Den kapiAccess)).flatMap (Kd.cells kapiAccess)) fun p14 h15 =>
    appendM 6 48 h15 t12 ⟨some p14, 1, 1⟩ fun t16 h17 =>
    deref a1 fun a18 =>
    st (.sl : Kd) h17 (a18.add 3) t16 fun h19 =>
    Q () h19) ∧
    (t9 = false →
    Q () h7))
def cells_Arena_note.mk : Mk := (.s .d (.c (.q [] [] [.p 0, .p 1, .p 2, .p 3, .p 5, .p 6, .p 7, .p 9, .p 10, .p 11, .p 12, .p 13, .w 4 [4, 16, 17, 18, 19], .w 8 [8, 14, 15, 16, 17, 18, 19], .p 14, .o 15, .o 16, .p 17, .p 18, .o 19]) .d))

def cells_Arena_outside.M (c_cells_ledger_has : Option Addr → Int → Heap → (Bool → Heap → Prop) → Prop) (a1 : Option Addr) (addr2 : Int) (h3 : Heap) (Q : Bool → Heap → Prop) : Prop :=
    (((Option.isNone a1) = true →
    Q true h3) ∧
    ((Option.isNone a1) = false →
    deref a1 fun a4 =>
    c_cells_ledger_has (some (a4.add 0)) addr2 h3 fun r5 h6 =>
    Q (!r5) h6))
def cells_Arena_outside.mk : Mk := (.s .d (.s .d .d))

def cells_Arena_Load.M (c_cells_Arena_outside : Option Addr → Int → Heap → (Bool → Heap → Prop) → Prop) (c_cells_Arena_note : Option Addr → Int → Int → Int → Int → Bool → Heap → (Unit → Heap → Prop) → Prop) (a1 : Option Addr) (addr2 : Int) (h3 : Heap) (Q : Den kcellsledger → Heap → Prop) : Prop :=
    c_cells_Arena_outside a1 addr2 h3 fun r4 h5 =>
    ((r4 = true →
    Q (0, 20, ()) h5) ∧
    (r4 = false →
    deref a1 fun a6 =>
    ld (.sl : Kd) h5 (a6.add 2) fun t7 =>
    (0 ≤ addr2 ∧ addr2 < (t7.len : Int)) ∧
    deref t7.a fun a8 =>
    ld ((.int .i64) : Kd) h5 (a8.add ((addr2 : Int).toNat * 1)) fun t9 =>
    c_cells_Arena_note a1 0 addr2 t9 0 true h5 fun r10 h11 =>
    Q (t9, 0, ()) h11))
def cells_Arena_Load.mk : Mk := (.s .d (.s (.s .d (.c (.s .d .d) .d)) (.s .d (.s .d (.s .d .d)))))

def cells_Arena_CAS.j1 (c_cells_Arena_note : Option Addr → Int → Int → Int → Int → Bool → Heap → (Unit → Heap → Prop) → Prop) (a1 : Option Addr) (addr2 : Int) (old3 : Int) (next4 : Int) (Q : (Bool × (Int × Unit)) → Heap → Prop) (t11 : Int) (s12 : Unit) (h13 : Heap) : Prop :=
    c_cells_Arena_note a1 2 addr2 old3 next4 (decide (t11 = old3)) h13 fun r14 h15 =>
    Q ((decide (t11 = old3)), 0, ()) h15
def cells_Arena_CAS.M (c_cells_Arena_outside : Option Addr → Int → Heap → (Bool → Heap → Prop) → Prop) (c_cells_Arena_note : Option Addr → Int → Int → Int → Int → Bool → Heap → (Unit → Heap → Prop) → Prop) (a1 : Option Addr) (addr2 : Int) (old3 : Int) (next4 : Int) (h5 : Heap) (Q : (Bool × (Int × Unit)) → Heap → Prop) : Prop :=
    c_cells_Arena_outside a1 addr2 h5 fun r6 h7 =>
    ((r6 = true →
    Q (false, 20, ()) h7) ∧
    (r6 = false →
    deref a1 fun a8 =>
    ld (.sl : Kd) h7 (a8.add 2) fun t9 =>
    (0 ≤ addr2 ∧ addr2 < (t9.len : Int)) ∧
    deref t9.a fun a10 =>
    ld ((.int .i64) : Kd) h7 (a10.add ((addr2 : Int).toNat * 1)) fun t11 =>
    (((decide (t11 = old3)) = true →
    deref a1 fun a16 =>
    ld (.sl : Kd) h7 (a16.add 2) fun t17 =>
    (0 ≤ addr2 ∧ addr2 < (t17.len : Int)) ∧
    deref t17.a fun a18 =>
    st ((.int .i64) : Kd) h7 (a18.add ((addr2 : Int).toNat * 1)) next4 fun h19 =>
    cells_Arena_CAS.j1 c_cells_Arena_note a1 addr2 old3 next4 Q t11 () h19) ∧
    ((decide (t11 = old3)) = false →
    cells_Arena_CAS.j1 c_cells_Arena_note a1 addr2 old3 next4 Q t11 () h7))))
def cells_Arena_CAS.mk : Mk := (.s .d (.s (.s .d (.c (.s .d .d) .d)) (.s .d (.j [] (.s .d (.c .d .d)) (.s .d (.s .d .d))))))

def cells_Arena_Add.M (c_cells_Arena_outside : Option Addr → Int → Heap → (Bool → Heap → Prop) → Prop) (c_cells_Arena_note : Option Addr → Int → Int → Int → Int → Bool → Heap → (Unit → Heap → Prop) → Prop) (a1 : Option Addr) (addr2 : Int) (d3 : Int) (h4 : Heap) (Q : Den kcellsledger → Heap → Prop) : Prop :=
    c_cells_Arena_outside a1 addr2 h4 fun r5 h6 =>
    ((r5 = true →
    Q (0, 20, ()) h6) ∧
    (r5 = false →
    deref a1 fun a7 =>
    ld (.sl : Kd) h6 (a7.add 2) fun t8 =>
    (0 ≤ addr2 ∧ addr2 < (t8.len : Int)) ∧
    deref t8.a fun a9 =>
    ld ((.int .i64) : Kd) h6 (a9.add ((addr2 : Int).toNat * 1)) fun t10 =>
    (0 ≤ addr2 ∧ addr2 < (t8.len : Int)) ∧
    deref t8.a fun a11 =>
    st ((.int .i64) : Kd) h6 (a11.add ((addr2 : Int).toNat * 1)) (w64 (t10 + d3)) fun h12 =>
    deref a1 fun a13 =>
    ld (.sl : Kd) h12 (a13.add 2) fun t14 =>
    (0 ≤ addr2 ∧ addr2 < (t14.len : Int)) ∧
    deref t14.a fun a15 =>
    ld ((.int .i64) : Kd) h12 (a15.add ((addr2 : Int).toNat * 1)) fun t16 =>
    c_cells_Arena_note a1 3 addr2 d3 t16 true h12 fun r17 h18 =>
    deref a1 fun a19 =>
    ld (.sl : Kd) h18 (a19.add 2) fun t20 =>
    (0 ≤ addr2 ∧ addr2 < (t20.len : Int)) ∧
    deref t20.a fun a21 =>
    ld ((.int .i64) : Kd) h18 (a21.add ((addr2 : Int).toNat * 1)) fun t22 =>
    Q (t22, 0, ()) h18))
def cells_Arena_Add.mk : Mk := (.s .d (.s (.s .d (.c (.s .d .d) .d)) (.s .d (.s .d (.s .d .d)))))

def slices_IndexFunc_int_int.l1 (c_fn : Value → Int → Heap → (Bool → Heap → Prop) → Prop) (s1 : Sl) (f2 : Value) (Q : Int → Heap → Prop) (go6 : (Int × Unit) → Heap → Prop) (s4 : (Int × Unit)) (h5 : Heap) : Prop :=
    (((decide (s4.1 < (s1.len : Int))) = true →
    (0 ≤ s4.1 ∧ s4.1 < (s1.len : Int)) ∧
    deref s1.a fun a7 =>
    ld ((.int .i64) : Kd) h5 (a7.add ((s4.1 : Int).toNat * 1)) fun t8 =>
    c_fn f2 t8 h5 fun r9 h10 =>
    ((r9 = true →
    Q s4.1 h10) ∧
    (r9 = false →
    go6 ((w64 (s4.1 + 1)), ()) h10))) ∧
    ((decide (s4.1 < (s1.len : Int))) = false →
    Q (-1) h5))
def slices_IndexFunc_int_int.M (c_fn : Value → Int → Heap → (Bool → Heap → Prop) → Prop) (s1 : Sl) (f2 : Value) (h3 : Heap) (Q : Int → Heap → Prop) : Prop :=
    Loop (slices_IndexFunc_int_int.l1 c_fn s1 f2 Q) (0, ()) h3
def slices_IndexFunc_int_int.mk : Mk := (.s .d (.s (.s .d (.b (.l [.slot 8 (.int .i64)] (.s .d (.s (.c .d .d) (.s (.b (.s .d (.s .d (.c (.s .d .d) .d)))) .d)))))) (.s .d .d)))

def cells_ledger_has.M  (l1 : Option Addr) (addr2 : Int) (h3 : Heap) (Q : Bool → Heap → Prop) : Prop :=
    (((decide ((0 : Int) ≤ addr2)) = true →
    deref l1 fun a4 =>
    ld ((.int .i64) : Kd) h3 (a4.add 1) fun t5 =>
    Q (decide (addr2 < t5)) h3) ∧
    ((decide ((0 : Int) ≤ addr2)) = false →
    Q false h3))
def cells_ledger_has.mk : Mk := (.s .d (.s .d .d))

end Go.Mx
