/-
  What the functions of this seat come to over abstract heaps: printed by a program of this workplace.
-/
import Derived.Test.YtanfmmcpjifgiabMxN
set_option linter.unusedVariables false
namespace Go.Mx
abbrev kapiScene : Kd := (.pair (.int .i64) (.pair .sl (.pair .sl .nil)))
abbrev kapiAct : Kd := (.pair (.int .i64) (.pair (.int .i64) (.pair (.int .i64) (.pair (.int .i64) (.pair (.int .i64) .nil)))))
abbrev kapiEnding : Kd := (.pair .sl (.pair .sl .nil))
abbrev kexploredone : Kd := (.pair (.int .i64) (.pair (.int .i64) (.pair kapiAct .nil)))
abbrev kapiEffect : Kd := (.pair (.int .i64) (.pair .bool (.pair (.int .i64) .nil)))
abbrev kexplorewalk : Kd := (.pair kapiScene kapiEnding)
abbrev kref22Act : Kd := (.pair (.int .i64) (.pair kapiAct .nil))
abbrev kcellsledger : Kd := (.pair (.int .i64) (.pair (.int .i64) .nil))
abbrev kcellsArena : Kd := (.pair kcellsledger (.pair .sl (.pair .sl (.pair (.int .i64) (.pair .bool .nil)))))
abbrev kapiAccess : Kd := (.pair (.int .i64) (.pair (.int .i64) (.pair (.int .i64) (.pair (.int .i64) (.pair (.int .i64) (.pair .bool .nil))))))
-- @T  98

def law22_ExploreAll.j1 (c_law22_apart : Sl → Heap → (Bool → Heap → Prop) → Prop) (Q : Bool → Heap → Prop) (r11 : (Sl × (Int × Unit))) (s19 : Unit) (h20 : Heap) : Prop :=
    c_law22_apart r11.1 h20 fun r21 h22 =>
    Q r21 h22
def law22_ExploreAll.j2 (c_law22_apart : Sl → Heap → (Bool → Heap → Prop) → Prop) (Q : Bool → Heap → Prop) (r11 : (Sl × (Int × Unit))) (s23 : (Bool × Unit)) (h24 : Heap) : Prop :=
    ((s23.1 = true →
    Q false h24) ∧
    (s23.1 = false →
    law22_ExploreAll.j1 c_law22_apart Q r11 () h24))
def law22_ExploreAll.M (c_law22_copied : Den kapiScene → Heap → (Den kapiScene → Heap → Prop) → Prop) (c_law22_moved : Den kapiScene → Heap → (Unit → Heap → Prop) → Prop) (c_explore_Explore : Den kapiScene → Heap → ((Sl × (Int × Unit)) → Heap → Prop) → Prop) (c_law22_back : Den kapiScene → Den kapiScene → Heap → (Unit → Heap → Prop) → Prop) (c_law22_spoilt : Sl → Heap → (Int → Heap → Prop) → Prop) (c_ref22_Explore : Den kapiScene → Heap → ((Sl × (Int × Unit)) → Heap → Prop) → Prop) (c_law22_sameLists : Sl → Sl → Heap → (Bool → Heap → Prop) → Prop) (c_law22_alike : Den kapiScene → Den kapiScene → Heap → (Bool → Heap → Prop) → Prop) (c_law22_apart : Sl → Heap → (Bool → Heap → Prop) → Prop) (s1 : Den kapiScene) (h2 : Heap) (Q : Bool → Heap → Prop) : Prop :=
    c_law22_copied (s1.1, (s1.2.1, (s1.2.2.1, ()))) h2 fun r3 h4 =>
    c_law22_moved (r3.1, (r3.2.1, (r3.2.2.1, ()))) h4 fun r5 h6 =>
    c_explore_Explore (r3.1, (r3.2.1, (r3.2.2.1, ()))) h6 fun r7 h8 =>
    c_law22_back (r3.1, (r3.2.1, (r3.2.2.1, ()))) (s1.1, (s1.2.1, (s1.2.2.1, ()))) h8 fun r9 h10 =>
    c_explore_Explore (r3.1, (r3.2.1, (r3.2.2.1, ()))) h10 fun r11 h12 =>
    c_explore_Explore (r3.1, (r3.2.1, (r3.2.2.1, ()))) h12 fun r13 h14 =>
    c_law22_spoilt r13.1 h14 fun r15 h16 =>
    c_ref22_Explore (s1.1, (s1.2.1, (s1.2.2.1, ()))) h16 fun r17 h18 =>
    (((decide (r11.2.1 ≠ r17.2.1)) = true →
    law22_ExploreAll.j2 c_law22_apart Q r11 (true, ()) h18) ∧
    ((decide (r11.2.1 ≠ r17.2.1)) = false →
    c_law22_sameLists r11.1 r17.1 h18 fun r25 h26 =>
    (((!r25) = true →
    law22_ExploreAll.j2 c_law22_apart Q r11 (true, ()) h26) ∧
    ((!r25) = false →
    (((decide (r15 < (r17.1.len : Int))) = true →
    law22_ExploreAll.j2 c_law22_apart Q r11 (true, ()) h26) ∧
    ((decide (r15 < (r17.1.len : Int))) = false →
    c_law22_alike (r3.1, (r3.2.1, (r3.2.2.1, ()))) (s1.1, (s1.2.1, (s1.2.2.1, ()))) h26 fun r27 h28 =>
    law22_ExploreAll.j2 c_law22_apart Q r11 ((!r27), ()) h28))))))
def law22_ExploreAll.mk : Mk := (.s (.r [0]) (.s (.r [2]) (.s .d (.s .d (.s .d (.s .d (.s .d (.s .d (.s .d (.j [] (.j [.slot 57 .bool] .d (.c (.s .d .d) .d)) (.s .d .d)))))))))))

def law22_ExploreKin.M (c_law22_copied : Den kapiScene → Heap → (Den kapiScene → Heap → Prop) → Prop) (c_law22_moved : Den kapiScene → Heap → (Unit → Heap → Prop) → Prop) (c_law22_turned : Sl → Heap → (Sl → Heap → Prop) → Prop) (c_explore_Kin : Den kapiScene → Sl → Heap → (Den kcellsledger → Heap → Prop) → Prop) (c_law22_back : Den kapiScene → Den kapiScene → Heap → (Unit → Heap → Prop) → Prop) (c_law22_written : Sl → Sl → Heap → (Unit → Heap → Prop) → Prop) (c_ref22_Kin : Den kapiScene → Sl → Heap → (Den kcellsledger → Heap → Prop) → Prop) (c_law22_alike : Den kapiScene → Den kapiScene → Heap → (Bool → Heap → Prop) → Prop) (c_law22_kept : Sl → Sl → Heap → (Bool → Heap → Prop) → Prop) (s1 : Den kapiScene) (picks2 : Sl) (h3 : Heap) (Q : Bool → Heap → Prop) : Prop :=
    c_law22_copied (s1.1, (s1.2.1, (s1.2.2.1, ()))) h3 fun r4 h5 =>
    c_law22_moved (r4.1, (r4.2.1, (r4.2.2.1, ()))) h5 fun r6 h7 =>
    c_law22_turned picks2 h7 fun r8 h9 =>
    c_explore_Kin (r4.1, (r4.2.1, (r4.2.2.1, ()))) r8 h9 fun r10 h11 =>
    c_law22_back (r4.1, (r4.2.1, (r4.2.2.1, ()))) (s1.1, (s1.2.1, (s1.2.2.1, ()))) h11 fun r12 h13 =>
    c_explore_Kin (r4.1, (r4.2.1, (r4.2.2.1, ()))) r8 h13 fun r14 h15 =>
    c_law22_written r8 picks2 h15 fun r16 h17 =>
    c_explore_Kin (r4.1, (r4.2.1, (r4.2.2.1, ()))) r8 h17 fun r18 h19 =>
    c_ref22_Kin (s1.1, (s1.2.1, (s1.2.2.1, ()))) picks2 h19 fun r20 h21 =>
    (((decide (r18.1 = r20.1)) = true →
    (((decide (r18.2.1 = r20.2.1)) = true →
    c_law22_alike (r4.1, (r4.2.1, (r4.2.2.1, ()))) (s1.1, (s1.2.1, (s1.2.2.1, ()))) h21 fun r22 h23 =>
    ((r22 = true →
    c_law22_kept r8 picks2 h23 fun r24 h25 =>
    Q r24 h25) ∧
    (r22 = false →
    Q false h23))) ∧
    ((decide (r18.2.1 = r20.2.1)) = false →
    Q false h21))) ∧
    ((decide (r18.1 = r20.1)) = false →
    Q false h21))
def law22_ExploreKin.mk : Mk := (.s (.r [0]) (.s (.r [2]) (.s .d (.s .d (.s .d (.s .d (.s .d (.s .d (.s .d (.s .d (.s .d .d)))))))))))

def law22_ExploreFinals.l1 (r17 : (Sl × (Int × Unit))) (go21 : (Int × Unit) → Heap → Prop) (s19 : (Int × Unit)) (go24 : (Int × Unit) → Heap → Prop) (s22 : (Int × Unit)) (h23 : Heap) : Prop :=
    (0 ≤ s19.1 ∧ s19.1 < (r17.1.len : Int)) ∧
    deref r17.1.a fun a25 =>
    ld (.sl : Kd) h23 (a25.add ((s19.1 : Int).toNat * 1)) fun t26 =>
    (((decide (s22.1 < (t26.len : Int))) = true →
    (0 ≤ s19.1 ∧ s19.1 < (r17.1.len : Int)) ∧
    deref r17.1.a fun a27 =>
    ld (.sl : Kd) h23 (a27.add ((s19.1 : Int).toNat * 1)) fun t28 =>
    (0 ≤ s22.1 ∧ s22.1 < (t28.len : Int)) ∧
    deref t28.a fun a29 =>
    st ((.int .i64) : Kd) h23 (a29.add ((s22.1 : Int).toNat * 1)) (-9) fun h30 =>
    go24 ((w64 (s22.1 + 1)), ()) h30) ∧
    ((decide (s22.1 < (t26.len : Int))) = false →
    go21 ((w64 (s19.1 + 1)), ()) h23))
def law22_ExploreFinals.l2 (c_law22_sameCells : Sl → Sl → Heap → (Bool → Heap → Prop) → Prop) (c_law22_cellsApart : Sl → Heap → (Bool → Heap → Prop) → Prop) (Q : Bool → Heap → Prop) (r11 : (Sl × (Int × Unit))) (r13 : (Sl × (Int × Unit))) (go33 : (Int × Unit) → Heap → Prop) (s31 : (Int × Unit)) (h32 : Heap) : Prop :=
    (((decide (s31.1 < (r11.1.len : Int))) = true →
    (0 ≤ s31.1 ∧ s31.1 < (r11.1.len : Int)) ∧
    deref r11.1.a fun a34 =>
    (0 ≤ s31.1 ∧ s31.1 < (r13.1.len : Int)) ∧
    deref r13.1.a fun a35 =>
    ld (.sl : Kd) h32 (a34.add ((s31.1 : Int).toNat * 1)) fun t36 =>
    ld (.sl : Kd) h32 (a35.add ((s31.1 : Int).toNat * 1)) fun t37 =>
    c_law22_sameCells t36 t37 h32 fun r38 h39 =>
    (((!r38) = true →
    Q false h39) ∧
    ((!r38) = false →
    go33 ((w64 (s31.1 + 1)), ()) h39))) ∧
    ((decide (s31.1 < (r11.1.len : Int))) = false →
    c_law22_cellsApart r11.1 h32 fun r40 h41 =>
    Q r40 h41))
def law22_ExploreFinals.l3 (c_law22_sameCells : Sl → Sl → Heap → (Bool → Heap → Prop) → Prop) (c_law22_cellsApart : Sl → Heap → (Bool → Heap → Prop) → Prop) (Q : Bool → Heap → Prop) (r11 : (Sl × (Int × Unit))) (r13 : (Sl × (Int × Unit))) (r17 : (Sl × (Int × Unit))) (go21 : (Int × Unit) → Heap → Prop) (s19 : (Int × Unit)) (h20 : Heap) : Prop :=
    (((decide (s19.1 < (r17.1.len : Int))) = true →
    Loop (law22_ExploreFinals.l1 r17 go21 s19) (0, ()) h20) ∧
    ((decide (s19.1 < (r17.1.len : Int))) = false →
    Loop (law22_ExploreFinals.l2 c_law22_sameCells c_law22_cellsApart Q r11 r13) (0, ()) h20))
def law22_ExploreFinals.j4 (c_explore_Finals : Den kapiScene → Heap → ((Sl × (Int × Unit)) → Heap → Prop) → Prop) (c_law22_sameCells : Sl → Sl → Heap → (Bool → Heap → Prop) → Prop) (c_law22_cellsApart : Sl → Heap → (Bool → Heap → Prop) → Prop) (Q : Bool → Heap → Prop) (r3 : Den kapiScene) (r11 : (Sl × (Int × Unit))) (r13 : (Sl × (Int × Unit))) (s15 : Unit) (h16 : Heap) : Prop :=
    c_explore_Finals (r3.1, (r3.2.1, (r3.2.2.1, ()))) h16 fun r17 h18 =>
    Loop (law22_ExploreFinals.l3 c_law22_sameCells c_law22_cellsApart Q r11 r13 r17) (0, ()) h18
def law22_ExploreFinals.j5 (c_explore_Finals : Den kapiScene → Heap → ((Sl × (Int × Unit)) → Heap → Prop) → Prop) (c_law22_sameCells : Sl → Sl → Heap → (Bool → Heap → Prop) → Prop) (c_law22_cellsApart : Sl → Heap → (Bool → Heap → Prop) → Prop) (Q : Bool → Heap → Prop) (r3 : Den kapiScene) (r11 : (Sl × (Int × Unit))) (r13 : (Sl × (Int × Unit))) (s42 : (Bool × Unit)) (h43 : Heap) : Prop :=
    ((s42.1 = true →
    Q false h43) ∧
    (s42.1 = false →
    law22_ExploreFinals.j4 c_explore_Finals c_law22_sameCells c_law22_cellsApart Q r3 r11 r13 () h43))
def law22_ExploreFinals.M (c_law22_copied : Den kapiScene → Heap → (Den kapiScene → Heap → Prop) → Prop) (c_law22_moved : Den kapiScene → Heap → (Unit → Heap → Prop) → Prop) (c_explore_Finals : Den kapiScene → Heap → ((Sl × (Int × Unit)) → Heap → Prop) → Prop) (c_law22_back : Den kapiScene → Den kapiScene → Heap → (Unit → Heap → Prop) → Prop) (c_ref22_Finals : Den kapiScene → Heap → ((Sl × (Int × Unit)) → Heap → Prop) → Prop) (c_law22_alike : Den kapiScene → Den kapiScene → Heap → (Bool → Heap → Prop) → Prop) (c_law22_sameCells : Sl → Sl → Heap → (Bool → Heap → Prop) → Prop) (c_law22_cellsApart : Sl → Heap → (Bool → Heap → Prop) → Prop) (s1 : Den kapiScene) (h2 : Heap) (Q : Bool → Heap → Prop) : Prop :=
    c_law22_copied (s1.1, (s1.2.1, (s1.2.2.1, ()))) h2 fun r3 h4 =>
    c_law22_moved (r3.1, (r3.2.1, (r3.2.2.1, ()))) h4 fun r5 h6 =>
    c_explore_Finals (r3.1, (r3.2.1, (r3.2.2.1, ()))) h6 fun r7 h8 =>
    c_law22_back (r3.1, (r3.2.1, (r3.2.2.1, ()))) (s1.1, (s1.2.1, (s1.2.2.1, ()))) h8 fun r9 h10 =>
    c_explore_Finals (r3.1, (r3.2.1, (r3.2.2.1, ()))) h10 fun r11 h12 =>
    c_ref22_Finals (s1.1, (s1.2.1, (s1.2.2.1, ()))) h12 fun r13 h14 =>
    (((decide (r11.2.1 ≠ r13.2.1)) = true →
    law22_ExploreFinals.j5 c_explore_Finals c_law22_sameCells c_law22_cellsApart Q r3 r11 r13 (true, ()) h14) ∧
    ((decide (r11.2.1 ≠ r13.2.1)) = false →
    (((decide ((r11.1.len : Int) ≠ (r13.1.len : Int))) = true →
    law22_ExploreFinals.j5 c_explore_Finals c_law22_sameCells c_law22_cellsApart Q r3 r11 r13 (true, ()) h14) ∧
    ((decide ((r11.1.len : Int) ≠ (r13.1.len : Int))) = false →
    c_law22_alike (r3.1, (r3.2.1, (r3.2.2.1, ()))) (s1.1, (s1.2.1, (s1.2.2.1, ()))) h14 fun r44 h45 =>
    law22_ExploreFinals.j5 c_explore_Finals c_law22_sameCells c_law22_cellsApart Q r3 r11 r13 ((!r44), ()) h45))))
def law22_ExploreFinals.mk : Mk := (.s (.r [0]) (.s (.r [2]) (.s .d (.s .d (.s .d (.s .d (.s .d (.j [] (.j [.slot 47 .bool] .d (.c (.s .d .d) .d)) (.s .d (.s (.s .d (.b (.l [.slot 10 (.int .i64)] (.s (.s .d (.c .d .d)) (.s (.b (.s .d (.b (.l [.slot 11 (.int .i64)] (.s (.s .d (.c .d .d)) (.s (.b .d) .d)))))) .d))))) (.s (.s .d (.b (.l [.slot 12 (.int .i64)] (.s (.s .d (.c .d .d)) (.s (.b (.s (.q [] [] [.p 0, .p 1, .p 2, .p 4, .p 5, .p 6, .w 3 [3, 8, 9], .w 7 [7, 8, 9], .o 8, .p 9]) (.c (.s .d .d) .d))) .d))))) (.s .d .d))))))))))))

def law22_copied.l1 (s1 : Den kapiScene) (Q : Den kapiScene → Heap → Prop) (go9 : (Int × (Den kapiScene × Unit)) → Heap → Prop) (s7 : (Int × (Den kapiScene × Unit))) (h8 : Heap) : Prop :=
    (((decide (s7.1 < (s1.2.2.1.len : Int))) = true →
    new h8 (([] : List (Den kapiAct)).flatMap (Kd.cells kapiAct)) fun p10 h11 =>
    (0 ≤ s7.1 ∧ s7.1 < (s1.2.2.1.len : Int)) ∧
    deref s1.2.2.1.a fun a12 =>
    ld (.sl : Kd) h11 (a12.add ((s7.1 : Int).toNat * 1)) fun t13 =>
    appendM 5 40 h11 ⟨some p10, 0, 0⟩ t13 fun t14 h15 =>
    new h15 (([(0, ((-77), (0, (0, (0, ())))))] : List (Den kapiAct)).flatMap (Kd.cells kapiAct)) fun p16 h17 =>
    appendM 5 40 h17 t14 ⟨some p16, 1, 1⟩ fun t18 h19 =>
    (0 ≤ s7.1 ∧ s7.1 < (s1.2.2.1.len : Int)) ∧
    deref s1.2.2.1.a fun a20 =>
    ld (.sl : Kd) h19 (a20.add ((s7.1 : Int).toNat * 1)) fun t21 =>
    (0 ≤ (t21.len : Int) ∧ (t21.len : Int) ≤ (t18.cap : Int)) ∧
    new h19 (([(t18.cut 0 (((t21.len : Int) : Int).toNat) 5)] : List (Den (.sl : Kd))).flatMap (Kd.cells (.sl : Kd))) fun p22 h23 =>
    appendM 1 24 h23 s7.2.1.2.2.1 ⟨some p22, 1, 1⟩ fun t24 h25 =>
    go9 ((w64 (s7.1 + 1)), (s7.2.1.1, (s7.2.1.2.1, (t24, ()))), ()) h25) ∧
    ((decide (s7.1 < (s1.2.2.1.len : Int))) = false →
    new h8 (([(-77)] : List (Den ((.int .i64) : Kd))).flatMap (Kd.cells ((.int .i64) : Kd))) fun p26 h27 =>
    appendM 1 8 h27 s7.2.1.2.1 ⟨some p26, 1, 1⟩ fun t28 h29 =>
    (0 ≤ (s1.2.1.len : Int) ∧ (s1.2.1.len : Int) ≤ (t28.cap : Int)) ∧
    new h29 (([(0, ((-77), (0, (0, (0, ())))))] : List (Den kapiAct)).flatMap (Kd.cells kapiAct)) fun p30 h31 =>
    new h31 (([⟨some p30, 1, 1⟩] : List (Den (.sl : Kd))).flatMap (Kd.cells (.sl : Kd))) fun p32 h33 =>
    appendM 1 24 h33 s7.2.1.2.2.1 ⟨some p32, 1, 1⟩ fun t34 h35 =>
    (0 ≤ (s1.2.2.1.len : Int) ∧ (s1.2.2.1.len : Int) ≤ (t34.cap : Int)) ∧
    Q (s7.2.1.1, ((t28.cut 0 (((s1.2.1.len : Int) : Int).toNat) 1), ((t34.cut 0 (((s1.2.2.1.len : Int) : Int).toNat) 1), ()))) h35))
def law22_copied.M  (s1 : Den kapiScene) (h2 : Heap) (Q : Den kapiScene → Heap → Prop) : Prop :=
    new h2 (([] : List (Den ((.int .i64) : Kd))).flatMap (Kd.cells ((.int .i64) : Kd))) fun p3 h4 =>
    appendM 1 8 h4 ⟨some p3, 0, 0⟩ s1.2.1 fun t5 h6 =>
    Loop (law22_copied.l1 s1 Q) (0, (s1.1, (t5, (Sl.none, ()))), ()) h6
def law22_copied.mk : Mk := (.s (.r [0, 1]) (.s (.q [7] [3] [.p 0, .p 3, .w 1 [1, 6, 8], .w 4 [4, 5, 6, 8], .o 2, .o 5, .p 6, .a 7, .o 8]) (.s (.s .d (.b (.l [.slot 4 (.int .i64), .box 3 kapiScene] (.s (.s .d (.c .d .d)) (.s (.b (.s .d (.s .d (.q [] [3] [.p 0, .p 2, .p 3, .p 5, .w 1 [1, 11, 12, 13], .w 4 [4, 6, 7, 8, 9, 10, 11, 12, 13], .p 6, .w 7 [7, 8, 9, 10, 11, 12, 13], .p 8, .p 9, .o 10, .o 11, .p 12, .o 13])))) .d))))) (.s .d (.s .d (.s .d (.s .d (.s .d .d))))))))

def law22_moved.l1 (c1 : Den kapiScene) (go12 : (Int × Unit) → Heap → Prop) (s10 : (Int × Unit)) (go15 : (Int × Unit) → Heap → Prop) (s13 : (Int × Unit)) (h14 : Heap) : Prop :=
    (0 ≤ s10.1 ∧ s10.1 < (c1.2.2.1.len : Int)) ∧
    deref c1.2.2.1.a fun a16 =>
    ld (.sl : Kd) h14 (a16.add ((s10.1 : Int).toNat * 1)) fun t17 =>
    (((decide (s13.1 < (t17.len : Int))) = true →
    (0 ≤ s10.1 ∧ s10.1 < (c1.2.2.1.len : Int)) ∧
    deref c1.2.2.1.a fun a18 =>
    ld (.sl : Kd) h14 (a18.add ((s10.1 : Int).toNat * 1)) fun t19 =>
    (0 ≤ s10.1 ∧ s10.1 < (c1.2.2.1.len : Int)) ∧
    deref c1.2.2.1.a fun a20 =>
    ld (.sl : Kd) h14 (a20.add ((s10.1 : Int).toNat * 1)) fun t21 =>
    (0 ≤ s13.1 ∧ s13.1 < (t21.len : Int)) ∧
    deref t21.a fun a22 =>
    ld ((.int .i64) : Kd) h14 ((a22.add ((s13.1 : Int).toNat * 5)).add 1) fun t23 =>
    (5 : Int) ≠ 0 ∧
    (0 ≤ s13.1 ∧ s13.1 < (t19.len : Int)) ∧
    deref t19.a fun a24 =>
    st ((.int .i64) : Kd) h14 ((a24.add ((s13.1 : Int).toNat * 5)).add 1) (Int.tmod (w64 (t23 + 1)) 5) fun h25 =>
    (0 ≤ s10.1 ∧ s10.1 < (c1.2.2.1.len : Int)) ∧
    deref c1.2.2.1.a fun a26 =>
    ld (.sl : Kd) h25 (a26.add ((s10.1 : Int).toNat * 1)) fun t27 =>
    (0 ≤ s10.1 ∧ s10.1 < (c1.2.2.1.len : Int)) ∧
    deref c1.2.2.1.a fun a28 =>
    ld (.sl : Kd) h25 (a28.add ((s10.1 : Int).toNat * 1)) fun t29 =>
    (0 ≤ s13.1 ∧ s13.1 < (t29.len : Int)) ∧
    deref t29.a fun a30 =>
    ld ((.int .i64) : Kd) h25 ((a30.add ((s13.1 : Int).toNat * 5)).add 3) fun t31 =>
    (0 ≤ s13.1 ∧ s13.1 < (t27.len : Int)) ∧
    deref t27.a fun a32 =>
    st ((.int .i64) : Kd) h25 ((a32.add ((s13.1 : Int).toNat * 5)).add 3) (w64 (t31 + 1)) fun h33 =>
    go15 ((w64 (s13.1 + 1)), ()) h33) ∧
    ((decide (s13.1 < (t17.len : Int))) = false →
    go12 ((w64 (s10.1 + 1)), ()) h14))
def law22_moved.l2 (c1 : Den kapiScene) (Q : Unit → Heap → Prop) (go12 : (Int × Unit) → Heap → Prop) (s10 : (Int × Unit)) (h11 : Heap) : Prop :=
    (((decide (s10.1 < (c1.2.2.1.len : Int))) = true →
    Loop (law22_moved.l1 c1 go12 s10) (0, ()) h11) ∧
    ((decide (s10.1 < (c1.2.2.1.len : Int))) = false →
    Q () h11))
def law22_moved.l3 (c1 : Den kapiScene) (Q : Unit → Heap → Prop) (go5 : (Int × Unit) → Heap → Prop) (s3 : (Int × Unit)) (h4 : Heap) : Prop :=
    (((decide (s3.1 < (c1.2.1.len : Int))) = true →
    (0 ≤ s3.1 ∧ s3.1 < (c1.2.1.len : Int)) ∧
    deref c1.2.1.a fun a6 =>
    ld ((.int .i64) : Kd) h4 (a6.add ((s3.1 : Int).toNat * 1)) fun t7 =>
    (0 ≤ s3.1 ∧ s3.1 < (c1.2.1.len : Int)) ∧
    deref c1.2.1.a fun a8 =>
    st ((.int .i64) : Kd) h4 (a8.add ((s3.1 : Int).toNat * 1)) (w64 (t7 + 1)) fun h9 =>
    go5 ((w64 (s3.1 + 1)), ()) h9) ∧
    ((decide (s3.1 < (c1.2.1.len : Int))) = false →
    Loop (law22_moved.l2 c1 Q) (0, ()) h4))
def law22_moved.M  (c1 : Den kapiScene) (h2 : Heap) (Q : Unit → Heap → Prop) : Prop :=
    Loop (law22_moved.l3 c1 Q) (0, ()) h2
def law22_moved.mk : Mk := (.s (.r [0]) (.s (.s .d (.b (.l [.slot 2 (.int .i64)] (.s (.s .d (.c .d .d)) (.s (.b (.q [] [] [.p 0, .p 2, .p 3, .p 5, .w 1 [1, 9, 10], .w 4 [4, 6, 7, 8, 9, 10], .p 6, .w 7 [7, 8, 9, 10], .p 8, .p 9, .o 10])) .d))))) (.s .d (.b (.l [.slot 3 (.int .i64)] (.s (.s .d (.c .d .d)) (.s (.b (.s .d (.b (.l [.slot 4 (.int .i64)] (.s (.s .d (.c .d .d)) (.s (.b (.s (.q [] [] [.p 0, .p 2, .p 5, .p 6, .p 8, .p 11, .w 1 [1, 3, 4, 17, 18, 19], .p 3, .w 4 [4, 17, 18, 19], .w 7 [7, 9, 10, 12, 13, 14, 15, 16, 17, 18, 19], .p 9, .w 10 [10, 12, 13, 14, 15, 16, 17, 18, 19], .p 12, .p 13, .w 14 [14, 15, 16, 17, 18, 19], .p 15, .p 16, .p 17, .p 18, .o 19]) (.q [] [] [.p 0, .p 2, .p 5, .p 6, .p 8, .p 11, .w 1 [1, 3, 4, 16, 17, 18], .p 3, .w 4 [4, 16, 17, 18], .w 7 [7, 9, 10, 12, 13, 14, 15, 16, 17, 18], .p 9, .w 10 [10, 12, 13, 14, 15, 16, 17, 18], .p 12, .p 13, .w 14 [14, 15, 16, 17, 18], .p 15, .p 16, .p 17, .o 18]))) .d)))))) .d)))))))

def explore_Depends.j1 (c_explore_touches : Den kapiScene → Den kapiAct → Heap → (Bool → Heap → Prop) → Prop) (s1 : Den kapiScene) (x2 : Den kapiAct) (y3 : Den kapiAct) (Q : Bool → Heap → Prop) (s5 : Unit) (h6 : Heap) : Prop :=
    c_explore_touches (s1.1, (s1.2.1, (s1.2.2.1, ()))) (x2.1, (x2.2.1, (x2.2.2.1, (x2.2.2.2.1, (x2.2.2.2.2.1, ()))))) h6 fun r7 h8 =>
    ((r7 = true →
    c_explore_touches (s1.1, (s1.2.1, (s1.2.2.1, ()))) (y3.1, (y3.2.1, (y3.2.2.1, (y3.2.2.2.1, (y3.2.2.2.2.1, ()))))) h8 fun r9 h10 =>
    ((r9 = true →
    (((decide (x2.2.2.1 = y3.2.2.1)) = true →
    (((decide (x2.2.1 ≠ 0)) = true →
    Q true h10) ∧
    ((decide (x2.2.1 ≠ 0)) = false →
    Q (decide (y3.2.1 ≠ 0)) h10))) ∧
    ((decide (x2.2.2.1 = y3.2.2.1)) = false →
    Q false h10))) ∧
    (r9 = false →
    Q false h10))) ∧
    (r7 = false →
    Q false h8))
def explore_Depends.j2 (c_explore_gives : Den kapiAct → Heap → (Bool → Heap → Prop) → Prop) (c_explore_touches : Den kapiScene → Den kapiAct → Heap → (Bool → Heap → Prop) → Prop) (s1 : Den kapiScene) (x2 : Den kapiAct) (y3 : Den kapiAct) (Q : Bool → Heap → Prop) (s11 : (Bool × Unit)) (h12 : Heap) : Prop :=
    ((s11.1 = true →
    Q true h12) ∧
    (s11.1 = false →
    c_explore_gives (x2.1, (x2.2.1, (x2.2.2.1, (x2.2.2.2.1, (x2.2.2.2.2.1, ()))))) h12 fun r13 h14 =>
    ((r13 = true →
    c_explore_touches (s1.1, (s1.2.1, (s1.2.2.1, ()))) (y3.1, (y3.2.1, (y3.2.2.1, (y3.2.2.2.1, (y3.2.2.2.2.1, ()))))) h14 fun r15 h16 =>
    ((r15 = true →
    Q (decide ((s1.2.1.len : Int) ≤ y3.2.2.1)) h16) ∧
    (r15 = false →
    Q false h16))) ∧
    (r13 = false →
    c_explore_gives (y3.1, (y3.2.1, (y3.2.2.1, (y3.2.2.2.1, (y3.2.2.2.2.1, ()))))) h14 fun r17 h18 =>
    ((r17 = true →
    c_explore_touches (s1.1, (s1.2.1, (s1.2.2.1, ()))) (x2.1, (x2.2.1, (x2.2.2.1, (x2.2.2.2.1, (x2.2.2.2.2.1, ()))))) h18 fun r19 h20 =>
    ((r19 = true →
    Q (decide ((s1.2.1.len : Int) ≤ x2.2.2.1)) h20) ∧
    (r19 = false →
    Q false h20))) ∧
    (r17 = false →
    explore_Depends.j1 c_explore_touches s1 x2 y3 Q () h18))))))
def explore_Depends.M (c_explore_gives : Den kapiAct → Heap → (Bool → Heap → Prop) → Prop) (c_explore_touches : Den kapiScene → Den kapiAct → Heap → (Bool → Heap → Prop) → Prop) (s1 : Den kapiScene) (x2 : Den kapiAct) (y3 : Den kapiAct) (h4 : Heap) (Q : Bool → Heap → Prop) : Prop :=
    c_explore_gives (x2.1, (x2.2.1, (x2.2.2.1, (x2.2.2.2.1, (x2.2.2.2.2.1, ()))))) h4 fun r21 h22 =>
    ((r21 = true →
    c_explore_gives (y3.1, (y3.2.1, (y3.2.2.1, (y3.2.2.2.1, (y3.2.2.2.2.1, ()))))) h22 fun r23 h24 =>
    explore_Depends.j2 c_explore_gives c_explore_touches s1 x2 y3 Q (r23, ()) h24) ∧
    (r21 = false →
    explore_Depends.j2 c_explore_gives c_explore_touches s1 x2 y3 Q (false, ()) h22))
def explore_Depends.mk : Mk := (.s (.r [0, 1, 2]) (.j [] (.b (.j [.slot 7 .bool] .d (.c (.s .d .d) (.s .d (.c (.s .d .d) (.s .d (.c (.s .d .d) .d))))))) (.s .d .d)))

def law22_back.l1 (c1 : Den kapiScene) (s2 : Den kapiScene) (go13 : (Int × Unit) → Heap → Prop) (s11 : (Int × Unit)) (go16 : (Int × Unit) → Heap → Prop) (s14 : (Int × Unit)) (h15 : Heap) : Prop :=
    (0 ≤ s11.1 ∧ s11.1 < (s2.2.2.1.len : Int)) ∧
    deref s2.2.2.1.a fun a17 =>
    ld (.sl : Kd) h15 (a17.add ((s11.1 : Int).toNat * 1)) fun t18 =>
    (((decide (s14.1 < (t18.len : Int))) = true →
    (0 ≤ s11.1 ∧ s11.1 < (c1.2.2.1.len : Int)) ∧
    deref c1.2.2.1.a fun a19 =>
    ld (.sl : Kd) h15 (a19.add ((s11.1 : Int).toNat * 1)) fun t20 =>
    (0 ≤ s11.1 ∧ s11.1 < (s2.2.2.1.len : Int)) ∧
    deref s2.2.2.1.a fun a21 =>
    ld (.sl : Kd) h15 (a21.add ((s11.1 : Int).toNat * 1)) fun t22 =>
    (0 ≤ s14.1 ∧ s14.1 < (t22.len : Int)) ∧
    deref t22.a fun a23 =>
    ld kapiAct h15 (a23.add ((s14.1 : Int).toNat * 5)) fun t24 =>
    (0 ≤ s14.1 ∧ s14.1 < (t20.len : Int)) ∧
    deref t20.a fun a25 =>
    st kapiAct h15 (a25.add ((s14.1 : Int).toNat * 5)) t24 fun h26 =>
    go16 ((w64 (s14.1 + 1)), ()) h26) ∧
    ((decide (s14.1 < (t18.len : Int))) = false →
    go13 ((w64 (s11.1 + 1)), ()) h15))
def law22_back.l2 (c1 : Den kapiScene) (s2 : Den kapiScene) (Q : Unit → Heap → Prop) (go13 : (Int × Unit) → Heap → Prop) (s11 : (Int × Unit)) (h12 : Heap) : Prop :=
    (((decide (s11.1 < (s2.2.2.1.len : Int))) = true →
    Loop (law22_back.l1 c1 s2 go13 s11) (0, ()) h12) ∧
    ((decide (s11.1 < (s2.2.2.1.len : Int))) = false →
    Q () h12))
def law22_back.l3 (c1 : Den kapiScene) (s2 : Den kapiScene) (Q : Unit → Heap → Prop) (go6 : (Int × Unit) → Heap → Prop) (s4 : (Int × Unit)) (h5 : Heap) : Prop :=
    (((decide (s4.1 < (s2.2.1.len : Int))) = true →
    (0 ≤ s4.1 ∧ s4.1 < (s2.2.1.len : Int)) ∧
    deref s2.2.1.a fun a7 =>
    ld ((.int .i64) : Kd) h5 (a7.add ((s4.1 : Int).toNat * 1)) fun t8 =>
    (0 ≤ s4.1 ∧ s4.1 < (c1.2.1.len : Int)) ∧
    deref c1.2.1.a fun a9 =>
    st ((.int .i64) : Kd) h5 (a9.add ((s4.1 : Int).toNat * 1)) t8 fun h10 =>
    go6 ((w64 (s4.1 + 1)), ()) h10) ∧
    ((decide (s4.1 < (s2.2.1.len : Int))) = false →
    Loop (law22_back.l2 c1 s2 Q) (0, ()) h5))
def law22_back.M  (c1 : Den kapiScene) (s2 : Den kapiScene) (h3 : Heap) (Q : Unit → Heap → Prop) : Prop :=
    Loop (law22_back.l3 c1 s2 Q) (0, ()) h3
def law22_back.mk : Mk := (.s (.r [0, 1]) (.s (.s .d (.b (.l [.slot 4 (.int .i64)] (.s (.s .d (.c .d .d)) (.s (.b (.q [] [] [.p 0, .p 2, .p 3, .p 5, .w 1 [1, 8, 9], .w 4 [4, 6, 7, 8, 9], .p 6, .w 7 [7, 8, 9], .p 8, .o 9])) .d))))) (.s .d (.b (.l [.slot 5 (.int .i64)] (.s (.s .d (.c .d .d)) (.s (.b (.s .d (.b (.l [.slot 6 (.int .i64)] (.s (.s .d (.c .d .d)) (.s (.b (.q [] [] [.p 0, .p 2, .p 5, .p 6, .p 8, .p 11, .w 1 [1, 3, 4, 14, 15], .p 3, .w 4 [4, 14, 15], .w 7 [7, 9, 10, 12, 13, 14, 15], .p 9, .w 10 [10, 12, 13, 14, 15], .p 12, .w 13 [13, 14, 15], .p 14, .o 15])) .d)))))) .d)))))))

def ref22_Depends.j1 (c_ref22_makes : Den kapiAct → Heap → (Bool → Heap → Prop) → Prop) (s1 : Den kapiScene) (x2 : Den kapiAct) (y3 : Den kapiAct) (Q : Bool → Heap → Prop) (r5 : Int) (r7 : Int) (s11 : Unit) (h12 : Heap) : Prop :=
    c_ref22_makes (x2.1, (x2.2.1, (x2.2.2.1, (x2.2.2.2.1, (x2.2.2.2.2.1, ()))))) h12 fun r13 h14 =>
    ((r13 = true →
    (((decide ((s1.2.1.len : Int) ≤ r7)) = true →
    (((decide ((0 : Int) ≤ r7)) = true →
    Q true h14) ∧
    ((decide ((0 : Int) ≤ r7)) = false →
    c_ref22_makes (y3.1, (y3.2.1, (y3.2.2.1, (y3.2.2.2.1, (y3.2.2.2.2.1, ()))))) h14 fun r15 h16 =>
    ((r15 = true →
    (((decide ((s1.2.1.len : Int) ≤ r5)) = true →
    Q (decide ((0 : Int) ≤ r5)) h16) ∧
    ((decide ((s1.2.1.len : Int) ≤ r5)) = false →
    Q false h16))) ∧
    (r15 = false →
    Q false h16))))) ∧
    ((decide ((s1.2.1.len : Int) ≤ r7)) = false →
    c_ref22_makes (y3.1, (y3.2.1, (y3.2.2.1, (y3.2.2.2.1, (y3.2.2.2.2.1, ()))))) h14 fun r17 h18 =>
    ((r17 = true →
    (((decide ((s1.2.1.len : Int) ≤ r5)) = true →
    Q (decide ((0 : Int) ≤ r5)) h18) ∧
    ((decide ((s1.2.1.len : Int) ≤ r5)) = false →
    Q false h18))) ∧
    (r17 = false →
    Q false h18))))) ∧
    (r13 = false →
    c_ref22_makes (y3.1, (y3.2.1, (y3.2.2.1, (y3.2.2.2.1, (y3.2.2.2.2.1, ()))))) h14 fun r19 h20 =>
    ((r19 = true →
    (((decide ((s1.2.1.len : Int) ≤ r5)) = true →
    Q (decide ((0 : Int) ≤ r5)) h20) ∧
    ((decide ((s1.2.1.len : Int) ≤ r5)) = false →
    Q false h20))) ∧
    (r19 = false →
    Q false h20))))
def ref22_Depends.j2 (c_ref22_makes : Den kapiAct → Heap → (Bool → Heap → Prop) → Prop) (s1 : Den kapiScene) (x2 : Den kapiAct) (y3 : Den kapiAct) (Q : Bool → Heap → Prop) (r5 : Int) (r7 : Int) (s21 : (Bool × Unit)) (h22 : Heap) : Prop :=
    ((s21.1 = true →
    Q true h22) ∧
    (s21.1 = false →
    ref22_Depends.j1 c_ref22_makes s1 x2 y3 Q r5 r7 () h22))
def ref22_Depends.j3 (c_ref22_makes : Den kapiAct → Heap → (Bool → Heap → Prop) → Prop) (s1 : Den kapiScene) (x2 : Den kapiAct) (y3 : Den kapiAct) (Q : Bool → Heap → Prop) (r5 : Int) (r7 : Int) (s9 : Unit) (h10 : Heap) : Prop :=
    c_ref22_makes (x2.1, (x2.2.1, (x2.2.2.1, (x2.2.2.2.1, (x2.2.2.2.2.1, ()))))) h10 fun r23 h24 =>
    ((r23 = true →
    c_ref22_makes (y3.1, (y3.2.1, (y3.2.2.1, (y3.2.2.2.1, (y3.2.2.2.2.1, ()))))) h24 fun r25 h26 =>
    ref22_Depends.j2 c_ref22_makes s1 x2 y3 Q r5 r7 (r25, ()) h26) ∧
    (r23 = false →
    ref22_Depends.j2 c_ref22_makes s1 x2 y3 Q r5 r7 (false, ()) h24))
def ref22_Depends.j4 (c_ref22_makes : Den kapiAct → Heap → (Bool → Heap → Prop) → Prop) (s1 : Den kapiScene) (x2 : Den kapiAct) (y3 : Den kapiAct) (Q : Bool → Heap → Prop) (r5 : Int) (r7 : Int) (s27 : (Bool × Unit)) (h28 : Heap) : Prop :=
    ((s27.1 = true →
    (((decide (x2.2.1 ≠ 0)) = true →
    Q true h28) ∧
    ((decide (x2.2.1 ≠ 0)) = false →
    Q (decide (y3.2.1 ≠ 0)) h28))) ∧
    (s27.1 = false →
    ref22_Depends.j3 c_ref22_makes s1 x2 y3 Q r5 r7 () h28))
def ref22_Depends.M (c_ref22_cell : Den kapiScene → Den kapiAct → Heap → (Int → Heap → Prop) → Prop) (c_ref22_makes : Den kapiAct → Heap → (Bool → Heap → Prop) → Prop) (s1 : Den kapiScene) (x2 : Den kapiAct) (y3 : Den kapiAct) (h4 : Heap) (Q : Bool → Heap → Prop) : Prop :=
    c_ref22_cell (s1.1, (s1.2.1, (s1.2.2.1, ()))) (x2.1, (x2.2.1, (x2.2.2.1, (x2.2.2.2.1, (x2.2.2.2.2.1, ()))))) h4 fun r5 h6 =>
    c_ref22_cell (s1.1, (s1.2.1, (s1.2.2.1, ()))) (y3.1, (y3.2.1, (y3.2.2.1, (y3.2.2.2.1, (y3.2.2.2.2.1, ()))))) h6 fun r7 h8 =>
    (((decide ((0 : Int) ≤ r5)) = true →
    ref22_Depends.j4 c_ref22_makes s1 x2 y3 Q r5 r7 ((decide (r5 = r7)), ()) h8) ∧
    ((decide ((0 : Int) ≤ r5)) = false →
    ref22_Depends.j4 c_ref22_makes s1 x2 y3 Q r5 r7 (false, ()) h8))
def ref22_Depends.mk : Mk := (.s (.r [0, 1, 2]) (.s .d (.s .d (.j [] (.j [.slot 21 .bool] .d (.c (.s .d .d) .d)) (.j [] (.j [.slot 35 .bool] .d (.c (.s .d .d) .d)) (.s .d .d))))))

def law22_alike.l1 (a1 : Den kapiScene) (b2 : Den kapiScene) (Q : Bool → Heap → Prop) (go8 : (Int × Unit) → Heap → Prop) (s6 : (Int × Unit)) (go15 : (Int × Unit) → Heap → Prop) (s13 : (Int × Unit)) (h14 : Heap) : Prop :=
    (0 ≤ s6.1 ∧ s6.1 < (a1.2.2.1.len : Int)) ∧
    deref a1.2.2.1.a fun a16 =>
    ld (.sl : Kd) h14 (a16.add ((s6.1 : Int).toNat * 1)) fun t17 =>
    (((decide (s13.1 < (t17.len : Int))) = true →
    (0 ≤ s6.1 ∧ s6.1 < (a1.2.2.1.len : Int)) ∧
    deref a1.2.2.1.a fun a18 =>
    ld (.sl : Kd) h14 (a18.add ((s6.1 : Int).toNat * 1)) fun t19 =>
    (0 ≤ s13.1 ∧ s13.1 < (t19.len : Int)) ∧
    deref t19.a fun a20 =>
    ld kapiAct h14 (a20.add ((s13.1 : Int).toNat * 5)) fun t21 =>
    (0 ≤ s6.1 ∧ s6.1 < (b2.2.2.1.len : Int)) ∧
    deref b2.2.2.1.a fun a22 =>
    ld (.sl : Kd) h14 (a22.add ((s6.1 : Int).toNat * 1)) fun t23 =>
    (0 ≤ s13.1 ∧ s13.1 < (t23.len : Int)) ∧
    deref t23.a fun a24 =>
    ld kapiAct h14 (a24.add ((s13.1 : Int).toNat * 5)) fun t25 =>
    (((!(eqK kapiAct t21 t25)) = true →
    Q false h14) ∧
    ((!(eqK kapiAct t21 t25)) = false →
    go15 ((w64 (s13.1 + 1)), ()) h14))) ∧
    ((decide (s13.1 < (t17.len : Int))) = false →
    go8 ((w64 (s6.1 + 1)), ()) h14))
def law22_alike.l2 (a1 : Den kapiScene) (b2 : Den kapiScene) (Q : Bool → Heap → Prop) (go8 : (Int × Unit) → Heap → Prop) (s6 : (Int × Unit)) (h7 : Heap) : Prop :=
    (((decide (s6.1 < (a1.2.2.1.len : Int))) = true →
    (0 ≤ s6.1 ∧ s6.1 < (a1.2.2.1.len : Int)) ∧
    deref a1.2.2.1.a fun a9 =>
    ld (.sl : Kd) h7 (a9.add ((s6.1 : Int).toNat * 1)) fun t10 =>
    (0 ≤ s6.1 ∧ s6.1 < (b2.2.2.1.len : Int)) ∧
    deref b2.2.2.1.a fun a11 =>
    ld (.sl : Kd) h7 (a11.add ((s6.1 : Int).toNat * 1)) fun t12 =>
    (((decide ((t10.len : Int) ≠ (t12.len : Int))) = true →
    Q false h7) ∧
    ((decide ((t10.len : Int) ≠ (t12.len : Int))) = false →
    Loop (law22_alike.l1 a1 b2 Q go8 s6) (0, ()) h7))) ∧
    ((decide (s6.1 < (a1.2.2.1.len : Int))) = false →
    Q true h7))
def law22_alike.j3 (a1 : Den kapiScene) (b2 : Den kapiScene) (Q : Bool → Heap → Prop) (s4 : Unit) (h5 : Heap) : Prop :=
    Loop (law22_alike.l2 a1 b2 Q) (0, ()) h5
def law22_alike.j4 (a1 : Den kapiScene) (b2 : Den kapiScene) (Q : Bool → Heap → Prop) (s26 : (Bool × Unit)) (h27 : Heap) : Prop :=
    ((s26.1 = true →
    Q false h27) ∧
    (s26.1 = false →
    law22_alike.j3 a1 b2 Q () h27))
def law22_alike.M (c_law22_marked : Den kapiScene → Heap → (Bool → Heap → Prop) → Prop) (c_law22_sameCells : Sl → Sl → Heap → (Bool → Heap → Prop) → Prop) (a1 : Den kapiScene) (b2 : Den kapiScene) (h3 : Heap) (Q : Bool → Heap → Prop) : Prop :=
    c_law22_marked (a1.1, (a1.2.1, (a1.2.2.1, ()))) h3 fun r28 h29 =>
    (((!r28) = true →
    law22_alike.j4 a1 b2 Q (true, ()) h29) ∧
    ((!r28) = false →
    (((decide (a1.1 ≠ b2.1)) = true →
    law22_alike.j4 a1 b2 Q (true, ()) h29) ∧
    ((decide (a1.1 ≠ b2.1)) = false →
    c_law22_sameCells a1.2.1 b2.2.1 h29 fun r30 h31 =>
    (((!r30) = true →
    law22_alike.j4 a1 b2 Q (true, ()) h31) ∧
    ((!r30) = false →
    law22_alike.j4 a1 b2 Q ((decide ((a1.2.2.1.len : Int) ≠ (b2.2.2.1.len : Int))), ()) h31))))))
def law22_alike.mk : Mk := (.s (.r [0, 1]) (.j [] (.j [.slot 33 .bool] .d (.c (.s .d .d) .d)) (.s (.s .d (.b (.l [.slot 5 (.int .i64)] (.s (.s .d (.c .d .d)) (.s (.b (.s (.s (.q [] [] [.p 0, .p 2, .p 6, .p 8, .w 1 [1, 3, 4, 5, 12], .p 3, .w 4 [4, 5, 12], .p 5, .w 7 [7, 9, 10, 11, 12], .p 9, .w 10 [10, 11, 12], .p 11, .p 12]) (.c (.s .d .d) .d)) (.s .d (.b (.l [.slot 6 (.int .i64)] (.s (.s .d (.c .d .d)) (.s (.b (.s (.q [] [] [.p 0, .p 2, .p 5, .p 8, .p 10, .p 13, .w 1 [1, 3, 4, 6, 7, 16], .p 3, .w 4 [4, 6, 7, 16], .p 6, .w 7 [7, 16], .w 9 [9, 11, 12, 14, 15, 16], .p 11, .w 12 [12, 14, 15, 16], .p 14, .w 15 [15, 16], .p 16]) (.c (.s .d .d) .d))) .d))))))) .d))))) (.s .d .d))))

def explore_Check.j1 (go19 : (Int × Unit) → Heap → Prop) (s17 : (Int × Unit)) (s20 : Unit) (h21 : Heap) : Prop :=
    go19 ((w64 (s17.1 + 1)), ()) h21
def explore_Check.j2 (Q : Int → Heap → Prop) (go19 : (Int × Unit) → Heap → Prop) (s17 : (Int × Unit)) (s24 : (Bool × Unit)) (h25 : Heap) : Prop :=
    ((s24.1 = true →
    Q 23 h25) ∧
    (s24.1 = false →
    explore_Check.j1 go19 s17 () h25))
def explore_Check.l3 (Q : Int → Heap → Prop) (go14 : (Int × Unit) → Heap → Prop) (s12 : (Int × Unit)) (t16 : Sl) (go19 : (Int × Unit) → Heap → Prop) (s17 : (Int × Unit)) (h18 : Heap) : Prop :=
    (((decide (s17.1 < (t16.len : Int))) = true →
    (0 ≤ s17.1 ∧ s17.1 < (t16.len : Int)) ∧
    deref t16.a fun a22 =>
    ld kapiAct h18 (a22.add ((s17.1 : Int).toNat * 5)) fun t23 =>
    (((decide (t23.2.1 < 0)) = true →
    explore_Check.j2 Q go19 s17 (true, ()) h18) ∧
    ((decide (t23.2.1 < 0)) = false →
    explore_Check.j2 Q go19 s17 ((decide ((4 : Int) < t23.2.1)), ()) h18))) ∧
    ((decide (s17.1 < (t16.len : Int))) = false →
    go14 ((w64 (s12.1 + 1)), ()) h18))
def explore_Check.l4 (s1 : Den kapiScene) (Q : Int → Heap → Prop) (go14 : (Int × Unit) → Heap → Prop) (s12 : (Int × Unit)) (h13 : Heap) : Prop :=
    (((decide (s12.1 < (s1.2.2.1.len : Int))) = true →
    (0 ≤ s12.1 ∧ s12.1 < (s1.2.2.1.len : Int)) ∧
    deref s1.2.2.1.a fun a15 =>
    ld (.sl : Kd) h13 (a15.add ((s12.1 : Int).toNat * 1)) fun t16 =>
    Loop (explore_Check.l3 Q go14 s12 t16) (0, ()) h13) ∧
    ((decide (s12.1 < (s1.2.2.1.len : Int))) = false →
    Q 0 h13))
def explore_Check.j5 (s1 : Den kapiScene) (Q : Int → Heap → Prop) (s10 : Unit) (h11 : Heap) : Prop :=
    Loop (explore_Check.l4 s1 Q) (0, ()) h11
def explore_Check.j6 (s1 : Den kapiScene) (Q : Int → Heap → Prop) (s26 : (Bool × Unit)) (h27 : Heap) : Prop :=
    ((s26.1 = true →
    Q 2 h27) ∧
    (s26.1 = false →
    explore_Check.j5 s1 Q () h27))
def explore_Check.l7 (s1 : Den kapiScene) (Q : Int → Heap → Prop) (go7 : Den kcellsledger → Heap → Prop) (s5 : Den kcellsledger) (h6 : Heap) : Prop :=
    (((decide (s5.2.1 < (s1.2.2.1.len : Int))) = true →
    (0 ≤ s5.2.1 ∧ s5.2.1 < (s1.2.2.1.len : Int)) ∧
    deref s1.2.2.1.a fun a8 =>
    ld (.sl : Kd) h6 (a8.add ((s5.2.1 : Int).toNat * 1)) fun t9 =>
    go7 ((w64 (s5.1 + (t9.len : Int))), (w64 (s5.2.1 + 1)), ()) h6) ∧
    ((decide (s5.2.1 < (s1.2.2.1.len : Int))) = false →
    (((decide (s1.1 < (s1.2.1.len : Int))) = true →
    explore_Check.j6 s1 Q (true, ()) h6) ∧
    ((decide (s1.1 < (s1.2.1.len : Int))) = false →
    (((decide ((4 : Int) < (s1.2.2.1.len : Int))) = true →
    explore_Check.j6 s1 Q (true, ()) h6) ∧
    ((decide ((4 : Int) < (s1.2.2.1.len : Int))) = false →
    explore_Check.j6 s1 Q ((decide ((10 : Int) < s5.1)), ()) h6))))))
def explore_Check.j8 (s1 : Den kapiScene) (Q : Int → Heap → Prop) (s3 : Unit) (h4 : Heap) : Prop :=
    Loop (explore_Check.l7 s1 Q) (0, 0, ()) h4
def explore_Check.j9 (s1 : Den kapiScene) (Q : Int → Heap → Prop) (s28 : (Bool × Unit)) (h29 : Heap) : Prop :=
    ((s28.1 = true →
    Q 3 h29) ∧
    (s28.1 = false →
    explore_Check.j8 s1 Q () h29))
def explore_Check.M  (s1 : Den kapiScene) (h2 : Heap) (Q : Int → Heap → Prop) : Prop :=
    (((decide (s1.1 < 0)) = true →
    explore_Check.j9 s1 Q (true, ()) h2) ∧
    ((decide (s1.1 < 0)) = false →
    explore_Check.j9 s1 Q ((decide ((64 : Int) < s1.1)), ()) h2))
def explore_Check.mk : Mk := (.s (.r [0]) (.j [] (.j [.slot 17 .bool] .d (.c (.s .d .d) .d)) (.s .d (.s (.s .d (.b (.l [.slot 3 (.int .i64), .slot 21 (.int .i64)] (.s .d (.s (.c .d .d) (.s (.b (.s .d .d)) .d)))))) (.j [] (.j [.slot 45 .bool] .d (.c (.s .d .d) .d)) (.s (.s .d (.b (.l [.slot 49 (.int .i64)] (.s .d (.s (.c .d .d) (.s (.b (.s .d (.s .d (.b (.l [.slot 55 (.int .i64)] (.s .d (.s (.c .d .d) (.j [] (.b (.s (.r [2]) (.j [.slot 66 .bool] .d (.c (.s .d .d) .d)))) .d)))))))) .d)))))) (.s .d .d)))))))

def ref22_Check.j1 (go12 : (Int × Unit) → Heap → Prop) (s10 : (Int × Unit)) (s15 : Unit) (h16 : Heap) : Prop :=
    go12 ((w64 (s10.1 + 1)), ()) h16
def ref22_Check.j2 (Q : Int → Heap → Prop) (go12 : (Int × Unit) → Heap → Prop) (s10 : (Int × Unit)) (s21 : (Bool × Unit)) (h22 : Heap) : Prop :=
    ((s21.1 = true →
    Q 23 h22) ∧
    (s21.1 = false →
    ref22_Check.j1 go12 s10 () h22))
def ref22_Check.l3 (s1 : Den kapiScene) (Q : Int → Heap → Prop) (go9 : (Int × Unit) → Heap → Prop) (s7 : (Int × Unit)) (go12 : (Int × Unit) → Heap → Prop) (s10 : (Int × Unit)) (h11 : Heap) : Prop :=
    (0 ≤ s7.1 ∧ s7.1 < (s1.2.2.1.len : Int)) ∧
    deref s1.2.2.1.a fun a13 =>
    ld (.sl : Kd) h11 (a13.add ((s7.1 : Int).toNat * 1)) fun t14 =>
    (((decide (s10.1 < (t14.len : Int))) = true →
    (0 ≤ s7.1 ∧ s7.1 < (s1.2.2.1.len : Int)) ∧
    deref s1.2.2.1.a fun a17 =>
    ld (.sl : Kd) h11 (a17.add ((s7.1 : Int).toNat * 1)) fun t18 =>
    (0 ≤ s10.1 ∧ s10.1 < (t18.len : Int)) ∧
    deref t18.a fun a19 =>
    ld ((.int .i64) : Kd) h11 ((a19.add ((s10.1 : Int).toNat * 5)).add 1) fun t20 =>
    (((decide (t20 < 0)) = true →
    ref22_Check.j2 Q go12 s10 (true, ()) h11) ∧
    ((decide (t20 < 0)) = false →
    ref22_Check.j2 Q go12 s10 ((decide ((4 : Int) < t20)), ()) h11))) ∧
    ((decide (s10.1 < (t14.len : Int))) = false →
    go9 ((w64 (s7.1 + 1)), ()) h11))
def ref22_Check.l4 (s1 : Den kapiScene) (Q : Int → Heap → Prop) (go9 : (Int × Unit) → Heap → Prop) (s7 : (Int × Unit)) (h8 : Heap) : Prop :=
    (((decide (s7.1 < (s1.2.2.1.len : Int))) = true →
    Loop (ref22_Check.l3 s1 Q go9 s7) (0, ()) h8) ∧
    ((decide (s7.1 < (s1.2.2.1.len : Int))) = false →
    Q 0 h8))
def ref22_Check.j5 (s1 : Den kapiScene) (Q : Int → Heap → Prop) (s5 : Unit) (h6 : Heap) : Prop :=
    Loop (ref22_Check.l4 s1 Q) (0, ()) h6
def ref22_Check.j6 (s1 : Den kapiScene) (Q : Int → Heap → Prop) (s23 : (Bool × Unit)) (h24 : Heap) : Prop :=
    ((s23.1 = true →
    Q 2 h24) ∧
    (s23.1 = false →
    ref22_Check.j5 s1 Q () h24))
def ref22_Check.j7 (c_ref22_acts : Den kapiScene → Heap → (Int → Heap → Prop) → Prop) (s1 : Den kapiScene) (Q : Int → Heap → Prop) (s3 : Unit) (h4 : Heap) : Prop :=
    (((decide (s1.1 < (s1.2.1.len : Int))) = true →
    ref22_Check.j6 s1 Q (true, ()) h4) ∧
    ((decide (s1.1 < (s1.2.1.len : Int))) = false →
    (((decide ((4 : Int) < (s1.2.2.1.len : Int))) = true →
    ref22_Check.j6 s1 Q (true, ()) h4) ∧
    ((decide ((4 : Int) < (s1.2.2.1.len : Int))) = false →
    c_ref22_acts (s1.1, (s1.2.1, (s1.2.2.1, ()))) h4 fun r25 h26 =>
    ref22_Check.j6 s1 Q ((decide ((10 : Int) < r25)), ()) h26))))
def ref22_Check.j8 (c_ref22_acts : Den kapiScene → Heap → (Int → Heap → Prop) → Prop) (s1 : Den kapiScene) (Q : Int → Heap → Prop) (s27 : (Bool × Unit)) (h28 : Heap) : Prop :=
    ((s27.1 = true →
    Q 3 h28) ∧
    (s27.1 = false →
    ref22_Check.j7 c_ref22_acts s1 Q () h28))
def ref22_Check.M (c_ref22_acts : Den kapiScene → Heap → (Int → Heap → Prop) → Prop) (s1 : Den kapiScene) (h2 : Heap) (Q : Int → Heap → Prop) : Prop :=
    (((decide (s1.1 < 0)) = true →
    ref22_Check.j8 c_ref22_acts s1 Q (true, ()) h2) ∧
    ((decide (s1.1 < 0)) = false →
    ref22_Check.j8 c_ref22_acts s1 Q ((decide ((64 : Int) < s1.1)), ()) h2))
def ref22_Check.mk : Mk := (.s (.r [0]) (.j [] (.j [.slot 13 .bool] .d (.c (.s .d .d) .d)) (.j [] (.j [.slot 30 .bool] .d (.c (.s .d .d) .d)) (.s (.s .d (.b (.l [.slot 3 (.int .i64)] (.s (.s .d (.c .d .d)) (.s (.b (.s .d (.b (.l [.slot 4 (.int .i64)] (.s (.s .d (.c .d .d)) (.j [] (.b (.s .d (.j [.slot 62 .bool] .d (.c (.s .d .d) .d)))) .d)))))) .d))))) (.s .d .d)))))

def explore_Explore.M (c_explore_Check : Den kapiScene → Heap → (Int → Heap → Prop) → Prop) (c_explore_traces : Den kapiScene → Heap → (Value → Heap → Prop) → Prop) (c_yield : Value → Sl → Heap → (Bool → Heap → Prop) → Prop) (c_rf : Value → Value → Heap → (Unit → Heap → Prop) → Prop) (s1 : Den kapiScene) (h2 : Heap) (Q : (Sl × (Int × Unit)) → Heap → Prop) : Prop :=
    c_explore_Check (s1.1, (s1.2.1, (s1.2.2.1, ()))) h2 fun r3 h4 =>
    (((decide (r3 ≠ 0)) = true →
    Q (⟨none, 0, 0⟩, r3, ()) h4) ∧
    ((decide (r3 ≠ 0)) = false →
    new h4 ((.sl : Kd).cells ((.sl : Kd).zero)) fun p5 h6 =>
    c_explore_traces (s1.1, (s1.2.1, (s1.2.2.1, ()))) h6 fun r7 h8 =>
    ∀ (l9 : Nat) (d10 : Nat) (L11 : Bool → Obj), h8 l9 = none → h8 d10 = none → l9 ≠ d10 →
    (∀ (y12 : Sl) (h13 : Heap) (K14 : Bool → Heap → Prop), h13 l9 = some (HObj.raw (L11 false)) →
    (h13 l9 = some (HObj.raw (L11 false)) ∧
    ld (.sl : Kd) (upd h13 l9 (HObj.raw (L11 true))) p5 fun t15 =>
    new (upd h13 l9 (HObj.raw (L11 true))) (([y12] : List (Den (.sl : Kd))).flatMap (Kd.cells (.sl : Kd))) fun p16 h17 =>
    appendM 1 24 h17 t15 ⟨some p16, 1, 1⟩ fun t18 h19 =>
    st (.sl : Kd) h19 p5 t18 fun h20 =>
    h20 l9 = some (HObj.raw (L11 true)) ∧
    K14 true (upd h20 l9 (HObj.raw (L11 false)))) →
    c_yield (Value.func (.yield l9) #[] #[]) y12 h13 K14) →
    c_rf r7 (Value.func (.yield l9) #[] #[]) (upd (upd h8 d10 (HObj.raw (Obj.deferred (some [])))) l9 (HObj.raw (L11 false))) fun _ h21 =>
    h21 l9 = some (HObj.raw (L11 false)) ∧ h21 d10 = some (HObj.raw (Obj.deferred (some []))) ∧
    ld (.sl : Kd) (drop2 h21 l9 d10) p5 fun t22 =>
    Q (t22, 0, ()) (drop2 h21 l9 d10)))
def explore_Explore.mk : Mk := (.s (.r [0]) (.s (.s .d (.s .d (.c (.s .d .d) .d))) (.s .d (.f .sl .d .d (.b .d) .d))))

def law22_spoilt.l1 (l1 : Sl) (go5 : (Int × Unit) → Heap → Prop) (s3 : (Int × Unit)) (go8 : (Int × Unit) → Heap → Prop) (s6 : (Int × Unit)) (h7 : Heap) : Prop :=
    (0 ≤ s3.1 ∧ s3.1 < (l1.len : Int)) ∧
    deref l1.a fun a9 =>
    ld (.sl : Kd) h7 (a9.add ((s3.1 : Int).toNat * 1)) fun t10 =>
    (((decide (s6.1 < (t10.len : Int))) = true →
    (0 ≤ s3.1 ∧ s3.1 < (l1.len : Int)) ∧
    deref l1.a fun a11 =>
    ld (.sl : Kd) h7 (a11.add ((s3.1 : Int).toNat * 1)) fun t12 =>
    (0 ≤ s6.1 ∧ s6.1 < (t12.len : Int)) ∧
    deref t12.a fun a13 =>
    st ((.int .i64) : Kd) h7 (a13.add ((s6.1 : Int).toNat * 1)) (w64 ((w64 ((-1) - s3.1)) - s6.1)) fun h14 =>
    go8 ((w64 (s6.1 + 1)), ()) h14) ∧
    ((decide (s6.1 < (t10.len : Int))) = false →
    go5 ((w64 (s3.1 + 1)), ()) h7))
def law22_spoilt.l2 (c_law22_longer : Sl → Int → Heap → (Sl → Heap → Prop) → Prop) (l1 : Sl) (Q : Int → Heap → Prop) (go17 : Den kcellsledger → Heap → Prop) (s15 : Den kcellsledger) (h16 : Heap) : Prop :=
    (((decide (s15.2.1 < (l1.len : Int))) = true →
    (0 ≤ s15.2.1 ∧ s15.2.1 < (l1.len : Int)) ∧
    deref l1.a fun a18 =>
    ld (.sl : Kd) h16 (a18.add ((s15.2.1 : Int).toNat * 1)) fun t19 =>
    c_law22_longer t19 (w64 ((-100) - s15.2.1)) h16 fun r20 h21 =>
    go17 ((w64 (s15.1 + (r20.len : Int))), (w64 (s15.2.1 + 1)), ()) h21) ∧
    ((decide (s15.2.1 < (l1.len : Int))) = false →
    Q s15.1 h16))
def law22_spoilt.l3 (c_law22_longer : Sl → Int → Heap → (Sl → Heap → Prop) → Prop) (l1 : Sl) (Q : Int → Heap → Prop) (go5 : (Int × Unit) → Heap → Prop) (s3 : (Int × Unit)) (h4 : Heap) : Prop :=
    (((decide (s3.1 < (l1.len : Int))) = true →
    Loop (law22_spoilt.l1 l1 go5 s3) (0, ()) h4) ∧
    ((decide (s3.1 < (l1.len : Int))) = false →
    Loop (law22_spoilt.l2 c_law22_longer l1 Q) (0, 0, ()) h4))
def law22_spoilt.M (c_law22_longer : Sl → Int → Heap → (Sl → Heap → Prop) → Prop) (l1 : Sl) (h2 : Heap) (Q : Int → Heap → Prop) : Prop :=
    Loop (law22_spoilt.l3 c_law22_longer l1 Q) (0, ()) h2
def law22_spoilt.mk : Mk := (.s .d (.s (.s .d (.b (.l [.slot 3 (.int .i64)] (.s (.s .d (.c .d .d)) (.s (.b (.s .d (.b (.l [.slot 4 (.int .i64)] (.s (.s .d (.c .d .d)) (.s (.b .d) .d)))))) .d))))) (.s .d (.s (.s .d (.b (.l [.slot 5 (.int .i64), .slot 6 (.int .i64)] (.s (.s .d (.c .d .d)) (.s (.b (.s .d .d)) .d))))) (.s .d .d)))))

def ref22_Explore.j1 (go9 : (Sl × (Int × Unit)) → Heap → Prop) (s7 : (Sl × (Int × Unit))) (s10 : (Sl × Unit)) (h11 : Heap) : Prop :=
    go9 (s10.1, (w64 (s7.2.1 + 1)), ()) h11
def ref22_Explore.l2 (c_ref22_least : Den kapiScene → Sl → Heap → (Sl → Heap → Prop) → Prop) (c_ref22_equal : Sl → Sl → Heap → (Bool → Heap → Prop) → Prop) (s1 : Den kapiScene) (Q : (Sl × (Int × Unit)) → Heap → Prop) (r5 : Sl) (go9 : (Sl × (Int × Unit)) → Heap → Prop) (s7 : (Sl × (Int × Unit))) (h8 : Heap) : Prop :=
    (((decide (s7.2.1 < (r5.len : Int))) = true →
    (0 ≤ s7.2.1 ∧ s7.2.1 < (r5.len : Int)) ∧
    deref r5.a fun a12 =>
    ld (.sl : Kd) h8 (a12.add ((s7.2.1 : Int).toNat * 1)) fun t13 =>
    c_ref22_least (s1.1, (s1.2.1, (s1.2.2.1, ()))) t13 h8 fun r14 h15 =>
    (0 ≤ s7.2.1 ∧ s7.2.1 < (r5.len : Int)) ∧
    deref r5.a fun a16 =>
    ld (.sl : Kd) h15 (a16.add ((s7.2.1 : Int).toNat * 1)) fun t17 =>
    c_ref22_equal r14 t17 h15 fun r18 h19 =>
    ((r18 = true →
    (0 ≤ s7.2.1 ∧ s7.2.1 < (r5.len : Int)) ∧
    deref r5.a fun a20 =>
    ld (.sl : Kd) h19 (a20.add ((s7.2.1 : Int).toNat * 1)) fun t21 =>
    new h19 (([t21] : List (Den (.sl : Kd))).flatMap (Kd.cells (.sl : Kd))) fun p22 h23 =>
    appendM 1 24 h23 s7.1 ⟨some p22, 1, 1⟩ fun t24 h25 =>
    ref22_Explore.j1 go9 s7 (t24, ()) h25) ∧
    (r18 = false →
    ref22_Explore.j1 go9 s7 (s7.1, ()) h19))) ∧
    ((decide (s7.2.1 < (r5.len : Int))) = false →
    Q (s7.1, 0, ()) h8))
def ref22_Explore.M (c_ref22_Check : Den kapiScene → Heap → (Int → Heap → Prop) → Prop) (c_ref22_Scripts : Den kapiScene → Heap → (Sl → Heap → Prop) → Prop) (c_ref22_least : Den kapiScene → Sl → Heap → (Sl → Heap → Prop) → Prop) (c_ref22_equal : Sl → Sl → Heap → (Bool → Heap → Prop) → Prop) (s1 : Den kapiScene) (h2 : Heap) (Q : (Sl × (Int × Unit)) → Heap → Prop) : Prop :=
    c_ref22_Check (s1.1, (s1.2.1, (s1.2.2.1, ()))) h2 fun r3 h4 =>
    (((decide (r3 ≠ 0)) = true →
    Q (⟨none, 0, 0⟩, r3, ()) h4) ∧
    ((decide (r3 ≠ 0)) = false →
    c_ref22_Scripts (s1.1, (s1.2.1, (s1.2.2.1, ()))) h4 fun r5 h6 =>
    Loop (ref22_Explore.l2 c_ref22_least c_ref22_equal s1 Q r5) (⟨none, 0, 0⟩, 0, ()) h6))
def ref22_Explore.mk : Mk := (.s (.r [0]) (.s .d (.s (.s .d (.c (.s .d .d) .d)) (.s .d (.s .d (.s (.s .d (.b (.l [.slot 6 .sl, .slot 7 (.int .i64)] (.s (.s .d (.c .d .d)) (.j [.slot 6 .sl] (.b (.s (.q [] [] [.p 1, .p 2, .p 3, .w 0 [0, 5, 6], .w 4 [4, 5, 6], .o 5, .p 6]) (.s .d (.c .d .d)))) .d))))) (.s .d .d)))))))

def law22_sameLists.l1 (c_law22_same : Sl → Sl → Heap → (Bool → Heap → Prop) → Prop) (a1 : Sl) (b2 : Sl) (Q : Bool → Heap → Prop) (go6 : (Int × Unit) → Heap → Prop) (s4 : (Int × Unit)) (h5 : Heap) : Prop :=
    (((decide (s4.1 < (a1.len : Int))) = true →
    (0 ≤ s4.1 ∧ s4.1 < (a1.len : Int)) ∧
    deref a1.a fun a7 =>
    (0 ≤ s4.1 ∧ s4.1 < (b2.len : Int)) ∧
    deref b2.a fun a8 =>
    ld (.sl : Kd) h5 (a7.add ((s4.1 : Int).toNat * 1)) fun t9 =>
    ld (.sl : Kd) h5 (a8.add ((s4.1 : Int).toNat * 1)) fun t10 =>
    c_law22_same t9 t10 h5 fun r11 h12 =>
    (((!r11) = true →
    Q false h12) ∧
    ((!r11) = false →
    go6 ((w64 (s4.1 + 1)), ()) h12))) ∧
    ((decide (s4.1 < (a1.len : Int))) = false →
    Q true h5))
def law22_sameLists.M (c_law22_same : Sl → Sl → Heap → (Bool → Heap → Prop) → Prop) (a1 : Sl) (b2 : Sl) (h3 : Heap) (Q : Bool → Heap → Prop) : Prop :=
    (((decide ((a1.len : Int) ≠ (b2.len : Int))) = true →
    Q false h3) ∧
    ((decide ((a1.len : Int) ≠ (b2.len : Int))) = false →
    Loop (law22_sameLists.l1 c_law22_same a1 b2 Q) (0, ()) h3))
def law22_sameLists.mk : Mk := (.s .d (.s (.s .d (.c (.s .d .d) .d)) (.s (.s .d (.b (.l [.slot 5 (.int .i64)] (.s (.s .d (.c .d .d)) (.s (.b (.s (.q [] [] [.p 0, .p 1, .p 2, .p 4, .p 5, .p 6, .w 3 [3, 8, 9], .w 7 [7, 8, 9], .o 8, .p 9]) (.c (.s .d .d) .d))) .d))))) (.s .d .d))))

def law22_apart.l1 (l1 : Sl) (go5 : (Int × Unit) → Heap → Prop) (s3 : (Int × Unit)) (go8 : (Int × Unit) → Heap → Prop) (s6 : (Int × Unit)) (h7 : Heap) : Prop :=
    (0 ≤ s3.1 ∧ s3.1 < (l1.len : Int)) ∧
    deref l1.a fun a9 =>
    ld (.sl : Kd) h7 (a9.add ((s3.1 : Int).toNat * 1)) fun t10 =>
    (((decide (s6.1 < (t10.len : Int))) = true →
    (0 ≤ s3.1 ∧ s3.1 < (l1.len : Int)) ∧
    deref l1.a fun a11 =>
    ld (.sl : Kd) h7 (a11.add ((s3.1 : Int).toNat * 1)) fun t12 =>
    (0 ≤ s6.1 ∧ s6.1 < (t12.len : Int)) ∧
    deref t12.a fun a13 =>
    st ((.int .i64) : Kd) h7 (a13.add ((s6.1 : Int).toNat * 1)) (w64 ((w64 (100 * s3.1)) + s6.1)) fun h14 =>
    go8 ((w64 (s6.1 + 1)), ()) h14) ∧
    ((decide (s6.1 < (t10.len : Int))) = false →
    go5 ((w64 (s3.1 + 1)), ()) h7))
def law22_apart.l2 (Q : Bool → Heap → Prop) (s15 : (Sl × (Int × Unit))) (go28 : (Int × Unit) → Heap → Prop) (s26 : (Int × Unit)) (go42 : (Int × Unit) → Heap → Prop) (s40 : (Int × Unit)) (h41 : Heap) : Prop :=
    (0 ≤ s26.1 ∧ s26.1 < (s15.1.len : Int)) ∧
    deref s15.1.a fun a43 =>
    ld (.sl : Kd) h41 (a43.add ((s26.1 : Int).toNat * 1)) fun t44 =>
    (((decide (s40.1 < (t44.len : Int))) = true →
    (0 ≤ s26.1 ∧ s26.1 < (s15.1.len : Int)) ∧
    deref s15.1.a fun a45 =>
    ld (.sl : Kd) h41 (a45.add ((s26.1 : Int).toNat * 1)) fun t46 =>
    (0 ≤ s40.1 ∧ s40.1 < (t46.len : Int)) ∧
    deref t46.a fun a47 =>
    ld ((.int .i64) : Kd) h41 (a47.add ((s40.1 : Int).toNat * 1)) fun t48 =>
    (((decide (t48 ≠ (w64 ((-7) - s26.1)))) = true →
    Q false h41) ∧
    ((decide (t48 ≠ (w64 ((-7) - s26.1)))) = false →
    go42 ((w64 (s40.1 + 1)), ()) h41))) ∧
    ((decide (s40.1 < (t44.len : Int))) = false →
    go28 ((w64 (s26.1 + 1)), ()) h41))
def law22_apart.l3 (l1 : Sl) (Q : Bool → Heap → Prop) (s15 : (Sl × (Int × Unit))) (go28 : (Int × Unit) → Heap → Prop) (s26 : (Int × Unit)) (go31 : (Int × Unit) → Heap → Prop) (s29 : (Int × Unit)) (h30 : Heap) : Prop :=
    (0 ≤ s26.1 ∧ s26.1 < (l1.len : Int)) ∧
    deref l1.a fun a32 =>
    ld (.sl : Kd) h30 (a32.add ((s26.1 : Int).toNat * 1)) fun t33 =>
    (((decide (s29.1 < (t33.len : Int))) = true →
    (0 ≤ s26.1 ∧ s26.1 < (l1.len : Int)) ∧
    deref l1.a fun a34 =>
    ld (.sl : Kd) h30 (a34.add ((s26.1 : Int).toNat * 1)) fun t35 =>
    (0 ≤ s29.1 ∧ s29.1 < (t35.len : Int)) ∧
    deref t35.a fun a36 =>
    ld ((.int .i64) : Kd) h30 (a36.add ((s29.1 : Int).toNat * 1)) fun t37 =>
    (((decide (t37 ≠ (w64 ((w64 (100 * s26.1)) + s29.1)))) = true →
    Q false h30) ∧
    ((decide (t37 ≠ (w64 ((w64 (100 * s26.1)) + s29.1)))) = false →
    go31 ((w64 (s29.1 + 1)), ()) h30))) ∧
    ((decide (s29.1 < (t33.len : Int))) = false →
    (0 ≤ s26.1 ∧ s26.1 < (l1.len : Int)) ∧
    deref l1.a fun a38 =>
    ld (.sl : Kd) h30 (a38.add ((s26.1 : Int).toNat * 1)) fun t39 =>
    Loop (law22_apart.l2 Q s15 go28 s26) ((t39.len : Int), ()) h30))
def law22_apart.l4 (l1 : Sl) (Q : Bool → Heap → Prop) (s15 : (Sl × (Int × Unit))) (go28 : (Int × Unit) → Heap → Prop) (s26 : (Int × Unit)) (h27 : Heap) : Prop :=
    (((decide (s26.1 < (l1.len : Int))) = true →
    Loop (law22_apart.l3 l1 Q s15 go28 s26) (0, ()) h27) ∧
    ((decide (s26.1 < (l1.len : Int))) = false →
    Q true h27))
def law22_apart.l5 (c_law22_longer : Sl → Int → Heap → (Sl → Heap → Prop) → Prop) (l1 : Sl) (Q : Bool → Heap → Prop) (go17 : (Sl × (Int × Unit)) → Heap → Prop) (s15 : (Sl × (Int × Unit))) (h16 : Heap) : Prop :=
    (((decide (s15.2.1 < (l1.len : Int))) = true →
    (0 ≤ s15.2.1 ∧ s15.2.1 < (l1.len : Int)) ∧
    deref l1.a fun a18 =>
    ld (.sl : Kd) h16 (a18.add ((s15.2.1 : Int).toNat * 1)) fun t19 =>
    c_law22_longer t19 (w64 ((-7) - s15.2.1)) h16 fun r20 h21 =>
    new h21 (([r20] : List (Den (.sl : Kd))).flatMap (Kd.cells (.sl : Kd))) fun p22 h23 =>
    appendM 1 24 h23 s15.1 ⟨some p22, 1, 1⟩ fun t24 h25 =>
    go17 (t24, (w64 (s15.2.1 + 1)), ()) h25) ∧
    ((decide (s15.2.1 < (l1.len : Int))) = false →
    Loop (law22_apart.l4 l1 Q s15) (0, ()) h16))
def law22_apart.l6 (c_law22_longer : Sl → Int → Heap → (Sl → Heap → Prop) → Prop) (l1 : Sl) (Q : Bool → Heap → Prop) (go5 : (Int × Unit) → Heap → Prop) (s3 : (Int × Unit)) (h4 : Heap) : Prop :=
    (((decide (s3.1 < (l1.len : Int))) = true →
    Loop (law22_apart.l1 l1 go5 s3) (0, ()) h4) ∧
    ((decide (s3.1 < (l1.len : Int))) = false →
    Loop (law22_apart.l5 c_law22_longer l1 Q) (⟨none, 0, 0⟩, 0, ()) h4))
def law22_apart.M (c_law22_longer : Sl → Int → Heap → (Sl → Heap → Prop) → Prop) (l1 : Sl) (h2 : Heap) (Q : Bool → Heap → Prop) : Prop :=
    Loop (law22_apart.l6 c_law22_longer l1 Q) (0, ()) h2
def law22_apart.mk : Mk := (.s .d (.s (.s .d (.b (.l [.slot 3 (.int .i64)] (.s (.s .d (.c .d .d)) (.s (.b (.s .d (.b (.l [.slot 4 (.int .i64)] (.s (.s .d (.c .d .d)) (.s (.b .d) .d)))))) .d))))) (.s .d (.s (.s .d (.b (.l [.slot 5 .sl, .slot 6 (.int .i64)] (.s (.s .d (.c .d .d)) (.s (.b (.s .d .d)) .d))))) (.s (.s .d (.b (.l [.slot 8 (.int .i64)] (.s (.s .d (.c .d .d)) (.s (.b (.s (.s .d (.b (.l [.slot 9 (.int .i64)] (.s (.s .d (.c .d .d)) (.s (.b (.s .d (.c (.s .d .d) .d))) .d))))) (.s .d (.b (.l [.slot 10 (.int .i64)] (.s (.s .d (.c .d .d)) (.s (.b (.s .d (.c (.s .d .d) .d))) .d))))))) .d))))) (.s .d .d))))))

def law22_turned.l1 (list1 : Sl) (Q : Sl → Heap → Prop) (go5 : (Sl × (Int × Unit)) → Heap → Prop) (s3 : (Sl × (Int × Unit))) (h4 : Heap) : Prop :=
    (((decide (s3.2.1 < (list1.len : Int))) = true →
    (0 ≤ (w64 ((w64 ((list1.len : Int) - 1)) - s3.2.1)) ∧ (w64 ((w64 ((list1.len : Int) - 1)) - s3.2.1)) < (list1.len : Int)) ∧
    deref list1.a fun a6 =>
    ld ((.int .i64) : Kd) h4 (a6.add (((w64 ((w64 ((list1.len : Int) - 1)) - s3.2.1)) : Int).toNat * 1)) fun t7 =>
    new h4 (([t7] : List (Den ((.int .i64) : Kd))).flatMap (Kd.cells ((.int .i64) : Kd))) fun p8 h9 =>
    appendM 1 8 h9 s3.1 ⟨some p8, 1, 1⟩ fun t10 h11 =>
    go5 (t10, (w64 (s3.2.1 + 1)), ()) h11) ∧
    ((decide (s3.2.1 < (list1.len : Int))) = false →
    new h4 (([(-77)] : List (Den ((.int .i64) : Kd))).flatMap (Kd.cells ((.int .i64) : Kd))) fun p12 h13 =>
    appendM 1 8 h13 s3.1 ⟨some p12, 1, 1⟩ fun t14 h15 =>
    (0 ≤ (list1.len : Int) ∧ (list1.len : Int) ≤ (t14.cap : Int)) ∧
    Q (t14.cut 0 (((list1.len : Int) : Int).toNat) 1) h15))
def law22_turned.M  (list1 : Sl) (h2 : Heap) (Q : Sl → Heap → Prop) : Prop :=
    Loop (law22_turned.l1 list1 Q) (⟨none, 0, 0⟩, 0, ()) h2
def law22_turned.mk : Mk := (.s .d (.s .d (.s (.s .d (.b (.l [.slot 3 .sl, .slot 4 (.int .i64)] (.s (.s .d (.c .d .d)) (.s (.b .d) .d))))) (.s .d (.s .d .d)))))

def explore_Kin.j1 (go17 : (Int × (((Fin 4 → Int) × Unit) × (((Fin 4 → Int) × Unit) × Unit))) → Heap → Prop) (s15 : (Int × (((Fin 4 → Int) × Unit) × (((Fin 4 → Int) × Unit) × Unit)))) (s18 : (((Fin 4 → Int) × Unit) × (((Fin 4 → Int) × Unit) × Unit))) (h19 : Heap) : Prop :=
    go17 ((w64 (s15.1 + 1)), (s18.1.1, ()), (s18.2.1.1, ()), ()) h19
def explore_Kin.j2 (go17 : (Int × (((Fin 4 → Int) × Unit) × (((Fin 4 → Int) × Unit) × Unit))) → Heap → Prop) (s15 : (Int × (((Fin 4 → Int) × Unit) × (((Fin 4 → Int) × Unit) × Unit)))) (t21 : Den kexploredone) (s22 : (Bool × Unit)) (h23 : Heap) : Prop :=
    ((s22.1 = true →
    (0 ≤ t21.1 ∧ t21.1 < (4 : Int)) ∧
    (0 ≤ t21.1 ∧ t21.1 < (4 : Int)) ∧
    explore_Kin.j1 go17 s15 (((aset (n := 4) (a := ((.int .i64) : Kd)) s15.2.1.1 (t21.1 : Int).toNat (aget (n := 4) (a := ((.int .i64) : Kd)) (aset (n := 4) (a := ((.int .i64) : Kd)) s15.2.2.1.1 (t21.1 : Int).toNat (w64 ((aget (n := 4) (a := ((.int .i64) : Kd)) s15.2.2.1.1 (t21.1 : Int).toNat) + 1))) (t21.1 : Int).toNat)), ()), ((aset (n := 4) (a := ((.int .i64) : Kd)) s15.2.2.1.1 (t21.1 : Int).toNat (w64 ((aget (n := 4) (a := ((.int .i64) : Kd)) s15.2.2.1.1 (t21.1 : Int).toNat) + 1))), ()), ()) h23) ∧
    (s22.1 = false →
    explore_Kin.j1 go17 s15 ((s15.2.1.1, ()), ((aset (n := 4) (a := ((.int .i64) : Kd)) s15.2.2.1.1 (t21.1 : Int).toNat (w64 ((aget (n := 4) (a := ((.int .i64) : Kd)) s15.2.2.1.1 (t21.1 : Int).toNat) + 1))), ()), ()) h23))
def explore_Kin.l3 (c_explore_Depends : Den kapiScene → Den kapiAct → Den kapiAct → Heap → (Bool → Heap → Prop) → Prop) (s1 : Den kapiScene) (s6 : Sl) (r8 : Sl) (go12 : (Int × (((Fin 4 → Int) × Unit) × Unit)) → Heap → Prop) (s10 : (Int × (((Fin 4 → Int) × Unit) × Unit))) (t14 : Den kexploredone) (go17 : (Int × (((Fin 4 → Int) × Unit) × (((Fin 4 → Int) × Unit) × Unit))) → Heap → Prop) (s15 : (Int × (((Fin 4 → Int) × Unit) × (((Fin 4 → Int) × Unit) × Unit)))) (h16 : Heap) : Prop :=
    (((decide (s15.1 < ((r8.cut 0 ((s10.1 : Int).toNat) 7).len : Int))) = true →
    (0 ≤ s15.1 ∧ s15.1 < ((r8.cut 0 ((s10.1 : Int).toNat) 7).len : Int)) ∧
    deref (r8.cut 0 ((s10.1 : Int).toNat) 7).a fun a20 =>
    ld kexploredone h16 (a20.add ((s15.1 : Int).toNat * 7)) fun t21 =>
    (0 ≤ t21.1 ∧ t21.1 < (4 : Int)) ∧
    (0 ≤ t21.1 ∧ t21.1 < (4 : Int)) ∧
    (((decide (t21.1 = t14.1)) = true →
    explore_Kin.j2 go17 s15 t21 (true, ()) h16) ∧
    ((decide (t21.1 = t14.1)) = false →
    c_explore_Depends (s1.1, (s1.2.1, (s1.2.2.1, ()))) (t21.2.2.1.1, (t21.2.2.1.2.1, (t21.2.2.1.2.2.1, (t21.2.2.1.2.2.2.1, (t21.2.2.1.2.2.2.2.1, ()))))) (t14.2.2.1.1, (t14.2.2.1.2.1, (t14.2.2.1.2.2.1, (t14.2.2.1.2.2.2.1, (t14.2.2.1.2.2.2.2.1, ()))))) h16 fun r24 h25 =>
    explore_Kin.j2 go17 s15 t21 (r24, ()) h25))) ∧
    ((decide (s15.1 < ((r8.cut 0 ((s10.1 : Int).toNat) 7).len : Int))) = false →
    (0 ≤ t14.1 ∧ t14.1 < (s6.len : Int)) ∧
    deref s6.a fun a26 =>
    ld (.sl : Kd) h16 (a26.add ((t14.1 : Int).toNat * 1)) fun t27 =>
    new h16 (([s15.2.1.1] : List (Den ((.arr 4 (.int .i64)) : Kd))).flatMap (Kd.cells ((.arr 4 (.int .i64)) : Kd))) fun p28 h29 =>
    appendM 4 32 h29 t27 ⟨some p28, 1, 1⟩ fun t30 h31 =>
    (0 ≤ t14.1 ∧ t14.1 < (s6.len : Int)) ∧
    deref s6.a fun a32 =>
    st (.sl : Kd) h31 (a32.add ((t14.1 : Int).toNat * 1)) t30 fun h33 =>
    (0 ≤ t14.1 ∧ t14.1 < (4 : Int)) ∧
    (0 ≤ t14.1 ∧ t14.1 < (4 : Int)) ∧
    go12 ((w64 (s10.1 + 1)), ((aset (n := 4) (a := ((.int .i64) : Kd)) s10.2.1.1 (t14.1 : Int).toNat (w64 ((aget (n := 4) (a := ((.int .i64) : Kd)) s10.2.1.1 (t14.1 : Int).toNat) + 1))), ()), ()) h33))
def explore_Kin.l4 (c_explore_Depends : Den kapiScene → Den kapiAct → Den kapiAct → Heap → (Bool → Heap → Prop) → Prop) (c_explore_ways : Sl → (Fin 4 → Int) → Option Nat → Heap → (Int → Heap → Prop) → Prop) (s1 : Den kapiScene) (Q : Den kcellsledger → Heap → Prop) (s6 : Sl) (r8 : Sl) (go12 : (Int × (((Fin 4 → Int) × Unit) × Unit)) → Heap → Prop) (s10 : (Int × (((Fin 4 → Int) × Unit) × Unit))) (h11 : Heap) : Prop :=
    (((decide (s10.1 < (r8.len : Int))) = true →
    (0 ≤ s10.1 ∧ s10.1 < (r8.len : Int)) ∧
    deref r8.a fun a13 =>
    ld kexploredone h11 (a13.add ((s10.1 : Int).toNat * 7)) fun t14 =>
    (0 ≤ s10.1 ∧ s10.1 ≤ (r8.cap : Int)) ∧
    Loop (explore_Kin.l3 c_explore_Depends s1 s6 r8 go12 s10 t14) (0, ((fun _ => 0), ()), ((fun _ => 0), ()), ()) h11) ∧
    ((decide (s10.1 < (r8.len : Int))) = false →
    mapNew h11 fun m34 h35 =>
    mapPut ((.arr 4 (.int .i64)) : Kd) ((.int .i64) : Kd) h35 (some m34) (Kd.zero ((.arr 4 (.int .i64)) : Kd)) 1 fun h36 =>
    c_explore_ways s6 s10.2.1.1 (some m34) h36 fun r37 h38 =>
    Q (r37, 0, ()) h38))
def explore_Kin.M (c_explore_ready : Den kapiScene → Sl → Heap → (Int → Heap → Prop) → Prop) (c_explore_steps : Den kapiScene → Sl → Heap → (Sl → Heap → Prop) → Prop) (c_explore_Depends : Den kapiScene → Den kapiAct → Den kapiAct → Heap → (Bool → Heap → Prop) → Prop) (c_explore_ways : Sl → (Fin 4 → Int) → Option Nat → Heap → (Int → Heap → Prop) → Prop) (s1 : Den kapiScene) (picks2 : Sl) (h3 : Heap) (Q : Den kcellsledger → Heap → Prop) : Prop :=
    c_explore_ready (s1.1, (s1.2.1, (s1.2.2.1, ()))) picks2 h3 fun r4 h5 =>
    (((decide (r4 ≠ 0)) = true →
    Q (0, r4, ()) h5) ∧
    ((decide (r4 ≠ 0)) = false →
    makeM (.sl : Kd) 24 h5 (s1.2.2.1.len : Int) (s1.2.2.1.len : Int) fun s6 h7 =>
    c_explore_steps (s1.1, (s1.2.1, (s1.2.2.1, ()))) picks2 h7 fun r8 h9 =>
    Loop (explore_Kin.l4 c_explore_Depends c_explore_ways s1 Q s6 r8) (0, ((fun _ => 0), ()), ()) h9))
def explore_Kin.mk : Mk := (.s (.r [0]) (.s (.s .d (.s .d (.c (.s .d .d) .d))) (.s .d (.s .d (.s (.r [0]) (.s (.s .d (.b (.l [.slot 32 (.int .i64), .box 9 (.pair (.arr 4 (.int .i64)) .nil)] (.s .d (.s (.c .d .d) (.s (.b (.s (.r [3]) (.s (.r [0]) (.s (.r [0]) (.s (.s .d (.b (.l [.slot 41 (.int .i64), .box 12 (.pair (.arr 4 (.int .i64)) .nil), .box 13 (.pair (.arr 4 (.int .i64)) .nil)] (.s .d (.s (.c .d .d) (.j [.box 12 (.pair (.arr 4 (.int .i64)) .nil), .box 13 (.pair (.arr 4 (.int .i64)) .nil)] (.b (.s (.r [2]) (.s .d (.j [.slot 63 .bool] .d (.c (.q [] [12] [.p 0, .p 2, .w 1 [1, 6, 7], .w 3 [3, 4, 5, 6, 7], .p 4, .w 5 [5, 6, 7], .p 6, .o 7]) .d))))) .d)))))) (.s (.q [] [] [.p 0, .p 1, .p 3, .p 4, .w 2 [2, 11, 12], .w 5 [5, 6, 7, 10, 11, 12], .p 6, .w 7 [7, 10, 11, 12], .w 8 [8, 9, 10, 11, 12], .o 9, .o 10, .p 11, .o 12]) .d)))))) .d)))))) (.s .d (.s .d .d))))))))

def law22_written.l1 (l1 : Sl) (list2 : Sl) (Q : Unit → Heap → Prop) (go6 : (Int × Unit) → Heap → Prop) (s4 : (Int × Unit)) (h5 : Heap) : Prop :=
    (((decide (s4.1 < (list2.len : Int))) = true →
    (0 ≤ s4.1 ∧ s4.1 < (list2.len : Int)) ∧
    deref list2.a fun a7 =>
    ld ((.int .i64) : Kd) h5 (a7.add ((s4.1 : Int).toNat * 1)) fun t8 =>
    (0 ≤ s4.1 ∧ s4.1 < (l1.len : Int)) ∧
    deref l1.a fun a9 =>
    st ((.int .i64) : Kd) h5 (a9.add ((s4.1 : Int).toNat * 1)) t8 fun h10 =>
    go6 ((w64 (s4.1 + 1)), ()) h10) ∧
    ((decide (s4.1 < (list2.len : Int))) = false →
    Q () h5))
def law22_written.M  (l1 : Sl) (list2 : Sl) (h3 : Heap) (Q : Unit → Heap → Prop) : Prop :=
    Loop (law22_written.l1 l1 list2 Q) (0, ()) h3
def law22_written.mk : Mk := (.s .d (.b (.l [.slot 4 (.int .i64)] (.s (.s .d (.c .d .d)) (.s (.b .d) .d)))))

def ref22_Kin.j1 (go10 : Den kcellsledger → Heap → Prop) (s8 : Den kcellsledger) (s11 : (Int × Unit)) (h12 : Heap) : Prop :=
    go10 (s11.1, (w64 (s8.2.1 + 1)), ()) h12
def ref22_Kin.l2 (c_ref22_same : Den kapiScene → Sl → Sl → Heap → (Bool → Heap → Prop) → Prop) (s1 : Den kapiScene) (picks2 : Sl) (Q : Den kcellsledger → Heap → Prop) (r6 : Sl) (go10 : Den kcellsledger → Heap → Prop) (s8 : Den kcellsledger) (h9 : Heap) : Prop :=
    (((decide (s8.2.1 < (r6.len : Int))) = true →
    (0 ≤ s8.2.1 ∧ s8.2.1 < (r6.len : Int)) ∧
    deref r6.a fun a13 =>
    ld (.sl : Kd) h9 (a13.add ((s8.2.1 : Int).toNat * 1)) fun t14 =>
    c_ref22_same (s1.1, (s1.2.1, (s1.2.2.1, ()))) picks2 t14 h9 fun r15 h16 =>
    ((r15 = true →
    ref22_Kin.j1 go10 s8 ((w64 (s8.1 + 1)), ()) h16) ∧
    (r15 = false →
    ref22_Kin.j1 go10 s8 (s8.1, ()) h16))) ∧
    ((decide (s8.2.1 < (r6.len : Int))) = false →
    Q (s8.1, 0, ()) h9))
def ref22_Kin.M (c_ref22_Bad : Den kapiScene → Sl → Heap → (Int → Heap → Prop) → Prop) (c_ref22_Scripts : Den kapiScene → Heap → (Sl → Heap → Prop) → Prop) (c_ref22_same : Den kapiScene → Sl → Sl → Heap → (Bool → Heap → Prop) → Prop) (s1 : Den kapiScene) (picks2 : Sl) (h3 : Heap) (Q : Den kcellsledger → Heap → Prop) : Prop :=
    c_ref22_Bad (s1.1, (s1.2.1, (s1.2.2.1, ()))) picks2 h3 fun r4 h5 =>
    (((decide (r4 ≠ 0)) = true →
    Q (0, r4, ()) h5) ∧
    ((decide (r4 ≠ 0)) = false →
    c_ref22_Scripts (s1.1, (s1.2.1, (s1.2.2.1, ()))) h5 fun r6 h7 =>
    Loop (ref22_Kin.l2 c_ref22_same s1 picks2 Q r6) (0, 0, ()) h7))
def ref22_Kin.mk : Mk := (.s (.r [0]) (.s .d (.s (.s .d (.c (.s .d .d) .d)) (.s .d (.s .d (.s (.s .d (.b (.l [.slot 8 (.int .i64), .slot 9 (.int .i64)] (.s (.s .d (.c .d .d)) (.j [.slot 8 (.int .i64)] (.b (.s (.q [] [] [.p 1, .p 2, .p 3, .p 4, .w 0 [0, 6], .w 5 [5, 6], .o 6]) (.c .d .d))) .d))))) (.s .d .d)))))))

def law22_kept.M (c_law22_same : Sl → Sl → Heap → (Bool → Heap → Prop) → Prop) (l1 : Sl) (list2 : Sl) (h3 : Heap) (Q : Bool → Heap → Prop) : Prop :=
    (0 ≤ (w64 ((l1.len : Int) + 1)) ∧ (w64 ((l1.len : Int) + 1)) ≤ (l1.cap : Int)) ∧
    c_law22_same l1 list2 h3 fun r4 h5 =>
    ((r4 = true →
    (0 ≤ (l1.len : Int) ∧ (l1.len : Int) < ((l1.cut 0 (((w64 ((l1.len : Int) + 1)) : Int).toNat) 1).len : Int)) ∧
    deref (l1.cut 0 (((w64 ((l1.len : Int) + 1)) : Int).toNat) 1).a fun a6 =>
    ld ((.int .i64) : Kd) h5 (a6.add (((l1.len : Int) : Int).toNat * 1)) fun t7 =>
    Q (decide (t7 = (-77))) h5) ∧
    (r4 = false →
    Q false h5))
def law22_kept.mk : Mk := (.s .d (.s .d (.s .d .d)))

def explore_Run.M (c_explore_ready : Den kapiScene → Sl → Heap → (Int → Heap → Prop) → Prop) (c_explore_play : Den kapiScene → Sl → Heap → (Den kapiEnding → Heap → Prop) → Prop) (s1 : Den kapiScene) (picks2 : Sl) (h3 : Heap) (Q : (Den kapiEnding × (Int × Unit)) → Heap → Prop) : Prop :=
    c_explore_ready (s1.1, (s1.2.1, (s1.2.2.1, ()))) picks2 h3 fun r4 h5 =>
    (((decide (r4 ≠ 0)) = true →
    Q ((Sl.none, (Sl.none, ())), r4, ()) h5) ∧
    ((decide (r4 ≠ 0)) = false →
    c_explore_play (s1.1, (s1.2.1, (s1.2.2.1, ()))) picks2 h5 fun r6 h7 =>
    Q ((r6.1, (r6.2.1, ())), 0, ()) h7))
def explore_Run.mk : Mk := (.s (.r [0, 1]) (.s (.s .d (.s .d (.c (.s .d .d) .d))) (.s .d .d)))

def law22_cellsApart.l1 (l1 : Sl) (go5 : (Int × Unit) → Heap → Prop) (s3 : (Int × Unit)) (go8 : (Int × Unit) → Heap → Prop) (s6 : (Int × Unit)) (h7 : Heap) : Prop :=
    (0 ≤ s3.1 ∧ s3.1 < (l1.len : Int)) ∧
    deref l1.a fun a9 =>
    ld (.sl : Kd) h7 (a9.add ((s3.1 : Int).toNat * 1)) fun t10 =>
    (((decide (s6.1 < (t10.len : Int))) = true →
    (0 ≤ s3.1 ∧ s3.1 < (l1.len : Int)) ∧
    deref l1.a fun a11 =>
    ld (.sl : Kd) h7 (a11.add ((s3.1 : Int).toNat * 1)) fun t12 =>
    (0 ≤ s6.1 ∧ s6.1 < (t12.len : Int)) ∧
    deref t12.a fun a13 =>
    st ((.int .i64) : Kd) h7 (a13.add ((s6.1 : Int).toNat * 1)) (w64 ((w64 (100 * s3.1)) + s6.1)) fun h14 =>
    go8 ((w64 (s6.1 + 1)), ()) h14) ∧
    ((decide (s6.1 < (t10.len : Int))) = false →
    go5 ((w64 (s3.1 + 1)), ()) h7))
def law22_cellsApart.l2 (go17 : (Sl × (Int × Unit)) → Heap → Prop) (s15 : (Sl × (Int × Unit))) (go22 : (Sl × (Int × Unit)) → Heap → Prop) (s20 : (Sl × (Int × Unit))) (h21 : Heap) : Prop :=
    (((decide (s20.2.1 < 64)) = true →
    new h21 (([(w64 ((-7) - s15.2.1))] : List (Den ((.int .i64) : Kd))).flatMap (Kd.cells ((.int .i64) : Kd))) fun p23 h24 =>
    appendM 1 8 h24 s20.1 ⟨some p23, 1, 1⟩ fun t25 h26 =>
    go22 (t25, (w64 (s20.2.1 + 1)), ()) h26) ∧
    ((decide (s20.2.1 < 64)) = false →
    new h21 (([s20.1] : List (Den (.sl : Kd))).flatMap (Kd.cells (.sl : Kd))) fun p27 h28 =>
    appendM 1 24 h28 s15.1 ⟨some p27, 1, 1⟩ fun t29 h30 =>
    go17 (t29, (w64 (s15.2.1 + 1)), ()) h30))
def law22_cellsApart.l3 (Q : Bool → Heap → Prop) (s15 : (Sl × (Int × Unit))) (go33 : (Int × Unit) → Heap → Prop) (s31 : (Int × Unit)) (go47 : (Int × Unit) → Heap → Prop) (s45 : (Int × Unit)) (h46 : Heap) : Prop :=
    (0 ≤ s31.1 ∧ s31.1 < (s15.1.len : Int)) ∧
    deref s15.1.a fun a48 =>
    ld (.sl : Kd) h46 (a48.add ((s31.1 : Int).toNat * 1)) fun t49 =>
    (((decide (s45.1 < (t49.len : Int))) = true →
    (0 ≤ s31.1 ∧ s31.1 < (s15.1.len : Int)) ∧
    deref s15.1.a fun a50 =>
    ld (.sl : Kd) h46 (a50.add ((s31.1 : Int).toNat * 1)) fun t51 =>
    (0 ≤ s45.1 ∧ s45.1 < (t51.len : Int)) ∧
    deref t51.a fun a52 =>
    ld ((.int .i64) : Kd) h46 (a52.add ((s45.1 : Int).toNat * 1)) fun t53 =>
    (((decide (t53 ≠ (w64 ((-7) - s31.1)))) = true →
    Q false h46) ∧
    ((decide (t53 ≠ (w64 ((-7) - s31.1)))) = false →
    go47 ((w64 (s45.1 + 1)), ()) h46))) ∧
    ((decide (s45.1 < (t49.len : Int))) = false →
    go33 ((w64 (s31.1 + 1)), ()) h46))
def law22_cellsApart.l4 (l1 : Sl) (Q : Bool → Heap → Prop) (s15 : (Sl × (Int × Unit))) (go33 : (Int × Unit) → Heap → Prop) (s31 : (Int × Unit)) (go36 : (Int × Unit) → Heap → Prop) (s34 : (Int × Unit)) (h35 : Heap) : Prop :=
    (0 ≤ s31.1 ∧ s31.1 < (l1.len : Int)) ∧
    deref l1.a fun a37 =>
    ld (.sl : Kd) h35 (a37.add ((s31.1 : Int).toNat * 1)) fun t38 =>
    (((decide (s34.1 < (t38.len : Int))) = true →
    (0 ≤ s31.1 ∧ s31.1 < (l1.len : Int)) ∧
    deref l1.a fun a39 =>
    ld (.sl : Kd) h35 (a39.add ((s31.1 : Int).toNat * 1)) fun t40 =>
    (0 ≤ s34.1 ∧ s34.1 < (t40.len : Int)) ∧
    deref t40.a fun a41 =>
    ld ((.int .i64) : Kd) h35 (a41.add ((s34.1 : Int).toNat * 1)) fun t42 =>
    (((decide (t42 ≠ (w64 ((w64 (100 * s31.1)) + s34.1)))) = true →
    Q false h35) ∧
    ((decide (t42 ≠ (w64 ((w64 (100 * s31.1)) + s34.1)))) = false →
    go36 ((w64 (s34.1 + 1)), ()) h35))) ∧
    ((decide (s34.1 < (t38.len : Int))) = false →
    (0 ≤ s31.1 ∧ s31.1 < (l1.len : Int)) ∧
    deref l1.a fun a43 =>
    ld (.sl : Kd) h35 (a43.add ((s31.1 : Int).toNat * 1)) fun t44 =>
    Loop (law22_cellsApart.l3 Q s15 go33 s31) ((t44.len : Int), ()) h35))
def law22_cellsApart.l5 (l1 : Sl) (Q : Bool → Heap → Prop) (s15 : (Sl × (Int × Unit))) (go33 : (Int × Unit) → Heap → Prop) (s31 : (Int × Unit)) (h32 : Heap) : Prop :=
    (((decide (s31.1 < (l1.len : Int))) = true →
    Loop (law22_cellsApart.l4 l1 Q s15 go33 s31) (0, ()) h32) ∧
    ((decide (s31.1 < (l1.len : Int))) = false →
    Q true h32))
def law22_cellsApart.l6 (l1 : Sl) (Q : Bool → Heap → Prop) (go17 : (Sl × (Int × Unit)) → Heap → Prop) (s15 : (Sl × (Int × Unit))) (h16 : Heap) : Prop :=
    (((decide (s15.2.1 < (l1.len : Int))) = true →
    (0 ≤ s15.2.1 ∧ s15.2.1 < (l1.len : Int)) ∧
    deref l1.a fun a18 =>
    ld (.sl : Kd) h16 (a18.add ((s15.2.1 : Int).toNat * 1)) fun t19 =>
    Loop (law22_cellsApart.l2 go17 s15) (t19, 0, ()) h16) ∧
    ((decide (s15.2.1 < (l1.len : Int))) = false →
    Loop (law22_cellsApart.l5 l1 Q s15) (0, ()) h16))
def law22_cellsApart.l7 (l1 : Sl) (Q : Bool → Heap → Prop) (go5 : (Int × Unit) → Heap → Prop) (s3 : (Int × Unit)) (h4 : Heap) : Prop :=
    (((decide (s3.1 < (l1.len : Int))) = true →
    Loop (law22_cellsApart.l1 l1 go5 s3) (0, ()) h4) ∧
    ((decide (s3.1 < (l1.len : Int))) = false →
    Loop (law22_cellsApart.l6 l1 Q) (⟨none, 0, 0⟩, 0, ()) h4))
def law22_cellsApart.M  (l1 : Sl) (h2 : Heap) (Q : Bool → Heap → Prop) : Prop :=
    Loop (law22_cellsApart.l7 l1 Q) (0, ()) h2
def law22_cellsApart.mk : Mk := (.s .d (.s (.s .d (.b (.l [.slot 3 (.int .i64)] (.s (.s .d (.c .d .d)) (.s (.b (.s .d (.b (.l [.slot 4 (.int .i64)] (.s (.s .d (.c .d .d)) (.s (.b .d) .d)))))) .d))))) (.s .d (.s (.s .d (.b (.l [.slot 5 .sl, .slot 6 (.int .i64)] (.s (.s .d (.c .d .d)) (.s (.b (.s .d (.s (.s .d (.b (.l [.slot 7 .sl, .slot 8 (.int .i64)] (.s (.s .d (.c .d .d)) (.s (.b .d) .d))))) .d))) .d))))) (.s (.s .d (.b (.l [.slot 9 (.int .i64)] (.s (.s .d (.c .d .d)) (.s (.b (.s (.s .d (.b (.l [.slot 10 (.int .i64)] (.s (.s .d (.c .d .d)) (.s (.b (.s .d (.c (.s .d .d) .d))) .d))))) (.s .d (.b (.l [.slot 11 (.int .i64)] (.s (.s .d (.c .d .d)) (.s (.b (.s .d (.c (.s .d .d) .d))) .d))))))) .d))))) (.s .d .d))))))

def explore_Finals.M (c_explore_Check : Den kapiScene → Heap → (Int → Heap → Prop) → Prop) (c_explore_traces : Den kapiScene → Heap → (Value → Heap → Prop) → Prop) (c_explore_play : Den kapiScene → Sl → Heap → (Den kapiEnding → Heap → Prop) → Prop) (c_slices_BinarySearchFunc_int64_int64_int64 : Sl → Sl → Value → Heap → ((Int × (Bool × Unit)) → Heap → Prop) → Prop) (c_slices_Insert_int64_int64 : Sl → Int → Sl → Heap → (Sl → Heap → Prop) → Prop) (c_yield : Value → Sl → Heap → (Bool → Heap → Prop) → Prop) (c_rf : Value → Value → Heap → (Unit → Heap → Prop) → Prop) (s1 : Den kapiScene) (h2 : Heap) (Q : (Sl × (Int × Unit)) → Heap → Prop) : Prop :=
    new h2 (kapiScene.cells s1) fun p3 h4 =>
    ld kapiScene h4 p3 fun t5 =>
    c_explore_Check t5 h4 fun r6 h7 =>
    (((decide (r6 ≠ 0)) = true →
    Q (⟨none, 0, 0⟩, r6, ()) h7) ∧
    ((decide (r6 ≠ 0)) = false →
    new h7 ((.sl : Kd).cells ((.sl : Kd).zero)) fun p8 h9 =>
    ld kapiScene h9 p3 fun t10 =>
    c_explore_traces t10 h9 fun r11 h12 =>
    ∀ (l13 : Nat) (d14 : Nat) (L15 : Bool → Obj), h12 l13 = none → h12 d14 = none → l13 ≠ d14 →
    (∀ (y16 : Sl) (h17 : Heap) (K18 : Bool → Heap → Prop), h17 l13 = some (HObj.raw (L15 false)) →
    (h17 l13 = some (HObj.raw (L15 false)) ∧
    ld kapiScene (upd h17 l13 (HObj.raw (L15 true))) p3 fun t19 =>
    c_explore_play t19 y16 (upd h17 l13 (HObj.raw (L15 true))) fun r20 h21 =>
    ld (.sl : Kd) h21 p8 fun t22 =>
    c_slices_BinarySearchFunc_int64_int64_int64 t22 r20.2.1 (Value.func (.func 55) #[] #[]) h21 fun r23 h24 =>
    (((!r23.2.1) = true →
    ld (.sl : Kd) h24 p8 fun t25 =>
    new h24 (([r20.2.1] : List (Den (.sl : Kd))).flatMap (Kd.cells (.sl : Kd))) fun p26 h27 =>
    c_slices_Insert_int64_int64 t25 r23.1 ⟨some p26, 1, 1⟩ h27 fun r28 h29 =>
    st (.sl : Kd) h29 p8 r28 fun h30 =>
    h30 l13 = some (HObj.raw (L15 true)) ∧
    K18 true (upd h30 l13 (HObj.raw (L15 false)))) ∧
    ((!r23.2.1) = false →
    h24 l13 = some (HObj.raw (L15 true)) ∧
    K18 true (upd h24 l13 (HObj.raw (L15 false)))))) →
    c_yield (Value.func (.yield l13) #[] #[]) y16 h17 K18) →
    c_rf r11 (Value.func (.yield l13) #[] #[]) (upd (upd h12 d14 (HObj.raw (Obj.deferred (some [])))) l13 (HObj.raw (L15 false))) fun _ h31 =>
    h31 l13 = some (HObj.raw (L15 false)) ∧ h31 d14 = some (HObj.raw (Obj.deferred (some []))) ∧
    ld (.sl : Kd) (drop2 h31 l13 d14) p8 fun t32 =>
    Q (t32, 0, ()) (drop2 h31 l13 d14)))
def explore_Finals.mk : Mk := (.s .d (.s (.s .d (.s .d (.c (.s .d .d) .d))) (.s .d (.f .sl .d .d (.b (.s .d (.s .d (.s .d (.c .d .d))))) .d))))

def ref22_Finals.l1 (c_ref22_play : Den kapiScene → Sl → Heap → (Den kapiEnding → Heap → Prop) → Prop) (c_ref22_put : Sl → Sl → Heap → (Sl → Heap → Prop) → Prop) (s1 : Den kapiScene) (Q : (Sl × (Int × Unit)) → Heap → Prop) (r5 : Sl) (go9 : (Sl × (Int × Unit)) → Heap → Prop) (s7 : (Sl × (Int × Unit))) (h8 : Heap) : Prop :=
    (((decide (s7.2.1 < (r5.len : Int))) = true →
    (0 ≤ s7.2.1 ∧ s7.2.1 < (r5.len : Int)) ∧
    deref r5.a fun a10 =>
    ld (.sl : Kd) h8 (a10.add ((s7.2.1 : Int).toNat * 1)) fun t11 =>
    c_ref22_play (s1.1, (s1.2.1, (s1.2.2.1, ()))) t11 h8 fun r12 h13 =>
    c_ref22_put s7.1 r12.2.1 h13 fun r14 h15 =>
    go9 (r14, (w64 (s7.2.1 + 1)), ()) h15) ∧
    ((decide (s7.2.1 < (r5.len : Int))) = false →
    Q (s7.1, 0, ()) h8))
def ref22_Finals.M (c_ref22_Check : Den kapiScene → Heap → (Int → Heap → Prop) → Prop) (c_ref22_Scripts : Den kapiScene → Heap → (Sl → Heap → Prop) → Prop) (c_ref22_play : Den kapiScene → Sl → Heap → (Den kapiEnding → Heap → Prop) → Prop) (c_ref22_put : Sl → Sl → Heap → (Sl → Heap → Prop) → Prop) (s1 : Den kapiScene) (h2 : Heap) (Q : (Sl × (Int × Unit)) → Heap → Prop) : Prop :=
    c_ref22_Check (s1.1, (s1.2.1, (s1.2.2.1, ()))) h2 fun r3 h4 =>
    (((decide (r3 ≠ 0)) = true →
    Q (⟨none, 0, 0⟩, r3, ()) h4) ∧
    ((decide (r3 ≠ 0)) = false →
    c_ref22_Scripts (s1.1, (s1.2.1, (s1.2.2.1, ()))) h4 fun r5 h6 =>
    Loop (ref22_Finals.l1 c_ref22_play c_ref22_put s1 Q r5) (⟨none, 0, 0⟩, 0, ()) h6))
def ref22_Finals.mk : Mk := (.s (.r [0]) (.s .d (.s (.s .d (.c (.s .d .d) .d)) (.s .d (.s .d (.s (.s .d (.b (.l [.slot 6 .sl, .slot 7 (.int .i64)] (.s (.s .d (.c .d .d)) (.s (.b (.s (.q [6] [8] [.p 1, .p 2, .p 3, .w 0 [0, 5, 7], .w 4 [4, 5, 7], .o 5, .a 6, .o 7]) .d)) .d))))) (.s .d .d)))))))

def law22_sameCells.l1 (a1 : Sl) (b2 : Sl) (Q : Bool → Heap → Prop) (go6 : (Int × Unit) → Heap → Prop) (s4 : (Int × Unit)) (h5 : Heap) : Prop :=
    (((decide (s4.1 < (a1.len : Int))) = true →
    (0 ≤ s4.1 ∧ s4.1 < (a1.len : Int)) ∧
    deref a1.a fun a7 =>
    (0 ≤ s4.1 ∧ s4.1 < (b2.len : Int)) ∧
    deref b2.a fun a8 =>
    ld ((.int .i64) : Kd) h5 (a7.add ((s4.1 : Int).toNat * 1)) fun t9 =>
    ld ((.int .i64) : Kd) h5 (a8.add ((s4.1 : Int).toNat * 1)) fun t10 =>
    (((decide (t9 ≠ t10)) = true →
    Q false h5) ∧
    ((decide (t9 ≠ t10)) = false →
    go6 ((w64 (s4.1 + 1)), ()) h5))) ∧
    ((decide (s4.1 < (a1.len : Int))) = false →
    Q true h5))
def law22_sameCells.M  (a1 : Sl) (b2 : Sl) (h3 : Heap) (Q : Bool → Heap → Prop) : Prop :=
    (((decide ((a1.len : Int) ≠ (b2.len : Int))) = true →
    Q false h3) ∧
    ((decide ((a1.len : Int) ≠ (b2.len : Int))) = false →
    Loop (law22_sameCells.l1 a1 b2 Q) (0, ()) h3))
def law22_sameCells.mk : Mk := (.s .d (.s (.s .d (.c (.s .d .d) .d)) (.s (.s .d (.b (.l [.slot 5 (.int .i64)] (.s (.s .d (.c .d .d)) (.s (.b (.s (.q [] [] [.p 0, .p 1, .p 2, .p 4, .p 5, .p 6, .w 3 [3, 8], .w 7 [7, 8], .p 8]) (.c (.s .d .d) .d))) .d))))) (.s .d .d))))

def explore_gives.M  (x1 : Den kapiAct) (h2 : Heap) (Q : Bool → Heap → Prop) : Prop :=
    (((decide (x1.2.1 = 4)) = true →
    Q (decide ((1 : Int) ≤ x1.2.2.2.1)) h2) ∧
    ((decide (x1.2.1 = 4)) = false →
    Q false h2))
def explore_gives.mk : Mk := (.s (.r [0]) (.s .d .d))

def explore_touches.M  (s1 : Den kapiScene) (x2 : Den kapiAct) (h3 : Heap) (Q : Bool → Heap → Prop) : Prop :=
    (((decide ((0 : Int) ≤ x2.2.1)) = true →
    (((decide (x2.2.1 ≤ 3)) = true →
    (((decide ((0 : Int) ≤ x2.2.2.1)) = true →
    Q (decide (x2.2.2.1 < s1.1)) h3) ∧
    ((decide ((0 : Int) ≤ x2.2.2.1)) = false →
    Q false h3))) ∧
    ((decide (x2.2.1 ≤ 3)) = false →
    Q false h3))) ∧
    ((decide ((0 : Int) ≤ x2.2.1)) = false →
    Q false h3))
def explore_touches.mk : Mk := (.s (.r [0, 1]) (.s .d .d))

def ref22_cell.j1 (x2 : Den kapiAct) (Q : Int → Heap → Prop) (s4 : Unit) (h5 : Heap) : Prop :=
    Q x2.2.2.1 h5
def ref22_cell.j2 (x2 : Den kapiAct) (Q : Int → Heap → Prop) (s6 : (Bool × Unit)) (h7 : Heap) : Prop :=
    ((s6.1 = true →
    Q (-1) h7) ∧
    (s6.1 = false →
    ref22_cell.j1 x2 Q () h7))
def ref22_cell.M  (s1 : Den kapiScene) (x2 : Den kapiAct) (h3 : Heap) (Q : Int → Heap → Prop) : Prop :=
    (((decide (x2.2.1 < 0)) = true →
    ref22_cell.j2 x2 Q (true, ()) h3) ∧
    ((decide (x2.2.1 < 0)) = false →
    (((decide ((3 : Int) < x2.2.1)) = true →
    ref22_cell.j2 x2 Q (true, ()) h3) ∧
    ((decide ((3 : Int) < x2.2.1)) = false →
    (((decide (x2.2.2.1 < 0)) = true →
    ref22_cell.j2 x2 Q (true, ()) h3) ∧
    ((decide (x2.2.2.1 < 0)) = false →
    ref22_cell.j2 x2 Q ((decide (s1.1 ≤ x2.2.2.1)), ()) h3))))))
def ref22_cell.mk : Mk := (.s (.r [0, 1]) (.j [] (.j [.slot 24 .bool] .d (.c (.s .d .d) .d)) (.s .d .d)))

def ref22_makes.M  (x1 : Den kapiAct) (h2 : Heap) (Q : Bool → Heap → Prop) : Prop :=
    (((decide (x1.2.1 = 4)) = true →
    Q (decide ((1 : Int) ≤ x1.2.2.2.1)) h2) ∧
    ((decide (x1.2.1 = 4)) = false →
    Q false h2))
def ref22_makes.mk : Mk := (.s (.r [0]) (.s .d .d))

def law22_marked.l1 (c1 : Den kapiScene) (Q : Bool → Heap → Prop) (go5 : (Int × Unit) → Heap → Prop) (s3 : (Int × Unit)) (h4 : Heap) : Prop :=
    (((decide (s3.1 < (c1.2.2.1.len : Int))) = true →
    (0 ≤ s3.1 ∧ s3.1 < (c1.2.2.1.len : Int)) ∧
    deref c1.2.2.1.a fun a6 =>
    ld (.sl : Kd) h4 (a6.add ((s3.1 : Int).toNat * 1)) fun t7 =>
    (0 ≤ s3.1 ∧ s3.1 < (c1.2.2.1.len : Int)) ∧
    deref c1.2.2.1.a fun a8 =>
    ld (.sl : Kd) h4 (a8.add ((s3.1 : Int).toNat * 1)) fun t9 =>
    (0 ≤ (w64 ((t7.len : Int) + 1)) ∧ (w64 ((t7.len : Int) + 1)) ≤ (t9.cap : Int)) ∧
    (0 ≤ (t7.len : Int) ∧ (t7.len : Int) < ((t9.cut 0 (((w64 ((t7.len : Int) + 1)) : Int).toNat) 5).len : Int)) ∧
    deref (t9.cut 0 (((w64 ((t7.len : Int) + 1)) : Int).toNat) 5).a fun a10 =>
    ld ((.int .i64) : Kd) h4 ((a10.add (((t7.len : Int) : Int).toNat * 5)).add 1) fun t11 =>
    (((decide (t11 ≠ (-77))) = true →
    Q false h4) ∧
    ((decide (t11 ≠ (-77))) = false →
    go5 ((w64 (s3.1 + 1)), ()) h4))) ∧
    ((decide (s3.1 < (c1.2.2.1.len : Int))) = false →
    (0 ≤ (w64 ((c1.2.1.len : Int) + 1)) ∧ (w64 ((c1.2.1.len : Int) + 1)) ≤ (c1.2.1.cap : Int)) ∧
    (0 ≤ (w64 ((c1.2.2.1.len : Int) + 1)) ∧ (w64 ((c1.2.2.1.len : Int) + 1)) ≤ (c1.2.2.1.cap : Int)) ∧
    (0 ≤ (c1.2.2.1.len : Int) ∧ (c1.2.2.1.len : Int) < ((c1.2.2.1.cut 0 (((w64 ((c1.2.2.1.len : Int) + 1)) : Int).toNat) 1).len : Int)) ∧
    deref (c1.2.2.1.cut 0 (((w64 ((c1.2.2.1.len : Int) + 1)) : Int).toNat) 1).a fun a12 =>
    ld (.sl : Kd) h4 (a12.add (((c1.2.2.1.len : Int) : Int).toNat * 1)) fun t13 =>
    (0 ≤ (c1.2.1.len : Int) ∧ (c1.2.1.len : Int) < ((c1.2.1.cut 0 (((w64 ((c1.2.1.len : Int) + 1)) : Int).toNat) 1).len : Int)) ∧
    deref (c1.2.1.cut 0 (((w64 ((c1.2.1.len : Int) + 1)) : Int).toNat) 1).a fun a14 =>
    ld ((.int .i64) : Kd) h4 (a14.add (((c1.2.1.len : Int) : Int).toNat * 1)) fun t15 =>
    (((decide (t15 = (-77))) = true →
    (((decide ((t13.len : Int) = 1)) = true →
    (0 ≤ (0 : Int) ∧ (0 : Int) < (t13.len : Int)) ∧
    deref t13.a fun a16 =>
    ld ((.int .i64) : Kd) h4 ((a16.add (((0 : Int) : Int).toNat * 5)).add 1) fun t17 =>
    Q (decide (t17 = (-77))) h4) ∧
    ((decide ((t13.len : Int) = 1)) = false →
    Q false h4))) ∧
    ((decide (t15 = (-77))) = false →
    Q false h4))))
def law22_marked.M  (c1 : Den kapiScene) (h2 : Heap) (Q : Bool → Heap → Prop) : Prop :=
    Loop (law22_marked.l1 c1 Q) (0, ()) h2
def law22_marked.mk : Mk := (.s (.r [0]) (.s (.s .d (.b (.l [.slot 3 (.int .i64)] (.s (.s .d (.c .d .d)) (.s (.b (.s .d (.s .d (.s .d (.c (.s .d .d) .d))))) .d))))) (.s .d (.s .d (.s .d (.s .d .d))))))

def ref22_acts.l1 (s1 : Den kapiScene) (Q : Int → Heap → Prop) (go5 : Den kcellsledger → Heap → Prop) (s3 : Den kcellsledger) (h4 : Heap) : Prop :=
    (((decide (s3.2.1 < (s1.2.2.1.len : Int))) = true →
    (0 ≤ s3.2.1 ∧ s3.2.1 < (s1.2.2.1.len : Int)) ∧
    deref s1.2.2.1.a fun a6 =>
    ld (.sl : Kd) h4 (a6.add ((s3.2.1 : Int).toNat * 1)) fun t7 =>
    go5 ((w64 (s3.1 + (t7.len : Int))), (w64 (s3.2.1 + 1)), ()) h4) ∧
    ((decide (s3.2.1 < (s1.2.2.1.len : Int))) = false →
    Q s3.1 h4))
def ref22_acts.M  (s1 : Den kapiScene) (h2 : Heap) (Q : Int → Heap → Prop) : Prop :=
    Loop (ref22_acts.l1 s1 Q) (0, 0, ()) h2
def ref22_acts.mk : Mk := (.s (.r [0]) (.s .d (.s (.s .d (.b (.l [.slot 3 (.int .i64), .slot 4 (.int .i64)] (.s (.s .d (.c .d .d)) (.s (.b .d) .d))))) (.s .d .d))))

def explore_traces.M  (s1 : Den kapiScene) (h2 : Heap) (Q : Value → Heap → Prop) : Prop :=
    new h2 (kapiScene.cells s1) fun p3 h4 =>
    Q (Value.func (.func 58) (List.toArray []) (List.toArray [Kd.val (.ptr : Kd) (some p3)])) h4
def explore_traces.mk : Mk := (.s .d (.s .d .d))

def law22_longer.l1 (mark2 : Int) (Q : Sl → Heap → Prop) (go6 : (Sl × (Int × Unit)) → Heap → Prop) (s4 : (Sl × (Int × Unit))) (h5 : Heap) : Prop :=
    (((decide (s4.2.1 < 64)) = true →
    new h5 (([mark2] : List (Den ((.int .i64) : Kd))).flatMap (Kd.cells ((.int .i64) : Kd))) fun p7 h8 =>
    appendM 1 8 h8 s4.1 ⟨some p7, 1, 1⟩ fun t9 h10 =>
    go6 (t9, (w64 (s4.2.1 + 1)), ()) h10) ∧
    ((decide (s4.2.1 < 64)) = false →
    Q s4.1 h5))
def law22_longer.M  (l1 : Sl) (mark2 : Int) (h3 : Heap) (Q : Sl → Heap → Prop) : Prop :=
    Loop (law22_longer.l1 mark2 Q) (l1, 0, ()) h3
def law22_longer.mk : Mk := (.s .d (.s (.s .d (.b (.l [.slot 0 .sl, .slot 5 (.int .i64)] (.s (.s .d (.c .d .d)) (.s (.b .d) .d))))) (.s .d .d)))

def ref22_Scripts.M (c_ref22_more : Den kapiScene → Sl → Sl → Heap → (Sl → Heap → Prop) → Prop) (s1 : Den kapiScene) (h2 : Heap) (Q : Sl → Heap → Prop) : Prop :=
    c_ref22_more (s1.1, (s1.2.1, (s1.2.2.1, ()))) ⟨none, 0, 0⟩ ⟨none, 0, 0⟩ h2 fun r3 h4 =>
    Q r3 h4
def ref22_Scripts.mk : Mk := (.s (.r [0]) (.s .d (.s .d .d)))

def ref22_least.l1 (c_ref22_first : Den kapiScene → Sl → Int → Heap → (Int → Heap → Prop) → Prop) (c_ref22_without : Sl → Int → Heap → (Sl → Heap → Prop) → Prop) (s1 : Den kapiScene) (go8 : Den kapiEnding → Heap → Prop) (s6 : Den kapiEnding) (go13 : Den kcellsledger → Heap → Prop) (s11 : Den kcellsledger) (h12 : Heap) : Prop :=
    (((decide (s11.2.1 < 0)) = true →
    c_ref22_first (s1.1, (s1.2.1, (s1.2.2.1, ()))) s6.1 (w64 (s11.1 + 1)) h12 fun r14 h15 =>
    go13 ((w64 (s11.1 + 1)), r14, ()) h15) ∧
    ((decide (s11.2.1 < 0)) = false →
    new h12 (([s11.1] : List (Den ((.int .i64) : Kd))).flatMap (Kd.cells ((.int .i64) : Kd))) fun p16 h17 =>
    appendM 1 8 h17 s6.2.1 ⟨some p16, 1, 1⟩ fun t18 h19 =>
    c_ref22_without s6.1 s11.2.1 h19 fun r20 h21 =>
    go8 (r20, t18, ()) h21))
def ref22_least.l2 (c_ref22_first : Den kapiScene → Sl → Int → Heap → (Int → Heap → Prop) → Prop) (c_ref22_without : Sl → Int → Heap → (Sl → Heap → Prop) → Prop) (s1 : Den kapiScene) (Q : Sl → Heap → Prop) (go8 : Den kapiEnding → Heap → Prop) (s6 : Den kapiEnding) (h7 : Heap) : Prop :=
    (((decide ((0 : Int) < (s6.1.len : Int))) = true →
    c_ref22_first (s1.1, (s1.2.1, (s1.2.2.1, ()))) s6.1 0 h7 fun r9 h10 =>
    Loop (ref22_least.l1 c_ref22_first c_ref22_without s1 go8 s6) (0, r9, ()) h10) ∧
    ((decide ((0 : Int) < (s6.1.len : Int))) = false →
    Q s6.2.1 h7))
def ref22_least.M (c_ref22_Row : Den kapiScene → Sl → Heap → (Sl → Heap → Prop) → Prop) (c_ref22_first : Den kapiScene → Sl → Int → Heap → (Int → Heap → Prop) → Prop) (c_ref22_without : Sl → Int → Heap → (Sl → Heap → Prop) → Prop) (s1 : Den kapiScene) (picks2 : Sl) (h3 : Heap) (Q : Sl → Heap → Prop) : Prop :=
    c_ref22_Row (s1.1, (s1.2.1, (s1.2.2.1, ()))) picks2 h3 fun r4 h5 =>
    Loop (ref22_least.l2 c_ref22_first c_ref22_without s1 Q) (r4, ⟨none, 0, 0⟩, ()) h5
def ref22_least.mk : Mk := (.s (.r [0]) (.s .d (.s .d (.s (.b (.l [.slot 5 .sl, .slot 6 .sl] (.s (.s .d (.c .d .d)) (.b (.s .d (.s .d (.s (.b (.l [.slot 7 (.int .i64), .slot 8 (.int .i64)] (.s (.s .d (.c .d .d)) (.b (.s .d .d))))) (.s .d .d)))))))) (.s .d .d)))))

def ref22_equal.l1 (a1 : Sl) (b2 : Sl) (Q : Bool → Heap → Prop) (go6 : (Int × Unit) → Heap → Prop) (s4 : (Int × Unit)) (h5 : Heap) : Prop :=
    (((decide (s4.1 < (a1.len : Int))) = true →
    (0 ≤ s4.1 ∧ s4.1 < (a1.len : Int)) ∧
    deref a1.a fun a7 =>
    (0 ≤ s4.1 ∧ s4.1 < (b2.len : Int)) ∧
    deref b2.a fun a8 =>
    ld ((.int .i64) : Kd) h5 (a7.add ((s4.1 : Int).toNat * 1)) fun t9 =>
    ld ((.int .i64) : Kd) h5 (a8.add ((s4.1 : Int).toNat * 1)) fun t10 =>
    (((decide (t9 ≠ t10)) = true →
    Q false h5) ∧
    ((decide (t9 ≠ t10)) = false →
    go6 ((w64 (s4.1 + 1)), ()) h5))) ∧
    ((decide (s4.1 < (a1.len : Int))) = false →
    Q true h5))
def ref22_equal.M  (a1 : Sl) (b2 : Sl) (h3 : Heap) (Q : Bool → Heap → Prop) : Prop :=
    (((decide ((a1.len : Int) ≠ (b2.len : Int))) = true →
    Q false h3) ∧
    ((decide ((a1.len : Int) ≠ (b2.len : Int))) = false →
    Loop (ref22_equal.l1 a1 b2 Q) (0, ()) h3))
def ref22_equal.mk : Mk := (.s .d (.s (.s .d (.c (.s .d .d) .d)) (.s (.s .d (.b (.l [.slot 5 (.int .i64)] (.s (.s .d (.c .d .d)) (.s (.b (.s (.q [] [] [.p 0, .p 1, .p 2, .p 4, .p 5, .p 6, .w 3 [3, 8], .w 7 [7, 8], .p 8]) (.c (.s .d .d) .d))) .d))))) (.s .d .d))))

def law22_same.l1 (a1 : Sl) (b2 : Sl) (Q : Bool → Heap → Prop) (go6 : (Int × Unit) → Heap → Prop) (s4 : (Int × Unit)) (h5 : Heap) : Prop :=
    (((decide (s4.1 < (a1.len : Int))) = true →
    (0 ≤ s4.1 ∧ s4.1 < (a1.len : Int)) ∧
    deref a1.a fun a7 =>
    (0 ≤ s4.1 ∧ s4.1 < (b2.len : Int)) ∧
    deref b2.a fun a8 =>
    ld ((.int .i64) : Kd) h5 (a7.add ((s4.1 : Int).toNat * 1)) fun t9 =>
    ld ((.int .i64) : Kd) h5 (a8.add ((s4.1 : Int).toNat * 1)) fun t10 =>
    (((decide (t9 ≠ t10)) = true →
    Q false h5) ∧
    ((decide (t9 ≠ t10)) = false →
    go6 ((w64 (s4.1 + 1)), ()) h5))) ∧
    ((decide (s4.1 < (a1.len : Int))) = false →
    Q true h5))
def law22_same.M  (a1 : Sl) (b2 : Sl) (h3 : Heap) (Q : Bool → Heap → Prop) : Prop :=
    (((decide ((a1.len : Int) ≠ (b2.len : Int))) = true →
    Q false h3) ∧
    ((decide ((a1.len : Int) ≠ (b2.len : Int))) = false →
    Loop (law22_same.l1 a1 b2 Q) (0, ()) h3))
def law22_same.mk : Mk := (.s .d (.s (.s .d (.c (.s .d .d) .d)) (.s (.s .d (.b (.l [.slot 5 (.int .i64)] (.s (.s .d (.c .d .d)) (.s (.b (.s (.q [] [] [.p 0, .p 1, .p 2, .p 4, .p 5, .p 6, .w 3 [3, 8], .w 7 [7, 8], .p 8]) (.c (.s .d .d) .d))) .d))))) (.s .d .d))))

def explore_ready.M (c_explore_Check : Den kapiScene → Heap → (Int → Heap → Prop) → Prop) (c_explore_isScript : Den kapiScene → Sl → Heap → (Bool → Heap → Prop) → Prop) (s1 : Den kapiScene) (picks2 : Sl) (h3 : Heap) (Q : Int → Heap → Prop) : Prop :=
    c_explore_Check (s1.1, (s1.2.1, (s1.2.2.1, ()))) h3 fun r4 h5 =>
    (((decide (r4 ≠ 0)) = true →
    Q r4 h5) ∧
    ((decide (r4 ≠ 0)) = false →
    c_explore_isScript (s1.1, (s1.2.1, (s1.2.2.1, ()))) picks2 h5 fun r6 h7 =>
    (((!r6) = true →
    Q 220 h7) ∧
    ((!r6) = false →
    Q 0 h7))))
def explore_ready.mk : Mk := (.s (.r [0]) (.s (.s .d (.s .d (.c (.s .d .d) .d))) (.s (.s .d (.c (.s .d .d) .d)) (.s .d .d))))

def explore_steps.j1 (go23 : (Int × ((Int × (Int × Den kapiAct)) × Unit)) → Heap → Prop) (s21 : (Int × ((Int × (Int × Den kapiAct)) × Unit))) (s24 : ((Int × (Int × Den kapiAct)) × Unit)) (h25 : Heap) : Prop :=
    go23 ((w64 (s21.1 + 1)), (s24.1.1, (s24.1.2.1, (s24.1.2.2.1, (s24.1.2.2.2.1, (s24.1.2.2.2.2.1, (s24.1.2.2.2.2.2.1, (s24.1.2.2.2.2.2.2.1, ()))))))), ()) h25
def explore_steps.j2 (go23 : (Int × ((Int × (Int × Den kapiAct)) × Unit)) → Heap → Prop) (s21 : (Int × ((Int × (Int × Den kapiAct)) × Unit))) (t27 : Den kexploredone) (s28 : (Bool × Unit)) (h29 : Heap) : Prop :=
    ((s28.1 = true →
    explore_steps.j1 go23 s21 ((s21.2.1.1, ((if s21.2.1.2.1 < (w64 (t27.2.1 + 1)) then (w64 (t27.2.1 + 1)) else s21.2.1.2.1), (s21.2.1.2.2.1, (s21.2.1.2.2.2.1, (s21.2.1.2.2.2.2.1, (s21.2.1.2.2.2.2.2.1, (s21.2.1.2.2.2.2.2.2.1, ()))))))), ()) h29) ∧
    (s28.1 = false →
    explore_steps.j1 go23 s21 ((s21.2.1.1, (s21.2.1.2.1, (s21.2.1.2.2.1, (s21.2.1.2.2.2.1, (s21.2.1.2.2.2.2.1, (s21.2.1.2.2.2.2.2.1, (s21.2.1.2.2.2.2.2.2.1, ()))))))), ()) h29))
def explore_steps.l3 (c_explore_Depends : Den kapiScene → Den kapiAct → Den kapiAct → Heap → (Bool → Heap → Prop) → Prop) (s1 : Den kapiScene) (go8 : (Sl × (Int × Unit)) → Heap → Prop) (s6 : (Sl × (Int × Unit))) (t10 : Int) (go23 : (Int × ((Int × (Int × Den kapiAct)) × Unit)) → Heap → Prop) (s21 : (Int × ((Int × (Int × Den kapiAct)) × Unit))) (h22 : Heap) : Prop :=
    (((decide (s21.1 < (s6.1.len : Int))) = true →
    (0 ≤ s21.1 ∧ s21.1 < (s6.1.len : Int)) ∧
    deref s6.1.a fun a26 =>
    ld kexploredone h22 (a26.add ((s21.1 : Int).toNat * 7)) fun t27 =>
    (((decide (t27.1 = t10)) = true →
    explore_steps.j2 go23 s21 t27 (true, ()) h22) ∧
    ((decide (t27.1 = t10)) = false →
    c_explore_Depends (s1.1, (s1.2.1, (s1.2.2.1, ()))) (t27.2.2.1.1, (t27.2.2.1.2.1, (t27.2.2.1.2.2.1, (t27.2.2.1.2.2.2.1, (t27.2.2.1.2.2.2.2.1, ()))))) (s21.2.1.2.2.1, (s21.2.1.2.2.2.1, (s21.2.1.2.2.2.2.1, (s21.2.1.2.2.2.2.2.1, (s21.2.1.2.2.2.2.2.2.1, ()))))) h22 fun r30 h31 =>
    explore_steps.j2 go23 s21 t27 (r30, ()) h31))) ∧
    ((decide (s21.1 < (s6.1.len : Int))) = false →
    new h22 (([(s21.2.1.1, (s21.2.1.2.1, ((s21.2.1.2.2.1, (s21.2.1.2.2.2.1, (s21.2.1.2.2.2.2.1, (s21.2.1.2.2.2.2.2.1, (s21.2.1.2.2.2.2.2.2.1, ()))))), ())))] : List (Den kexploredone)).flatMap (Kd.cells kexploredone)) fun p32 h33 =>
    appendM 7 56 h33 s6.1 ⟨some p32, 1, 1⟩ fun t34 h35 =>
    go8 (t34, (w64 (s6.2.1 + 1)), ()) h35))
def explore_steps.l4 (c_explore_Depends : Den kapiScene → Den kapiAct → Den kapiAct → Heap → (Bool → Heap → Prop) → Prop) (s1 : Den kapiScene) (picks2 : Sl) (Q : Sl → Heap → Prop) (s4 : Sl) (go8 : (Sl × (Int × Unit)) → Heap → Prop) (s6 : (Sl × (Int × Unit))) (h7 : Heap) : Prop :=
    (((decide (s6.2.1 < (picks2.len : Int))) = true →
    (0 ≤ s6.2.1 ∧ s6.2.1 < (picks2.len : Int)) ∧
    deref picks2.a fun a9 =>
    ld ((.int .i64) : Kd) h7 (a9.add ((s6.2.1 : Int).toNat * 1)) fun t10 =>
    (0 ≤ t10 ∧ t10 < (s4.len : Int)) ∧
    deref s4.a fun a11 =>
    (0 ≤ t10 ∧ t10 < (s1.2.2.1.len : Int)) ∧
    deref s1.2.2.1.a fun a12 =>
    ld (.sl : Kd) h7 (a12.add ((t10 : Int).toNat * 1)) fun t13 =>
    ld ((.int .i64) : Kd) h7 (a11.add ((t10 : Int).toNat * 1)) fun t14 =>
    (0 ≤ t14 ∧ t14 < (t13.len : Int)) ∧
    deref t13.a fun a15 =>
    ld kapiAct h7 (a15.add ((t14 : Int).toNat * 5)) fun t16 =>
    (0 ≤ t10 ∧ t10 < (s4.len : Int)) ∧
    deref s4.a fun a17 =>
    ld ((.int .i64) : Kd) h7 (a17.add ((t10 : Int).toNat * 1)) fun t18 =>
    (0 ≤ t10 ∧ t10 < (s4.len : Int)) ∧
    deref s4.a fun a19 =>
    st ((.int .i64) : Kd) h7 (a19.add ((t10 : Int).toNat * 1)) (w64 (t18 + 1)) fun h20 =>
    Loop (explore_steps.l3 c_explore_Depends s1 go8 s6 t10) (0, (t10, (1, (t16.1, (t16.2.1, (t16.2.2.1, (t16.2.2.2.1, (t16.2.2.2.2.1, ()))))))), ()) h20) ∧
    ((decide (s6.2.1 < (picks2.len : Int))) = false →
    Q s6.1 h7))
def explore_steps.M (c_explore_Depends : Den kapiScene → Den kapiAct → Den kapiAct → Heap → (Bool → Heap → Prop) → Prop) (s1 : Den kapiScene) (picks2 : Sl) (h3 : Heap) (Q : Sl → Heap → Prop) : Prop :=
    makeM ((.int .i64) : Kd) 8 h3 (s1.2.2.1.len : Int) (s1.2.2.1.len : Int) fun s4 h5 =>
    Loop (explore_steps.l4 c_explore_Depends s1 picks2 Q s4) (⟨none, 0, 0⟩, 0, ()) h5
def explore_steps.mk : Mk := (.s (.r [0]) (.s .d (.s .d (.s (.s .d (.b (.l [.slot 6 .sl, .slot 18 (.int .i64)] (.s .d (.s (.c .d .d) (.s (.b (.s .d (.s (.q [13] [9] [.p 0, .p 1, .p 3, .p 6, .p 7, .p 8, .w 2 [2, 4, 5, 10, 11, 12, 14], .p 4, .w 5 [5, 10, 11, 12, 14], .w 9 [9, 10, 11, 12, 14], .p 10, .w 11 [11, 12, 14], .p 12, .o 13, .o 14]) (.s .d (.s (.s .d (.b (.l [.slot 43 (.int .i64), .box 9 (.pair (.int .i64) (.pair (.int .i64) kapiAct))] (.s .d (.s (.c .d .d) (.j [.box 9 (.pair (.int .i64) (.pair (.int .i64) kapiAct))] (.b (.s (.r [2]) (.j [.slot 58 .bool] .d (.c .d .d)))) .d)))))) .d))))) .d)))))) (.s .d .d)))))

def explore_ways.j1 (go9 : Den kcellsledger → Heap → Prop) (s7 : Den kcellsledger) (s10 : (Int × Unit)) (h11 : Heap) : Prop :=
    go9 (s10.1, (w64 (s7.2.1 + 1)), ()) h11
def explore_ways.j2 (go19 : (Bool × (Int × Unit)) → Heap → Prop) (s17 : (Bool × (Int × Unit))) (s20 : (Bool × Unit)) (h21 : Heap) : Prop :=
    go19 (s20.1, (w64 (s17.2.1 + 1)), ()) h21
def explore_ways.j3 (go19 : (Bool × (Int × Unit)) → Heap → Prop) (s17 : (Bool × (Int × Unit))) (s22 : (Bool × Unit)) (h23 : Heap) : Prop :=
    ((s22.1 = true →
    explore_ways.j2 go19 s17 (false, ()) h23) ∧
    (s22.1 = false →
    explore_ways.j2 go19 s17 (s17.1, ()) h23))
def explore_ways.l4 (at_2 : (Fin 4 → Int)) (s7 : Den kcellsledger) (go14 : (Bool × (Int × Unit)) → Heap → Prop) (s12 : (Bool × (Int × Unit))) (t16 : Sl) (go19 : (Bool × (Int × Unit)) → Heap → Prop) (s17 : (Bool × (Int × Unit))) (h18 : Heap) : Prop :=
    (((decide (s17.2.1 < (aget (n := 4) (a := ((.int .i64) : Kd)) at_2 (s12.2.1 : Int).toNat))) = true →
    (((decide (s12.2.1 ≠ s7.2.1)) = true →
    (0 ≤ s17.2.1 ∧ s17.2.1 < (t16.len : Int)) ∧
    deref t16.a fun a24 =>
    (0 ≤ s7.2.1 ∧ s7.2.1 < (4 : Int)) ∧
    (0 ≤ s7.2.1 ∧ s7.2.1 < (4 : Int)) ∧
    ld ((.int .i64) : Kd) h18 ((a24.add ((s17.2.1 : Int).toNat * 4)).add ((s7.2.1 : Int).toNat * 1)) fun t25 =>
    explore_ways.j3 go19 s17 ((decide ((aget (n := 4) (a := ((.int .i64) : Kd)) (aset (n := 4) (a := ((.int .i64) : Kd)) at_2 (s7.2.1 : Int).toNat (w64 ((aget (n := 4) (a := ((.int .i64) : Kd)) at_2 (s7.2.1 : Int).toNat) - 1))) (s7.2.1 : Int).toNat) < t25)), ()) h18) ∧
    ((decide (s12.2.1 ≠ s7.2.1)) = false →
    (0 ≤ s7.2.1 ∧ s7.2.1 < (4 : Int)) ∧
    (((decide (s17.2.1 < (aget (n := 4) (a := ((.int .i64) : Kd)) (aset (n := 4) (a := ((.int .i64) : Kd)) at_2 (s7.2.1 : Int).toNat (w64 ((aget (n := 4) (a := ((.int .i64) : Kd)) at_2 (s7.2.1 : Int).toNat) - 1))) (s7.2.1 : Int).toNat))) = true →
    (0 ≤ s17.2.1 ∧ s17.2.1 < (t16.len : Int)) ∧
    deref t16.a fun a26 =>
    (0 ≤ s7.2.1 ∧ s7.2.1 < (4 : Int)) ∧
    (0 ≤ s7.2.1 ∧ s7.2.1 < (4 : Int)) ∧
    ld ((.int .i64) : Kd) h18 ((a26.add ((s17.2.1 : Int).toNat * 4)).add ((s7.2.1 : Int).toNat * 1)) fun t27 =>
    explore_ways.j3 go19 s17 ((decide ((aget (n := 4) (a := ((.int .i64) : Kd)) (aset (n := 4) (a := ((.int .i64) : Kd)) at_2 (s7.2.1 : Int).toNat (w64 ((aget (n := 4) (a := ((.int .i64) : Kd)) at_2 (s7.2.1 : Int).toNat) - 1))) (s7.2.1 : Int).toNat) < t27)), ()) h18) ∧
    ((decide (s17.2.1 < (aget (n := 4) (a := ((.int .i64) : Kd)) (aset (n := 4) (a := ((.int .i64) : Kd)) at_2 (s7.2.1 : Int).toNat (w64 ((aget (n := 4) (a := ((.int .i64) : Kd)) at_2 (s7.2.1 : Int).toNat) - 1))) (s7.2.1 : Int).toNat))) = false →
    explore_ways.j3 go19 s17 (false, ()) h18))))) ∧
    ((decide (s17.2.1 < (aget (n := 4) (a := ((.int .i64) : Kd)) at_2 (s12.2.1 : Int).toNat))) = false →
    go14 (s17.1, (w64 (s12.2.1 + 1)), ()) h18))
def explore_ways.l5 (c_explore_ways : Sl → (Fin 4 → Int) → Option Nat → Heap → (Int → Heap → Prop) → Prop) (before1 : Sl) (at_2 : (Fin 4 → Int)) (known3 : Option Nat) (go9 : Den kcellsledger → Heap → Prop) (s7 : Den kcellsledger) (go14 : (Bool × (Int × Unit)) → Heap → Prop) (s12 : (Bool × (Int × Unit))) (h13 : Heap) : Prop :=
    (((decide (s12.2.1 < (before1.len : Int))) = true →
    (0 ≤ s12.2.1 ∧ s12.2.1 < (before1.len : Int)) ∧
    deref before1.a fun a15 =>
    ld (.sl : Kd) h13 (a15.add ((s12.2.1 : Int).toNat * 1)) fun t16 =>
    (0 ≤ s12.2.1 ∧ s12.2.1 < (4 : Int)) ∧
    Loop (explore_ways.l4 at_2 s7 go14 s12 t16) (s12.1, 0, ()) h13) ∧
    ((decide (s12.2.1 < (before1.len : Int))) = false →
    ((s12.1 = true →
    c_explore_ways before1 (aset (n := 4) (a := ((.int .i64) : Kd)) at_2 (s7.2.1 : Int).toNat (w64 ((aget (n := 4) (a := ((.int .i64) : Kd)) at_2 (s7.2.1 : Int).toNat) - 1))) known3 h13 fun r28 h29 =>
    explore_ways.j1 go9 s7 ((w64 (s7.1 + r28)), ()) h29) ∧
    (s12.1 = false →
    explore_ways.j1 go9 s7 (s7.1, ()) h13))))
def explore_ways.l6 (c_explore_ways : Sl → (Fin 4 → Int) → Option Nat → Heap → (Int → Heap → Prop) → Prop) (before1 : Sl) (at_2 : (Fin 4 → Int)) (known3 : Option Nat) (Q : Int → Heap → Prop) (go9 : Den kcellsledger → Heap → Prop) (s7 : Den kcellsledger) (h8 : Heap) : Prop :=
    (((decide (s7.2.1 < (before1.len : Int))) = true →
    (0 ≤ s7.2.1 ∧ s7.2.1 < (4 : Int)) ∧
    (((decide ((aget (n := 4) (a := ((.int .i64) : Kd)) at_2 (s7.2.1 : Int).toNat) = 0)) = true →
    explore_ways.j1 go9 s7 (s7.1, ()) h8) ∧
    ((decide ((aget (n := 4) (a := ((.int .i64) : Kd)) at_2 (s7.2.1 : Int).toNat) = 0)) = false →
    (0 ≤ s7.2.1 ∧ s7.2.1 < (4 : Int)) ∧
    (0 ≤ s7.2.1 ∧ s7.2.1 < (4 : Int)) ∧
    Loop (explore_ways.l5 c_explore_ways before1 at_2 known3 go9 s7) (true, 0, ()) h8))) ∧
    ((decide (s7.2.1 < (before1.len : Int))) = false →
    mapPut ((.arr 4 (.int .i64)) : Kd) ((.int .i64) : Kd) h8 known3 at_2 s7.1 fun h30 =>
    Q s7.1 h30))
def explore_ways.M (c_explore_ways : Sl → (Fin 4 → Int) → Option Nat → Heap → (Int → Heap → Prop) → Prop) (before1 : Sl) (at_2 : (Fin 4 → Int)) (known3 : Option Nat) (h4 : Heap) (Q : Int → Heap → Prop) : Prop :=
    mapAt ((.arr 4 (.int .i64)) : Kd) ((.int .i64) : Kd) h4 known3 at_2 fun t5 b6 =>
    ((b6 = true →
    Q t5 h4) ∧
    (b6 = false →
    Loop (explore_ways.l6 c_explore_ways before1 at_2 known3 Q) (0, 0, ()) h4))
def explore_ways.mk : Mk := (.s (.r [0]) (.s (.s .d (.s .d (.c (.s .d .d) .d))) (.s .d (.s (.s .d (.b (.l [.slot 9 (.int .i64), .slot 26 (.int .i64)] (.s .d (.s (.c .d .d) (.j [.slot 9 (.int .i64)] (.b (.s .d (.s (.s .d (.c .d .d)) (.s (.r [1]) (.s .d (.s .d (.s (.s .d (.b (.l [.slot 12 .bool, .slot 41 (.int .i64)] (.s .d (.s (.c .d .d) (.s (.b (.s .d (.s .d (.b (.l [.slot 12 .bool, .slot 49 (.int .i64)] (.s .d (.s (.c .d .d) (.j [.slot 12 .bool] (.b (.s .d (.j [.slot 73 .bool] (.q [] [] [.p 0, .p 1, .p 2, .p 3, .p 4, .p 5, .p 6, .w 7 [7, 8, 9, 10, 11, 12, 13, 14, 15, 16, 17, 18, 19, 20, 21], .p 8, .p 9, .p 10, .p 11, .p 12, .p 13, .p 14, .p 15, .p 17, .p 18, .w 16 [16, 20, 21], .w 19 [19, 20, 21], .p 20, .p 21]) (.c .d .d)))) .d)))))))) .d)))))) (.s .d (.c .d .d))))))))) .d)))))) (.s .d (.s .d .d))))))

def ref22_Bad.j1 (Q : Int → Heap → Prop) (r4 : Int) (s6 : Unit) (h7 : Heap) : Prop :=
    Q r4 h7
def ref22_Bad.j2 (Q : Int → Heap → Prop) (r4 : Int) (s8 : (Bool × Unit)) (h9 : Heap) : Prop :=
    ((s8.1 = true →
    Q 220 h9) ∧
    (s8.1 = false →
    ref22_Bad.j1 Q r4 () h9))
def ref22_Bad.M (c_ref22_Check : Den kapiScene → Heap → (Int → Heap → Prop) → Prop) (c_ref22_Script : Den kapiScene → Sl → Heap → (Bool → Heap → Prop) → Prop) (s1 : Den kapiScene) (picks2 : Sl) (h3 : Heap) (Q : Int → Heap → Prop) : Prop :=
    c_ref22_Check (s1.1, (s1.2.1, (s1.2.2.1, ()))) h3 fun r4 h5 =>
    (((decide (r4 = 0)) = true →
    c_ref22_Script (s1.1, (s1.2.1, (s1.2.2.1, ()))) picks2 h5 fun r10 h11 =>
    ref22_Bad.j2 Q r4 ((!r10), ()) h11) ∧
    ((decide (r4 = 0)) = false →
    ref22_Bad.j2 Q r4 (false, ()) h5))
def ref22_Bad.mk : Mk := (.s (.r [0]) (.s .d (.j [] (.j [.slot 15 .bool] .d (.c (.s .d .d) .d)) (.s .d .d))))

def ref22_same.l1 (c_ref22_first : Den kapiScene → Sl → Int → Heap → (Int → Heap → Prop) → Prop) (c_ref22_without : Sl → Int → Heap → (Sl → Heap → Prop) → Prop) (s1 : Den kapiScene) (q3 : Sl) (Q : Bool → Heap → Prop) (go9 : (Sl × (Int × Unit)) → Heap → Prop) (s7 : (Sl × (Int × Unit))) (h8 : Heap) : Prop :=
    (((decide (s7.2.1 < (q3.len : Int))) = true →
    (0 ≤ s7.2.1 ∧ s7.2.1 < (q3.len : Int)) ∧
    deref q3.a fun a10 =>
    ld ((.int .i64) : Kd) h8 (a10.add ((s7.2.1 : Int).toNat * 1)) fun t11 =>
    c_ref22_first (s1.1, (s1.2.1, (s1.2.2.1, ()))) s7.1 t11 h8 fun r12 h13 =>
    (((decide (r12 < 0)) = true →
    Q false h13) ∧
    ((decide (r12 < 0)) = false →
    c_ref22_without s7.1 r12 h13 fun r14 h15 =>
    go9 (r14, (w64 (s7.2.1 + 1)), ()) h15))) ∧
    ((decide (s7.2.1 < (q3.len : Int))) = false →
    Q true h8))
def ref22_same.M (c_ref22_Row : Den kapiScene → Sl → Heap → (Sl → Heap → Prop) → Prop) (c_ref22_first : Den kapiScene → Sl → Int → Heap → (Int → Heap → Prop) → Prop) (c_ref22_without : Sl → Int → Heap → (Sl → Heap → Prop) → Prop) (s1 : Den kapiScene) (p2 : Sl) (q3 : Sl) (h4 : Heap) (Q : Bool → Heap → Prop) : Prop :=
    c_ref22_Row (s1.1, (s1.2.1, (s1.2.2.1, ()))) p2 h4 fun r5 h6 =>
    Loop (ref22_same.l1 c_ref22_first c_ref22_without s1 q3 Q) (r5, 0, ()) h6
def ref22_same.mk : Mk := (.s (.r [0]) (.s .d (.s (.s .d (.b (.l [.slot 7 .sl, .slot 8 (.int .i64)] (.s (.s .d (.c .d .d)) (.s (.b (.s (.q [] [] [.p 1, .p 2, .p 3, .p 4, .w 0 [0, 6, 7], .w 5 [5, 6, 7], .o 6, .p 7]) (.s (.s .d (.c (.s .d .d) .d)) .d))) .d))))) (.s .d .d))))

def explore_play.l1 (c_explore_act : Option Addr → Den kapiAct → Heap → (Den kapiEffect → Heap → Prop) → Prop) (c_cells_Arena_Cells : Option Addr → Heap → (Sl → Heap → Prop) → Prop) (s1 : Den kapiScene) (picks2 : Sl) (Q : Den kapiEnding → Heap → Prop) (r4 : (Option Addr × (Int × Unit))) (s15 : Sl) (go19 : (Int × Unit) → Heap → Prop) (s17 : (Int × Unit)) (h18 : Heap) : Prop :=
    (((decide (s17.1 < (picks2.len : Int))) = true →
    (0 ≤ s17.1 ∧ s17.1 < (picks2.len : Int)) ∧
    deref picks2.a fun a20 =>
    ld ((.int .i64) : Kd) h18 (a20.add ((s17.1 : Int).toNat * 1)) fun t21 =>
    (0 ≤ t21 ∧ t21 < (s1.2.2.1.len : Int)) ∧
    deref s1.2.2.1.a fun a22 =>
    ld (.sl : Kd) h18 (a22.add ((t21 : Int).toNat * 1)) fun t23 =>
    (0 ≤ t21 ∧ t21 < (s15.len : Int)) ∧
    deref s15.a fun a24 =>
    ld (.sl : Kd) h18 (a24.add ((t21 : Int).toNat * 1)) fun t25 =>
    (0 ≤ (t25.len : Int) ∧ (t25.len : Int) < (t23.len : Int)) ∧
    deref t23.a fun a26 =>
    ld kapiAct h18 (a26.add (((t25.len : Int) : Int).toNat * 5)) fun t27 =>
    (0 ≤ t21 ∧ t21 < (s15.len : Int)) ∧
    deref s15.a fun a28 =>
    ld (.sl : Kd) h18 (a28.add ((t21 : Int).toNat * 1)) fun t29 =>
    c_explore_act r4.1 (t27.1, (t27.2.1, (t27.2.2.1, (t27.2.2.2.1, (t27.2.2.2.2.1, ()))))) h18 fun r30 h31 =>
    sees h31 (some (a28.add ((t21 : Int).toNat * 1))) (.sl : Kd) t29 ∧
    new h31 (([r30] : List (Den kapiEffect)).flatMap (Kd.cells kapiEffect)) fun p32 h33 =>
    appendM 3 24 h33 t29 ⟨some p32, 1, 1⟩ fun t34 h35 =>
    (0 ≤ t21 ∧ t21 < (s15.len : Int)) ∧
    deref s15.a fun a36 =>
    st (.sl : Kd) h35 (a36.add ((t21 : Int).toNat * 1)) t34 fun h37 =>
    go19 ((w64 (s17.1 + 1)), ()) h37) ∧
    ((decide (s17.1 < (picks2.len : Int))) = false →
    c_cells_Arena_Cells r4.1 h18 fun r38 h39 =>
    Q (s15, (r38, ())) h39))
def explore_play.l2 (c_cells_Arena_Store : Option Addr → Int → Int → Heap → (Int → Heap → Prop) → Prop) (c_explore_act : Option Addr → Den kapiAct → Heap → (Den kapiEffect → Heap → Prop) → Prop) (c_cells_Arena_Cells : Option Addr → Heap → (Sl → Heap → Prop) → Prop) (s1 : Den kapiScene) (picks2 : Sl) (Q : Den kapiEnding → Heap → Prop) (r4 : (Option Addr × (Int × Unit))) (go10 : (Int × Unit) → Heap → Prop) (s8 : (Int × Unit)) (h9 : Heap) : Prop :=
    (((decide (s8.1 < (s1.2.1.len : Int))) = true →
    (0 ≤ s8.1 ∧ s8.1 < (s1.2.1.len : Int)) ∧
    deref s1.2.1.a fun a11 =>
    ld ((.int .i64) : Kd) h9 (a11.add ((s8.1 : Int).toNat * 1)) fun t12 =>
    c_cells_Arena_Store r4.1 s8.1 t12 h9 fun r13 h14 =>
    go10 ((w64 (s8.1 + 1)), ()) h14) ∧
    ((decide (s8.1 < (s1.2.1.len : Int))) = false →
    makeM (.sl : Kd) 24 h9 (s1.2.2.1.len : Int) (s1.2.2.1.len : Int) fun s15 h16 =>
    Loop (explore_play.l1 c_explore_act c_cells_Arena_Cells s1 picks2 Q r4 s15) (0, ()) h16))
def explore_play.j3 (c_cells_Arena_Store : Option Addr → Int → Int → Heap → (Int → Heap → Prop) → Prop) (c_explore_act : Option Addr → Den kapiAct → Heap → (Den kapiEffect → Heap → Prop) → Prop) (c_cells_Arena_Cells : Option Addr → Heap → (Sl → Heap → Prop) → Prop) (s1 : Den kapiScene) (picks2 : Sl) (Q : Den kapiEnding → Heap → Prop) (r4 : (Option Addr × (Int × Unit))) (s6 : Unit) (h7 : Heap) : Prop :=
    Loop (explore_play.l2 c_cells_Arena_Store c_explore_act c_cells_Arena_Cells s1 picks2 Q r4) (0, ()) h7
def explore_play.M (c_cells_New : Int → Heap → ((Option Addr × (Int × Unit)) → Heap → Prop) → Prop) (c_cells_Arena_Reserve : Option Addr → Int → Heap → (Den kcellsledger → Heap → Prop) → Prop) (c_cells_Arena_Store : Option Addr → Int → Int → Heap → (Int → Heap → Prop) → Prop) (c_explore_act : Option Addr → Den kapiAct → Heap → (Den kapiEffect → Heap → Prop) → Prop) (c_cells_Arena_Cells : Option Addr → Heap → (Sl → Heap → Prop) → Prop) (s1 : Den kapiScene) (picks2 : Sl) (h3 : Heap) (Q : Den kapiEnding → Heap → Prop) : Prop :=
    c_cells_New s1.1 h3 fun r4 h5 =>
    (((decide ((0 : Int) < (s1.2.1.len : Int))) = true →
    c_cells_Arena_Reserve r4.1 (s1.2.1.len : Int) h5 fun r40 h41 =>
    explore_play.j3 c_cells_Arena_Store c_explore_act c_cells_Arena_Cells s1 picks2 Q r4 () h41) ∧
    ((decide ((0 : Int) < (s1.2.1.len : Int))) = false →
    explore_play.j3 c_cells_Arena_Store c_explore_act c_cells_Arena_Cells s1 picks2 Q r4 () h5))
def explore_play.mk : Mk := (.s (.r [0, 1]) (.s .d (.j [] (.s .d (.c .d .d)) (.s (.s .d (.b (.l [.slot 31 (.int .i64)] (.s .d (.s (.c .d .d) (.s (.b (.s .d .d)) .d)))))) (.s (.r [5]) (.s (.s .d (.b (.l [.slot 48 (.int .i64)] (.s .d (.s (.c .d .d) (.s (.b (.s .d (.s (.q [13] [12] [.p 0, .p 2, .p 5, .p 7, .w 1 [1, 3, 4, 11, 12, 14], .p 3, .w 4 [4, 11, 12, 14], .w 6 [6, 8, 9, 10, 11, 12, 14], .p 8, .w 9 [9, 10, 11, 12, 14], .p 10, .p 11, .w 12 [12, 14], .o 13, .o 14]) (.q [] [] [.p 0, .p 2, .p 3, .p 5, .p 8, .w 1 [1, 13, 14], .w 4 [4, 6, 7, 12, 13, 14], .p 6, .w 7 [7, 12, 13, 14], .w 9 [9, 10, 11, 12, 13, 14], .o 10, .o 11, .o 12, .p 13, .o 14])))) .d)))))) (.s .d (.s .d .d))))))))

def ref22_play.l1 (c_ref22_do : Den kapiScene → Sl → Den kapiAct → Heap → ((Den kapiEffect × (Sl × Unit)) → Heap → Prop) → Prop) (s1 : Den kapiScene) (Q : Den kapiEnding → Heap → Prop) (s8 : (Int × (Den kapiEnding × Unit))) (r15 : Sl) (go19 : (Sl × (Int × Unit)) → Heap → Prop) (s17 : (Sl × (Int × Unit))) (h18 : Heap) : Prop :=
    (((decide (s17.2.1 < (r15.len : Int))) = true →
    (0 ≤ s17.2.1 ∧ s17.2.1 < (r15.len : Int)) ∧
    deref r15.a fun a20 =>
    ld kapiAct h18 ((a20.add ((s17.2.1 : Int).toNat * 6)).add 1) fun t21 =>
    c_ref22_do (s1.1, (s1.2.1, (s1.2.2.1, ()))) s17.1 t21 h18 fun r22 h23 =>
    (0 ≤ s17.2.1 ∧ s17.2.1 < (r15.len : Int)) ∧
    deref r15.a fun a24 =>
    (0 ≤ s17.2.1 ∧ s17.2.1 < (r15.len : Int)) ∧
    deref r15.a fun a25 =>
    ld ((.int .i64) : Kd) h23 ((a24.add ((s17.2.1 : Int).toNat * 6)).add 0) fun t26 =>
    ld ((.int .i64) : Kd) h23 ((a25.add ((s17.2.1 : Int).toNat * 6)).add 0) fun t27 =>
    (0 ≤ t27 ∧ t27 < (s8.2.1.1.len : Int)) ∧
    deref s8.2.1.1.a fun a28 =>
    ld (.sl : Kd) h23 (a28.add ((t27 : Int).toNat * 1)) fun t29 =>
    new h23 (([(r22.1.1, (r22.1.2.1, (r22.1.2.2.1, ())))] : List (Den kapiEffect)).flatMap (Kd.cells kapiEffect)) fun p30 h31 =>
    appendM 3 24 h31 t29 ⟨some p30, 1, 1⟩ fun t32 h33 =>
    sees h33 (some ((a24.add ((s17.2.1 : Int).toNat * 6)).add 0)) ((.int .i64) : Kd) t26 ∧
    (0 ≤ t26 ∧ t26 < (s8.2.1.1.len : Int)) ∧
    deref s8.2.1.1.a fun a34 =>
    st (.sl : Kd) h33 (a34.add ((t26 : Int).toNat * 1)) t32 fun h35 =>
    go19 (r22.2.1, (w64 (s17.2.1 + 1)), ()) h35) ∧
    ((decide (s17.2.1 < (r15.len : Int))) = false →
    Q (s8.2.1.1, (s17.1, ())) h18))
def ref22_play.l2 (c_ref22_Row : Den kapiScene → Sl → Heap → (Sl → Heap → Prop) → Prop) (c_ref22_do : Den kapiScene → Sl → Den kapiAct → Heap → ((Den kapiEffect × (Sl × Unit)) → Heap → Prop) → Prop) (s1 : Den kapiScene) (picks2 : Sl) (Q : Den kapiEnding → Heap → Prop) (t6 : Sl) (go10 : (Int × (Den kapiEnding × Unit)) → Heap → Prop) (s8 : (Int × (Den kapiEnding × Unit))) (h9 : Heap) : Prop :=
    (((decide (s8.1 < (s1.2.2.1.len : Int))) = true →
    new h9 (([⟨none, 0, 0⟩] : List (Den (.sl : Kd))).flatMap (Kd.cells (.sl : Kd))) fun p11 h12 =>
    appendM 1 24 h12 s8.2.1.1 ⟨some p11, 1, 1⟩ fun t13 h14 =>
    go10 ((w64 (s8.1 + 1)), (t13, (s8.2.1.2.1, ())), ()) h14) ∧
    ((decide (s8.1 < (s1.2.2.1.len : Int))) = false →
    c_ref22_Row (s1.1, (s1.2.1, (s1.2.2.1, ()))) picks2 h9 fun r15 h16 =>
    Loop (ref22_play.l1 c_ref22_do s1 Q s8 r15) (t6, 0, ()) h16))
def ref22_play.M (c_ref22_Row : Den kapiScene → Sl → Heap → (Sl → Heap → Prop) → Prop) (c_ref22_do : Den kapiScene → Sl → Den kapiAct → Heap → ((Den kapiEffect × (Sl × Unit)) → Heap → Prop) → Prop) (s1 : Den kapiScene) (picks2 : Sl) (h3 : Heap) (Q : Den kapiEnding → Heap → Prop) : Prop :=
    new h3 (([] : List (Den ((.int .i64) : Kd))).flatMap (Kd.cells ((.int .i64) : Kd))) fun p4 h5 =>
    appendM 1 8 h5 ⟨some p4, 0, 0⟩ s1.2.1 fun t6 h7 =>
    Loop (ref22_play.l2 c_ref22_Row c_ref22_do s1 picks2 Q t6) (0, (Sl.none, (Sl.none, ())), ()) h7
def ref22_play.mk : Mk := (.s (.r [0, 1]) (.s .d (.s (.r [1]) (.s (.s .d (.b (.l [.slot 7 (.int .i64), .box 6 kapiEnding] (.s (.s .d (.c .d .d)) (.s (.b .d) .d))))) (.s .d (.s (.s .d (.b (.l [.slot 5 .sl, .slot 9 (.int .i64)] (.s (.s .d (.c .d .d)) (.s (.b (.s (.q [11] [10] [.p 1, .p 2, .p 3, .p 4, .p 5, .w 0 [0, 7, 8, 9, 10, 12, 13], .w 6 [6, 7, 8, 9, 10, 12, 13], .o 7, .p 8, .p 9, .p 10, .a 11, .o 12, .p 13]) (.s .d (.q [] [] [.p 0, .p 2, .p 3, .p 4, .p 5, .p 7, .p 9, .p 10, .p 11, .p 12, .w 1 [1, 19, 20], .w 6 [6, 19, 20], .w 8 [8, 14, 15, 18, 19, 20], .w 13 [13, 14, 15, 18, 19, 20], .p 14, .w 15 [15, 18, 19, 20], .w 16 [16, 17, 18, 19, 20], .o 17, .o 18, .p 19, .o 20])))) .d))))) (.s .d (.s .d .d))))))))

def slices_BinarySearchFunc_int64_int64_int64.l1 (c_fn : Value → Sl → Sl → Heap → (Int → Heap → Prop) → Prop) (x1 : Sl) (target2 : Sl) (cmp3 : Value) (Q : (Int × (Bool × Unit)) → Heap → Prop) (go7 : Den kcellsledger → Heap → Prop) (s5 : Den kcellsledger) (h6 : Heap) : Prop :=
    (((decide (s5.1 < s5.2.1)) = true →
    0 ≤ (1 : Int) ∧
    (0 ≤ (w64 (Int.fdiv (IntKind.wrap .u64 (w64 (s5.1 + s5.2.1))) (2 ^ (min (1 : Int).toNat (IntKind.bits .u64))))) ∧ (w64 (Int.fdiv (IntKind.wrap .u64 (w64 (s5.1 + s5.2.1))) (2 ^ (min (1 : Int).toNat (IntKind.bits .u64))))) < (x1.len : Int)) ∧
    deref x1.a fun a8 =>
    ld (.sl : Kd) h6 (a8.add (((w64 (Int.fdiv (IntKind.wrap .u64 (w64 (s5.1 + s5.2.1))) (2 ^ (min (1 : Int).toNat (IntKind.bits .u64))))) : Int).toNat * 1)) fun t9 =>
    c_fn cmp3 t9 target2 h6 fun r10 h11 =>
    (((decide (r10 < 0)) = true →
    go7 ((w64 ((w64 (Int.fdiv (IntKind.wrap .u64 (w64 (s5.1 + s5.2.1))) (2 ^ (min (1 : Int).toNat (IntKind.bits .u64))))) + 1)), s5.2.1, ()) h11) ∧
    ((decide (r10 < 0)) = false →
    go7 (s5.1, (w64 (Int.fdiv (IntKind.wrap .u64 (w64 (s5.1 + s5.2.1))) (2 ^ (min (1 : Int).toNat (IntKind.bits .u64))))), ()) h11))) ∧
    ((decide (s5.1 < s5.2.1)) = false →
    (((decide (s5.1 < (x1.len : Int))) = true →
    (0 ≤ s5.1 ∧ s5.1 < (x1.len : Int)) ∧
    deref x1.a fun a12 =>
    ld (.sl : Kd) h6 (a12.add ((s5.1 : Int).toNat * 1)) fun t13 =>
    c_fn cmp3 t13 target2 h6 fun r14 h15 =>
    Q (s5.1, (decide (r14 = 0)), ()) h15) ∧
    ((decide (s5.1 < (x1.len : Int))) = false →
    Q (s5.1, false, ()) h6))))
def slices_BinarySearchFunc_int64_int64_int64.M (c_fn : Value → Sl → Sl → Heap → (Int → Heap → Prop) → Prop) (x1 : Sl) (target2 : Sl) (cmp3 : Value) (h4 : Heap) (Q : (Int × (Bool × Unit)) → Heap → Prop) : Prop :=
    Loop (slices_BinarySearchFunc_int64_int64_int64.l1 c_fn x1 target2 cmp3 Q) (0, (x1.len : Int), ()) h4
def slices_BinarySearchFunc_int64_int64_int64.mk : Mk := (.s .d (.s .d (.s .d (.s (.b (.l [.slot 9 (.int .i64), .slot 10 (.int .i64)] (.s (.s .d (.c .d .d)) (.b (.s .d (.s .d (.c .d .d))))))) (.s .d .d)))))

def explore_lesser.M (c_cmp_Compare_int : Int → Int → Heap → (Int → Heap → Prop) → Prop) (c_slices_Compare_int64_int64 : Sl → Sl → Heap → (Int → Heap → Prop) → Prop) (a1 : Sl) (b2 : Sl) (h3 : Heap) (Q : Int → Heap → Prop) : Prop :=
    c_cmp_Compare_int (a1.len : Int) (b2.len : Int) h3 fun r4 h5 =>
    (((decide (r4 ≠ 0)) = true →
    Q r4 h5) ∧
    ((decide (r4 ≠ 0)) = false →
    c_slices_Compare_int64_int64 a1 b2 h5 fun r6 h7 =>
    Q r6 h7))
def explore_lesser.mk : Mk := (.s .d (.s (.s .d (.s .d (.c (.s .d .d) .d))) (.s .d .d)))

def slices_Insert_int64_int64.M (c_slices_overlaps_int64 : Sl → Sl → Heap → (Bool → Heap → Prop) → Prop) (c_slices_rotateRight_int64 : Sl → Int → Heap → (Unit → Heap → Prop) → Prop) (s1 : Sl) (i2 : Int) (v3 : Sl) (h4 : Heap) (Q : Sl → Heap → Prop) : Prop :=
    (0 ≤ i2 ∧ i2 ≤ (s1.len : Int)) ∧
    (((decide ((v3.len : Int) = 0)) = true →
    Q s1 h4) ∧
    ((decide ((v3.len : Int) = 0)) = false →
    (((decide (i2 = (s1.len : Int))) = true →
    appendM 1 24 h4 s1 v3 fun t5 h6 =>
    Q t5 h6) ∧
    ((decide (i2 = (s1.len : Int))) = false →
    (((decide ((s1.cap : Int) < (w64 ((s1.len : Int) + (v3.len : Int))))) = true →
    (0 ≤ i2 ∧ i2 ≤ (s1.cap : Int)) ∧
    appendZM (.sl : Kd) 24 h4 (s1.cut 0 ((i2 : Int).toNat) 1) (w64 ((w64 ((s1.len : Int) + (v3.len : Int))) - i2)) fun t7 h8 =>
    (0 ≤ i2 ∧ i2 ≤ (t7.len : Int)) ∧
    copyM 1 h8 (t7.cut ((i2 : Int).toNat) t7.len 1) v3 fun n9 h10 =>
    (0 ≤ (w64 (i2 + (v3.len : Int))) ∧ (w64 (i2 + (v3.len : Int))) ≤ (t7.len : Int)) ∧
    (0 ≤ i2 ∧ i2 ≤ (s1.len : Int)) ∧
    copyM 1 h10 (t7.cut (((w64 (i2 + (v3.len : Int))) : Int).toNat) t7.len 1) (s1.cut ((i2 : Int).toNat) s1.len 1) fun n11 h12 =>
    Q t7 h12) ∧
    ((decide ((s1.cap : Int) < (w64 ((s1.len : Int) + (v3.len : Int))))) = false →
    (0 ≤ (w64 ((s1.len : Int) + (v3.len : Int))) ∧ (w64 ((s1.len : Int) + (v3.len : Int))) ≤ (s1.cap : Int)) ∧
    (0 ≤ (w64 (i2 + (v3.len : Int))) ∧ (w64 (i2 + (v3.len : Int))) ≤ ((s1.cut 0 (((w64 ((s1.len : Int) + (v3.len : Int))) : Int).toNat) 1).len : Int)) ∧
    c_slices_overlaps_int64 v3 ((s1.cut 0 (((w64 ((s1.len : Int) + (v3.len : Int))) : Int).toNat) 1).cut (((w64 (i2 + (v3.len : Int))) : Int).toNat) ((s1.cut 0 (((w64 ((s1.len : Int) + (v3.len : Int))) : Int).toNat) 1).len) 1) h4 fun r13 h14 =>
    (((!r13) = true →
    (0 ≤ (w64 (i2 + (v3.len : Int))) ∧ (w64 (i2 + (v3.len : Int))) ≤ ((s1.cut 0 (((w64 ((s1.len : Int) + (v3.len : Int))) : Int).toNat) 1).len : Int)) ∧
    (0 ≤ i2 ∧ i2 ≤ ((s1.cut 0 (((w64 ((s1.len : Int) + (v3.len : Int))) : Int).toNat) 1).len : Int)) ∧
    copyM 1 h14 ((s1.cut 0 (((w64 ((s1.len : Int) + (v3.len : Int))) : Int).toNat) 1).cut (((w64 (i2 + (v3.len : Int))) : Int).toNat) ((s1.cut 0 (((w64 ((s1.len : Int) + (v3.len : Int))) : Int).toNat) 1).len) 1) ((s1.cut 0 (((w64 ((s1.len : Int) + (v3.len : Int))) : Int).toNat) 1).cut ((i2 : Int).toNat) ((s1.cut 0 (((w64 ((s1.len : Int) + (v3.len : Int))) : Int).toNat) 1).len) 1) fun n15 h16 =>
    (0 ≤ i2 ∧ i2 ≤ ((s1.cut 0 (((w64 ((s1.len : Int) + (v3.len : Int))) : Int).toNat) 1).len : Int)) ∧
    copyM 1 h16 ((s1.cut 0 (((w64 ((s1.len : Int) + (v3.len : Int))) : Int).toNat) 1).cut ((i2 : Int).toNat) ((s1.cut 0 (((w64 ((s1.len : Int) + (v3.len : Int))) : Int).toNat) 1).len) 1) v3 fun n17 h18 =>
    Q (s1.cut 0 (((w64 ((s1.len : Int) + (v3.len : Int))) : Int).toNat) 1) h18) ∧
    ((!r13) = false →
    (0 ≤ (s1.len : Int) ∧ (s1.len : Int) ≤ ((s1.cut 0 (((w64 ((s1.len : Int) + (v3.len : Int))) : Int).toNat) 1).len : Int)) ∧
    copyM 1 h14 ((s1.cut 0 (((w64 ((s1.len : Int) + (v3.len : Int))) : Int).toNat) 1).cut (((s1.len : Int) : Int).toNat) ((s1.cut 0 (((w64 ((s1.len : Int) + (v3.len : Int))) : Int).toNat) 1).len) 1) v3 fun n19 h20 =>
    (0 ≤ i2 ∧ i2 ≤ ((s1.cut 0 (((w64 ((s1.len : Int) + (v3.len : Int))) : Int).toNat) 1).len : Int)) ∧
    c_slices_rotateRight_int64 ((s1.cut 0 (((w64 ((s1.len : Int) + (v3.len : Int))) : Int).toNat) 1).cut ((i2 : Int).toNat) ((s1.cut 0 (((w64 ((s1.len : Int) + (v3.len : Int))) : Int).toNat) 1).len) 1) (v3.len : Int) h20 fun r21 h22 =>
    Q (s1.cut 0 (((w64 ((s1.len : Int) + (v3.len : Int))) : Int).toNat) 1) h22))))))))
def slices_Insert_int64_int64.mk : Mk := (.s .d (.s .d (.s .d (.s (.s .d (.c (.s .d .d) .d)) (.s .d (.s (.s .d (.c (.s .d .d) .d)) (.s (.s .d (.c (.s .d (.s .d (.s (.q [] [] [.p 0, .p 1, .p 2, .p 3, .p 4, .p 5, .p 6, .p 7, .o 8]) (.s .d .d)))) .d)) (.s .d (.s (.s .d (.c (.s (.q [] [] [.p 0, .p 1, .p 2, .p 3, .p 4, .p 5, .p 6, .p 7, .o 8]) (.s .d (.s .d .d))) .d)) (.s .d (.s .d (.s .d .d))))))))))))

def ref22_put.j1 (go6 : (Sl × (Bool × (Int × Unit))) → Heap → Prop) (s4 : (Sl × (Bool × (Int × Unit)))) (s7 : (Sl × (Bool × Unit))) (h8 : Heap) : Prop :=
    go6 (s7.1, s7.2.1, (w64 (s4.2.2.1 + 1)), ()) h8
def ref22_put.j2 (l1 : Sl) (go6 : (Sl × (Bool × (Int × Unit))) → Heap → Prop) (s4 : (Sl × (Bool × (Int × Unit)))) (s13 : (Sl × (Bool × Unit))) (h14 : Heap) : Prop :=
    (0 ≤ s4.2.2.1 ∧ s4.2.2.1 < (l1.len : Int)) ∧
    deref l1.a fun a15 =>
    ld (.sl : Kd) h14 (a15.add ((s4.2.2.1 : Int).toNat * 1)) fun t16 =>
    new h14 (([t16] : List (Den (.sl : Kd))).flatMap (Kd.cells (.sl : Kd))) fun p17 h18 =>
    appendM 1 24 h18 s13.1 ⟨some p17, 1, 1⟩ fun t19 h20 =>
    ref22_put.j1 go6 s4 (t19, s13.2.1, ()) h20
def ref22_put.j3 (l1 : Sl) (c2 : Sl) (go6 : (Sl × (Bool × (Int × Unit))) → Heap → Prop) (s4 : (Sl × (Bool × (Int × Unit)))) (s21 : (Bool × Unit)) (h22 : Heap) : Prop :=
    ((s21.1 = true →
    new h22 (([c2] : List (Den (.sl : Kd))).flatMap (Kd.cells (.sl : Kd))) fun p23 h24 =>
    appendM 1 24 h24 s4.1 ⟨some p23, 1, 1⟩ fun t25 h26 =>
    ref22_put.j2 l1 go6 s4 (t25, true, ()) h26) ∧
    (s21.1 = false →
    ref22_put.j2 l1 go6 s4 (s4.1, s4.2.1, ()) h22))
def ref22_put.j4 (Q : Sl → Heap → Prop) (s27 : (Sl × Unit)) (h28 : Heap) : Prop :=
    Q s27.1 h28
def ref22_put.l5 (c_ref22_below : Sl → Sl → Heap → (Int → Heap → Prop) → Prop) (l1 : Sl) (c2 : Sl) (Q : Sl → Heap → Prop) (go6 : (Sl × (Bool × (Int × Unit))) → Heap → Prop) (s4 : (Sl × (Bool × (Int × Unit)))) (h5 : Heap) : Prop :=
    (((decide (s4.2.2.1 < (l1.len : Int))) = true →
    (0 ≤ s4.2.2.1 ∧ s4.2.2.1 < (l1.len : Int)) ∧
    deref l1.a fun a9 =>
    ld (.sl : Kd) h5 (a9.add ((s4.2.2.1 : Int).toNat * 1)) fun t10 =>
    c_ref22_below c2 t10 h5 fun r11 h12 =>
    (((decide (r11 = 0)) = true →
    Q l1 h12) ∧
    ((decide (r11 = 0)) = false →
    (((decide (r11 < 0)) = true →
    ref22_put.j3 l1 c2 go6 s4 ((!s4.2.1), ()) h12) ∧
    ((decide (r11 < 0)) = false →
    ref22_put.j3 l1 c2 go6 s4 (false, ()) h12))))) ∧
    ((decide (s4.2.2.1 < (l1.len : Int))) = false →
    (((!s4.2.1) = true →
    new h5 (([c2] : List (Den (.sl : Kd))).flatMap (Kd.cells (.sl : Kd))) fun p29 h30 =>
    appendM 1 24 h30 s4.1 ⟨some p29, 1, 1⟩ fun t31 h32 =>
    ref22_put.j4 Q (t31, ()) h32) ∧
    ((!s4.2.1) = false →
    ref22_put.j4 Q (s4.1, ()) h5))))
def ref22_put.M (c_ref22_below : Sl → Sl → Heap → (Int → Heap → Prop) → Prop) (l1 : Sl) (c2 : Sl) (h3 : Heap) (Q : Sl → Heap → Prop) : Prop :=
    Loop (ref22_put.l5 c_ref22_below l1 c2 Q) (⟨none, 0, 0⟩, false, 0, ()) h3
def ref22_put.mk : Mk := (.s .d (.s .d (.s .d (.s (.s .d (.b (.l [.slot 5 .sl, .slot 6 .bool, .slot 7 (.int .i64)] (.s (.s .d (.c .d .d)) (.j [.slot 5 .sl, .slot 6 .bool] (.b (.s .d (.s (.s .d (.c (.s .d .d) .d)) (.j [.slot 5 .sl, .slot 6 .bool] (.j [.slot 29 .bool] .d (.c (.s .d .d) .d)) .d)))) .d))))) (.j [.slot 5 .sl] (.s .d (.c .d .d)) (.s .d .d))))))

def explore_traces_1.M (c_explore_walk_down : Option Addr → Option Nat → Value → Heap → (Bool → Heap → Prop) → Prop) (yield1 : Value) (t2 : Option Addr) (h3 : Heap) (Q : Unit → Heap → Prop) : Prop :=
    deref t2 fun a4 =>
    deref t2 fun a5 =>
    ld kapiScene h3 a5 fun t6 =>
    ld (.sl : Kd) h3 (a4.add 2) fun t7 =>
    makeM ((.int .i64) : Kd) 8 h3 (t7.len : Int) (t7.len : Int) fun s8 h9 =>
    new h9 (kexplorewalk.cells ((t6.1, (t6.2.1, (t6.2.2.1, ()))), (s8, (Sl.none, ())))) fun p10 h11 =>
    mapNew h11 fun m12 h13 =>
    c_explore_walk_down (some p10) (some m12) yield1 h13 fun r14 h15 =>
    Q () h15
def explore_traces_1.mk : Mk := (.s (.q [] [] [.p 1, .w 0 [0, 5, 6, 7], .w 2 [2, 3, 4, 5, 6, 7], .p 3, .o 4, .p 5, .o 6, .p 7]) .d)

def explore_walk_down.j1 (go11 : (Bool × (Int × Unit)) → Heap → Prop) (s9 : (Bool × (Int × Unit))) (s12 : (Bool × Unit)) (h13 : Heap) : Prop :=
    go11 (s12.1, (w64 (s9.2.1 + 1)), ()) h13
def explore_walk_down.l2 (c_explore_walk_act : Option Addr → Int → Heap → (Den kapiAct → Heap → Prop) → Prop) (c_explore_Depends : Den kapiScene → Den kapiAct → Den kapiAct → Heap → (Bool → Heap → Prop) → Prop) (c_explore_walk_down : Option Addr → Option Nat → Value → Heap → (Bool → Heap → Prop) → Prop) (w1 : Option Addr) (yield3 : Value) (Q : Bool → Heap → Prop) (r5 : Option Nat) (go11 : (Bool × (Int × Unit)) → Heap → Prop) (s9 : (Bool × (Int × Unit))) (r22 : Den kapiAct) (r24 : Option Nat) (it26 : Nat) (go30 : Unit → Heap → Prop) (s28 : Unit) (h29 : Heap) : Prop :=
    itNext h29 it26 fun ok31 h32 =>
    ((ok31 = true →
    itEnt ((.int .i64) : Kd) ((.int .i64) : Kd) h32 it26 fun k33 v34 =>
    deref w1 fun a35 =>
    ld kapiScene h32 (a35.add 0) fun t36 =>
    c_explore_walk_act w1 k33 h32 fun r37 h38 =>
    sees h38 (some (a35.add 0)) kapiScene t36 ∧
    c_explore_Depends t36 r37 (r22.1, (r22.2.1, (r22.2.2.1, (r22.2.2.2.1, (r22.2.2.2.2.1, ()))))) h38 fun r39 h40 =>
    ((r39 = true →
    mapDel ((.int .i64) : Kd) ((.int .i64) : Kd) h40 r24 k33 fun h41 =>
    go30 () h41) ∧
    (r39 = false →
    go30 () h40))) ∧
    (ok31 = false →
    deref w1 fun a42 =>
    ld (.sl : Kd) h32 (a42.add 3) fun t43 =>
    (0 ≤ s9.2.1 ∧ s9.2.1 < (t43.len : Int)) ∧
    deref t43.a fun a44 =>
    ld ((.int .i64) : Kd) h32 (a44.add ((s9.2.1 : Int).toNat * 1)) fun t45 =>
    (0 ≤ s9.2.1 ∧ s9.2.1 < (t43.len : Int)) ∧
    deref t43.a fun a46 =>
    st ((.int .i64) : Kd) h32 (a46.add ((s9.2.1 : Int).toNat * 1)) (w64 (t45 + 1)) fun h47 =>
    deref w1 fun a48 =>
    ld (.sl : Kd) h47 (a48.add 4) fun t49 =>
    new h47 (([s9.2.1] : List (Den ((.int .i64) : Kd))).flatMap (Kd.cells ((.int .i64) : Kd))) fun p50 h51 =>
    appendM 1 8 h51 t49 ⟨some p50, 1, 1⟩ fun t52 h53 =>
    deref w1 fun a54 =>
    st (.sl : Kd) h53 (a54.add 4) t52 fun h55 =>
    c_explore_walk_down w1 r24 yield3 h55 fun r56 h57 =>
    deref w1 fun a58 =>
    deref w1 fun a59 =>
    ld (.sl : Kd) h57 (a58.add 4) fun t60 =>
    ld (.sl : Kd) h57 (a59.add 4) fun t61 =>
    (0 ≤ (w64 ((t61.len : Int) - 1)) ∧ (w64 ((t61.len : Int) - 1)) ≤ (t60.cap : Int)) ∧
    deref w1 fun a62 =>
    st (.sl : Kd) h57 (a62.add 4) (t60.cut 0 (((w64 ((t61.len : Int) - 1)) : Int).toNat) 1) fun h63 =>
    deref w1 fun a64 =>
    ld (.sl : Kd) h63 (a64.add 3) fun t65 =>
    (0 ≤ s9.2.1 ∧ s9.2.1 < (t65.len : Int)) ∧
    deref t65.a fun a66 =>
    ld ((.int .i64) : Kd) h63 (a66.add ((s9.2.1 : Int).toNat * 1)) fun t67 =>
    (0 ≤ s9.2.1 ∧ s9.2.1 < (t65.len : Int)) ∧
    deref t65.a fun a68 =>
    st ((.int .i64) : Kd) h63 (a68.add ((s9.2.1 : Int).toNat * 1)) (w64 (t67 - 1)) fun h69 =>
    (((!r56) = true →
    Q false h69) ∧
    ((!r56) = false →
    mapPut ((.int .i64) : Kd) ((.int .i64) : Kd) h69 r5 s9.2.1 1 fun h70 =>
    explore_walk_down.j1 go11 s9 (false, ()) h70))))
def explore_walk_down.l3 (c_maps_Clone_map_int_int_int_int : Option Nat → Heap → (Option Nat → Heap → Prop) → Prop) (c_explore_walk_act : Option Addr → Int → Heap → (Den kapiAct → Heap → Prop) → Prop) (c_explore_Depends : Den kapiScene → Den kapiAct → Den kapiAct → Heap → (Bool → Heap → Prop) → Prop) (c_explore_walk_down : Option Addr → Option Nat → Value → Heap → (Bool → Heap → Prop) → Prop) (c_slices_Clone_int_int : Sl → Heap → (Sl → Heap → Prop) → Prop) (c_yield : Value → Sl → Heap → (Bool → Heap → Prop) → Prop) (w1 : Option Addr) (yield3 : Value) (Q : Bool → Heap → Prop) (r5 : Option Nat) (t8 : Sl) (go11 : (Bool × (Int × Unit)) → Heap → Prop) (s9 : (Bool × (Int × Unit))) (h10 : Heap) : Prop :=
    (((decide (s9.2.1 < (t8.len : Int))) = true →
    (0 ≤ s9.2.1 ∧ s9.2.1 < (t8.len : Int)) ∧
    deref t8.a fun a14 =>
    ld (.sl : Kd) h10 (a14.add ((s9.2.1 : Int).toNat * 1)) fun t15 =>
    deref w1 fun a16 =>
    ld (.sl : Kd) h10 (a16.add 3) fun t17 =>
    (0 ≤ s9.2.1 ∧ s9.2.1 < (t17.len : Int)) ∧
    deref t17.a fun a18 =>
    ld ((.int .i64) : Kd) h10 (a18.add ((s9.2.1 : Int).toNat * 1)) fun t19 =>
    (((decide (t19 = (t15.len : Int))) = true →
    explore_walk_down.j1 go11 s9 (s9.1, ()) h10) ∧
    ((decide (t19 = (t15.len : Int))) = false →
    mapAt ((.int .i64) : Kd) ((.int .i64) : Kd) h10 r5 s9.2.1 fun t20 b21 =>
    (((decide ((0 : Int) < t20)) = true →
    explore_walk_down.j1 go11 s9 (false, ()) h10) ∧
    ((decide ((0 : Int) < t20)) = false →
    c_explore_walk_act w1 s9.2.1 h10 fun r22 h23 =>
    c_maps_Clone_map_int_int_int_int r5 h23 fun r24 h25 =>
    itNew h25 r5 fun it26 h27 =>
    Loop (explore_walk_down.l2 c_explore_walk_act c_explore_Depends c_explore_walk_down w1 yield3 Q r5 go11 s9 r22 r24 it26) () h27))))) ∧
    ((decide (s9.2.1 < (t8.len : Int))) = false →
    (((!s9.1) = true →
    Q true h10) ∧
    ((!s9.1) = false →
    deref w1 fun a71 =>
    ld (.sl : Kd) h10 (a71.add 4) fun t72 =>
    c_slices_Clone_int_int t72 h10 fun r73 h74 =>
    c_yield yield3 r73 h74 fun r75 h76 =>
    Q r75 h76))))
def explore_walk_down.M (c_maps_Clone_map_int_int_int_int : Option Nat → Heap → (Option Nat → Heap → Prop) → Prop) (c_explore_walk_act : Option Addr → Int → Heap → (Den kapiAct → Heap → Prop) → Prop) (c_explore_Depends : Den kapiScene → Den kapiAct → Den kapiAct → Heap → (Bool → Heap → Prop) → Prop) (c_explore_walk_down : Option Addr → Option Nat → Value → Heap → (Bool → Heap → Prop) → Prop) (c_slices_Clone_int_int : Sl → Heap → (Sl → Heap → Prop) → Prop) (c_yield : Value → Sl → Heap → (Bool → Heap → Prop) → Prop) (w1 : Option Addr) (asleep2 : Option Nat) (yield3 : Value) (h4 : Heap) (Q : Bool → Heap → Prop) : Prop :=
    c_maps_Clone_map_int_int_int_int asleep2 h4 fun r5 h6 =>
    deref w1 fun a7 =>
    ld (.sl : Kd) h6 ((a7.add 0).add 2) fun t8 =>
    Loop (explore_walk_down.l3 c_maps_Clone_map_int_int_int_int c_explore_walk_act c_explore_Depends c_explore_walk_down c_slices_Clone_int_int c_yield w1 yield3 Q r5 t8) (true, 0, ()) h6
def explore_walk_down.mk : Mk := (.s .d (.s .d (.s .d (.s (.s .d (.b (.l [.slot 7 .bool, .slot 23 (.int .i64)] (.s .d (.s (.c .d .d) (.j [.slot 7 .bool] (.b (.s .d (.s (.s .d (.c .d .d)) (.s .d (.s (.s .d (.c .d .d)) (.s (.r [3]) (.s .d (.s (.s .d (.b (.l [] (.s .d (.s (.c .d .d) (.b (.s .d (.s (.q [] [] [.p 0, .p 1, .p 2, .p 4, .p 5, .w 3 [3, 8], .w 7 [7, 8], .o 6, .o 8]) (.c .d .d))))))))) (.s .d (.s .d (.s .d (.s (.q [] [] [.p 0, .p 1, .p 2, .p 3, .p 5, .p 6, .p 7, .w 4 [4, 11, 12, 13, 14], .w 8 [8, 9, 10, 11, 12, 13, 14], .p 9, .p 10, .p 11, .p 12, .p 13, .o 14]) (.s .d (.s (.s .d (.c (.s .d .d) .d)) .d)))))))))))))) .d)))))) (.s (.y []) .d)))))

def ref22_more.j1 (go17 : (Sl × (Int × Unit)) → Heap → Prop) (s15 : (Sl × (Int × Unit))) (s18 : (Sl × Unit)) (h19 : Heap) : Prop :=
    go17 (s18.1, (w64 (s15.2.1 + 1)), ()) h19
def ref22_more.j2 (go22 : Den kcellsledger → Heap → Prop) (s20 : Den kcellsledger) (s23 : (Int × Unit)) (h24 : Heap) : Prop :=
    go22 (s23.1, (w64 (s20.2.1 + 1)), ()) h24
def ref22_more.l3 (c_ref22_more : Den kapiScene → Sl → Sl → Heap → (Sl → Heap → Prop) → Prop) (s1 : Den kapiScene) (picks2 : Sl) (go17 : (Sl × (Int × Unit)) → Heap → Prop) (s15 : (Sl × (Int × Unit))) (go22 : Den kcellsledger → Heap → Prop) (s20 : Den kcellsledger) (h21 : Heap) : Prop :=
    (((decide (s20.2.1 < (picks2.len : Int))) = true →
    (0 ≤ s20.2.1 ∧ s20.2.1 < (picks2.len : Int)) ∧
    deref picks2.a fun a25 =>
    ld ((.int .i64) : Kd) h21 (a25.add ((s20.2.1 : Int).toNat * 1)) fun t26 =>
    (((decide (t26 = s15.2.1)) = true →
    ref22_more.j2 go22 s20 ((w64 (s20.1 + 1)), ()) h21) ∧
    ((decide (t26 = s15.2.1)) = false →
    ref22_more.j2 go22 s20 (s20.1, ()) h21))) ∧
    ((decide (s20.2.1 < (picks2.len : Int))) = false →
    (0 ≤ s15.2.1 ∧ s15.2.1 < (s1.2.2.1.len : Int)) ∧
    deref s1.2.2.1.a fun a27 =>
    ld (.sl : Kd) h21 (a27.add ((s15.2.1 : Int).toNat * 1)) fun t28 =>
    (((decide (s20.1 < (t28.len : Int))) = true →
    new h21 (([] : List (Den ((.int .i64) : Kd))).flatMap (Kd.cells ((.int .i64) : Kd))) fun p29 h30 =>
    appendM 1 8 h30 ⟨some p29, 0, 0⟩ picks2 fun t31 h32 =>
    new h32 (([s15.2.1] : List (Den ((.int .i64) : Kd))).flatMap (Kd.cells ((.int .i64) : Kd))) fun p33 h34 =>
    appendM 1 8 h34 t31 ⟨some p33, 1, 1⟩ fun t35 h36 =>
    c_ref22_more (s1.1, (s1.2.1, (s1.2.2.1, ()))) t35 s15.1 h36 fun r37 h38 =>
    ref22_more.j1 go17 s15 (r37, ()) h38) ∧
    ((decide (s20.1 < (t28.len : Int))) = false →
    ref22_more.j1 go17 s15 (s15.1, ()) h21))))
def ref22_more.l4 (c_ref22_more : Den kapiScene → Sl → Sl → Heap → (Sl → Heap → Prop) → Prop) (s1 : Den kapiScene) (picks2 : Sl) (Q : Sl → Heap → Prop) (go17 : (Sl × (Int × Unit)) → Heap → Prop) (s15 : (Sl × (Int × Unit))) (h16 : Heap) : Prop :=
    (((decide (s15.2.1 < (s1.2.2.1.len : Int))) = true →
    Loop (ref22_more.l3 c_ref22_more s1 picks2 go17 s15) (0, 0, ()) h16) ∧
    ((decide (s15.2.1 < (s1.2.2.1.len : Int))) = false →
    Q s15.1 h16))
def ref22_more.M (c_ref22_acts : Den kapiScene → Heap → (Int → Heap → Prop) → Prop) (c_ref22_more : Den kapiScene → Sl → Sl → Heap → (Sl → Heap → Prop) → Prop) (s1 : Den kapiScene) (picks2 : Sl) (l3 : Sl) (h4 : Heap) (Q : Sl → Heap → Prop) : Prop :=
    c_ref22_acts (s1.1, (s1.2.1, (s1.2.2.1, ()))) h4 fun r5 h6 =>
    (((decide ((picks2.len : Int) = r5)) = true →
    new h6 (([] : List (Den ((.int .i64) : Kd))).flatMap (Kd.cells ((.int .i64) : Kd))) fun p7 h8 =>
    appendM 1 8 h8 ⟨some p7, 0, 0⟩ picks2 fun t9 h10 =>
    new h10 (([t9] : List (Den (.sl : Kd))).flatMap (Kd.cells (.sl : Kd))) fun p11 h12 =>
    appendM 1 24 h12 l3 ⟨some p11, 1, 1⟩ fun t13 h14 =>
    Q t13 h14) ∧
    ((decide ((picks2.len : Int) = r5)) = false →
    Loop (ref22_more.l4 c_ref22_more s1 picks2 Q) (l3, 0, ()) h6))
def ref22_more.mk : Mk := (.s (.r [0]) (.s (.s .d (.c (.s .d (.s .d .d)) .d)) (.s (.s .d (.b (.l [.slot 2 .sl, .slot 8 (.int .i64)] (.s (.s .d (.c .d .d)) (.j [.slot 2 .sl] (.b (.s .d (.s (.s .d (.b (.l [.slot 9 (.int .i64), .slot 10 (.int .i64)] (.s (.s .d (.c .d .d)) (.j [.slot 9 (.int .i64)] (.b (.s .d (.c .d .d))) .d))))) (.s .d (.c (.s .d (.s .d .d)) .d))))) .d))))) (.s .d .d))))

def ref22_Row.l1 (s1 : Den kapiScene) (picks2 : Sl) (Q : Sl → Heap → Prop) (go6 : (Sl × (Int × (((Fin 4 → Int) × Unit) × Unit))) → Heap → Prop) (s4 : (Sl × (Int × (((Fin 4 → Int) × Unit) × Unit)))) (h5 : Heap) : Prop :=
    (((decide (s4.2.1 < (picks2.len : Int))) = true →
    (0 ≤ s4.2.1 ∧ s4.2.1 < (picks2.len : Int)) ∧
    deref picks2.a fun a7 =>
    ld ((.int .i64) : Kd) h5 (a7.add ((s4.2.1 : Int).toNat * 1)) fun t8 =>
    (0 ≤ t8 ∧ t8 < (4 : Int)) ∧
    (0 ≤ t8 ∧ t8 < (s1.2.2.1.len : Int)) ∧
    deref s1.2.2.1.a fun a9 =>
    ld (.sl : Kd) h5 (a9.add ((t8 : Int).toNat * 1)) fun t10 =>
    (0 ≤ (aget (n := 4) (a := ((.int .i64) : Kd)) s4.2.2.1.1 (t8 : Int).toNat) ∧ (aget (n := 4) (a := ((.int .i64) : Kd)) s4.2.2.1.1 (t8 : Int).toNat) < (t10.len : Int)) ∧
    deref t10.a fun a11 =>
    ld kapiAct h5 (a11.add (((aget (n := 4) (a := ((.int .i64) : Kd)) s4.2.2.1.1 (t8 : Int).toNat) : Int).toNat * 5)) fun t12 =>
    new h5 (([(t8, ((t12.1, (t12.2.1, (t12.2.2.1, (t12.2.2.2.1, (t12.2.2.2.2.1, ()))))), ()))] : List (Den kref22Act)).flatMap (Kd.cells kref22Act)) fun p13 h14 =>
    appendM 6 48 h14 s4.1 ⟨some p13, 1, 1⟩ fun t15 h16 =>
    (0 ≤ t8 ∧ t8 < (4 : Int)) ∧
    (0 ≤ t8 ∧ t8 < (4 : Int)) ∧
    go6 (t15, (w64 (s4.2.1 + 1)), ((aset (n := 4) (a := ((.int .i64) : Kd)) s4.2.2.1.1 (t8 : Int).toNat (w64 ((aget (n := 4) (a := ((.int .i64) : Kd)) s4.2.2.1.1 (t8 : Int).toNat) + 1))), ()), ()) h16) ∧
    ((decide (s4.2.1 < (picks2.len : Int))) = false →
    Q s4.1 h5))
def ref22_Row.M  (s1 : Den kapiScene) (picks2 : Sl) (h3 : Heap) (Q : Sl → Heap → Prop) : Prop :=
    Loop (ref22_Row.l1 s1 picks2 Q) (⟨none, 0, 0⟩, 0, ((fun _ => 0), ()), ()) h3
def ref22_Row.mk : Mk := (.s (.r [0]) (.s (.r [0]) (.s .d (.s (.s .d (.b (.l [.slot 6 .sl, .slot 7 (.int .i64), .box 5 (.pair (.arr 4 (.int .i64)) .nil)] (.s (.s .d (.c .d .d)) (.s (.b (.s .d (.s (.q [] [] [.p 0, .p 1, .p 2, .p 4, .p 7, .p 8, .w 3 [3, 5, 6, 10, 11, 12, 13, 14, 15], .p 5, .w 6 [6, 10, 11, 12, 13, 14, 15], .w 9 [9, 10, 11, 12, 13, 14, 15], .p 10, .w 11 [11, 12, 13, 14, 15], .p 12, .o 13, .o 14, .p 15]) .d))) .d))))) (.s .d .d)))))

def ref22_first.l1 (c_ref22_bound : Den kapiScene → Den kref22Act → Den kref22Act → Heap → (Bool → Heap → Prop) → Prop) (s1 : Den kapiScene) (l2 : Sl) (Q : Int → Heap → Prop) (s5 : (Int × Unit)) (go12 : (Int × Unit) → Heap → Prop) (s10 : (Int × Unit)) (h11 : Heap) : Prop :=
    (((decide (s10.1 < s5.1)) = true →
    (0 ≤ s10.1 ∧ s10.1 < (l2.len : Int)) ∧
    deref l2.a fun a13 =>
    (0 ≤ s5.1 ∧ s5.1 < (l2.len : Int)) ∧
    deref l2.a fun a14 =>
    ld kref22Act h11 (a13.add ((s10.1 : Int).toNat * 6)) fun t15 =>
    ld kref22Act h11 (a14.add ((s5.1 : Int).toNat * 6)) fun t16 =>
    c_ref22_bound (s1.1, (s1.2.1, (s1.2.2.1, ()))) t15 t16 h11 fun r17 h18 =>
    ((r17 = true →
    Q (-1) h18) ∧
    (r17 = false →
    go12 ((w64 (s10.1 + 1)), ()) h18))) ∧
    ((decide (s10.1 < s5.1)) = false →
    Q s5.1 h11))
def ref22_first.l2 (c_ref22_bound : Den kapiScene → Den kref22Act → Den kref22Act → Heap → (Bool → Heap → Prop) → Prop) (s1 : Den kapiScene) (l2 : Sl) (who3 : Int) (Q : Int → Heap → Prop) (go7 : (Int × Unit) → Heap → Prop) (s5 : (Int × Unit)) (h6 : Heap) : Prop :=
    (((decide (s5.1 < (l2.len : Int))) = true →
    (0 ≤ s5.1 ∧ s5.1 < (l2.len : Int)) ∧
    deref l2.a fun a8 =>
    ld ((.int .i64) : Kd) h6 ((a8.add ((s5.1 : Int).toNat * 6)).add 0) fun t9 =>
    (((decide (t9 ≠ who3)) = true →
    go7 ((w64 (s5.1 + 1)), ()) h6) ∧
    ((decide (t9 ≠ who3)) = false →
    Loop (ref22_first.l1 c_ref22_bound s1 l2 Q s5) (0, ()) h6))) ∧
    ((decide (s5.1 < (l2.len : Int))) = false →
    Q (-1) h6))
def ref22_first.M (c_ref22_bound : Den kapiScene → Den kref22Act → Den kref22Act → Heap → (Bool → Heap → Prop) → Prop) (s1 : Den kapiScene) (l2 : Sl) (who3 : Int) (h4 : Heap) (Q : Int → Heap → Prop) : Prop :=
    Loop (ref22_first.l2 c_ref22_bound s1 l2 who3 Q) (0, ()) h4
def ref22_first.mk : Mk := (.s (.r [0]) (.s (.s .d (.b (.l [.slot 7 (.int .i64)] (.s (.s .d (.c .d .d)) (.s (.b (.s (.s .d (.c .d .d)) (.s (.s .d (.b (.l [.slot 8 (.int .i64)] (.s (.s .d (.c .d .d)) (.s (.b (.s (.q [] [] [.p 1, .p 2, .p 3, .p 5, .p 6, .p 7, .w 0 [0, 9], .w 4 [4, 9], .w 8 [8, 9], .o 9]) (.c (.s .d .d) .d))) .d))))) (.s .d .d)))) .d))))) (.s .d .d)))

def ref22_without.j1 (go6 : (Sl × (Int × Unit)) → Heap → Prop) (s4 : (Sl × (Int × Unit))) (s7 : (Sl × Unit)) (h8 : Heap) : Prop :=
    go6 (s7.1, (w64 (s4.2.1 + 1)), ()) h8
def ref22_without.l2 (l1 : Sl) (at_2 : Int) (Q : Sl → Heap → Prop) (go6 : (Sl × (Int × Unit)) → Heap → Prop) (s4 : (Sl × (Int × Unit))) (h5 : Heap) : Prop :=
    (((decide (s4.2.1 < (l1.len : Int))) = true →
    (((decide (s4.2.1 ≠ at_2)) = true →
    (0 ≤ s4.2.1 ∧ s4.2.1 < (l1.len : Int)) ∧
    deref l1.a fun a9 =>
    ld kref22Act h5 (a9.add ((s4.2.1 : Int).toNat * 6)) fun t10 =>
    new h5 (([t10] : List (Den kref22Act)).flatMap (Kd.cells kref22Act)) fun p11 h12 =>
    appendM 6 48 h12 s4.1 ⟨some p11, 1, 1⟩ fun t13 h14 =>
    ref22_without.j1 go6 s4 (t13, ()) h14) ∧
    ((decide (s4.2.1 ≠ at_2)) = false →
    ref22_without.j1 go6 s4 (s4.1, ()) h5))) ∧
    ((decide (s4.2.1 < (l1.len : Int))) = false →
    Q s4.1 h5))
def ref22_without.M  (l1 : Sl) (at_2 : Int) (h3 : Heap) (Q : Sl → Heap → Prop) : Prop :=
    Loop (ref22_without.l2 l1 at_2 Q) (⟨none, 0, 0⟩, 0, ()) h3
def ref22_without.mk : Mk := (.s .d (.s .d (.s (.s .d (.b (.l [.slot 5 .sl, .slot 6 (.int .i64)] (.s (.s .d (.c .d .d)) (.j [.slot 5 .sl] (.b (.s .d (.c .d .d))) .d))))) (.s .d .d))))

def explore_isScript.j1 (go15 : (Int × Unit) → Heap → Prop) (s13 : (Int × Unit)) (s16 : Unit) (h17 : Heap) : Prop :=
    go15 ((w64 (s13.1 + 1)), ()) h17
def explore_isScript.j2 (s4 : Sl) (go15 : (Int × Unit) → Heap → Prop) (s13 : (Int × Unit)) (t19 : Int) (s20 : Unit) (h21 : Heap) : Prop :=
    (0 ≤ t19 ∧ t19 < (s4.len : Int)) ∧
    deref s4.a fun a22 =>
    ld ((.int .i64) : Kd) h21 (a22.add ((t19 : Int).toNat * 1)) fun t23 =>
    (0 ≤ t19 ∧ t19 < (s4.len : Int)) ∧
    deref s4.a fun a24 =>
    st ((.int .i64) : Kd) h21 (a24.add ((t19 : Int).toNat * 1)) (w64 (t23 - 1)) fun h25 =>
    explore_isScript.j1 go15 s13 () h25
def explore_isScript.j3 (Q : Bool → Heap → Prop) (s4 : Sl) (go15 : (Int × Unit) → Heap → Prop) (s13 : (Int × Unit)) (t19 : Int) (s26 : (Bool × Unit)) (h27 : Heap) : Prop :=
    ((s26.1 = true →
    Q false h27) ∧
    (s26.1 = false →
    explore_isScript.j2 s4 go15 s13 t19 () h27))
def explore_isScript.l4 (c_slices_ContainsFunc_int_int : Sl → Value → Heap → (Bool → Heap → Prop) → Prop) (picks2 : Sl) (Q : Bool → Heap → Prop) (s4 : Sl) (go15 : (Int × Unit) → Heap → Prop) (s13 : (Int × Unit)) (h14 : Heap) : Prop :=
    (((decide (s13.1 < (picks2.len : Int))) = true →
    (0 ≤ s13.1 ∧ s13.1 < (picks2.len : Int)) ∧
    deref picks2.a fun a18 =>
    ld ((.int .i64) : Kd) h14 (a18.add ((s13.1 : Int).toNat * 1)) fun t19 =>
    (((decide (t19 < 0)) = true →
    explore_isScript.j3 Q s4 go15 s13 t19 (true, ()) h14) ∧
    ((decide (t19 < 0)) = false →
    (((decide ((s4.len : Int) ≤ t19)) = true →
    explore_isScript.j3 Q s4 go15 s13 t19 (true, ()) h14) ∧
    ((decide ((s4.len : Int) ≤ t19)) = false →
    (0 ≤ t19 ∧ t19 < (s4.len : Int)) ∧
    deref s4.a fun a28 =>
    ld ((.int .i64) : Kd) h14 (a28.add ((t19 : Int).toNat * 1)) fun t29 =>
    explore_isScript.j3 Q s4 go15 s13 t19 ((decide (t29 = 0)), ()) h14))))) ∧
    ((decide (s13.1 < (picks2.len : Int))) = false →
    c_slices_ContainsFunc_int_int s4 (Value.func (.func 82) #[] #[]) h14 fun r30 h31 =>
    Q (!r30) h31))
def explore_isScript.l5 (c_slices_ContainsFunc_int_int : Sl → Value → Heap → (Bool → Heap → Prop) → Prop) (s1 : Den kapiScene) (picks2 : Sl) (Q : Bool → Heap → Prop) (s4 : Sl) (go8 : (Int × Unit) → Heap → Prop) (s6 : (Int × Unit)) (h7 : Heap) : Prop :=
    (((decide (s6.1 < (s1.2.2.1.len : Int))) = true →
    (0 ≤ s6.1 ∧ s6.1 < (s1.2.2.1.len : Int)) ∧
    deref s1.2.2.1.a fun a9 =>
    ld (.sl : Kd) h7 (a9.add ((s6.1 : Int).toNat * 1)) fun t10 =>
    (0 ≤ s6.1 ∧ s6.1 < (s4.len : Int)) ∧
    deref s4.a fun a11 =>
    st ((.int .i64) : Kd) h7 (a11.add ((s6.1 : Int).toNat * 1)) (t10.len : Int) fun h12 =>
    go8 ((w64 (s6.1 + 1)), ()) h12) ∧
    ((decide (s6.1 < (s1.2.2.1.len : Int))) = false →
    Loop (explore_isScript.l4 c_slices_ContainsFunc_int_int picks2 Q s4) (0, ()) h7))
def explore_isScript.M (c_slices_ContainsFunc_int_int : Sl → Value → Heap → (Bool → Heap → Prop) → Prop) (s1 : Den kapiScene) (picks2 : Sl) (h3 : Heap) (Q : Bool → Heap → Prop) : Prop :=
    makeM ((.int .i64) : Kd) 8 h3 (s1.2.2.1.len : Int) (s1.2.2.1.len : Int) fun s4 h5 =>
    Loop (explore_isScript.l5 c_slices_ContainsFunc_int_int s1 picks2 Q s4) (0, ()) h5
def explore_isScript.mk : Mk := (.s (.r [0]) (.s .d (.s (.s .d (.b (.l [.slot 17 (.int .i64)] (.s .d (.s (.c .d .d) (.s (.b (.s .d .d)) .d)))))) (.s (.s .d (.b (.l [.slot 30 (.int .i64)] (.s .d (.s (.c .d .d) (.j [] (.b (.s .d (.j [] (.j [.slot 48 .bool] .d (.c (.s .d .d) .d)) .d))) .d)))))) (.s .d .d)))))

def ref22_Script.j1 (go8 : (Int × (((Fin 4 → Int) × Unit) × Unit)) → Heap → Prop) (s6 : (Int × (((Fin 4 → Int) × Unit) × Unit))) (s9 : (((Fin 4 → Int) × Unit) × Unit)) (h10 : Heap) : Prop :=
    go8 ((w64 (s6.1 + 1)), (s9.1.1, ()), ()) h10
def ref22_Script.j2 (go8 : (Int × (((Fin 4 → Int) × Unit) × Unit)) → Heap → Prop) (s6 : (Int × (((Fin 4 → Int) × Unit) × Unit))) (t12 : Int) (s13 : Unit) (h14 : Heap) : Prop :=
    (0 ≤ t12 ∧ t12 < (4 : Int)) ∧
    (0 ≤ t12 ∧ t12 < (4 : Int)) ∧
    ref22_Script.j1 go8 s6 (((aset (n := 4) (a := ((.int .i64) : Kd)) s6.2.1.1 (t12 : Int).toNat (w64 ((aget (n := 4) (a := ((.int .i64) : Kd)) s6.2.1.1 (t12 : Int).toNat) + 1))), ()), ()) h14
def ref22_Script.j3 (Q : Bool → Heap → Prop) (go8 : (Int × (((Fin 4 → Int) × Unit) × Unit)) → Heap → Prop) (s6 : (Int × (((Fin 4 → Int) × Unit) × Unit))) (t12 : Int) (s15 : (Bool × Unit)) (h16 : Heap) : Prop :=
    ((s15.1 = true →
    Q false h16) ∧
    (s15.1 = false →
    ref22_Script.j2 go8 s6 t12 () h16))
def ref22_Script.l4 (s1 : Den kapiScene) (Q : Bool → Heap → Prop) (s6 : (Int × (((Fin 4 → Int) × Unit) × Unit))) (go19 : (Int × Unit) → Heap → Prop) (s17 : (Int × Unit)) (h18 : Heap) : Prop :=
    (((decide (s17.1 < (s1.2.2.1.len : Int))) = true →
    (0 ≤ s17.1 ∧ s17.1 < (4 : Int)) ∧
    (0 ≤ s17.1 ∧ s17.1 < (s1.2.2.1.len : Int)) ∧
    deref s1.2.2.1.a fun a20 =>
    ld (.sl : Kd) h18 (a20.add ((s17.1 : Int).toNat * 1)) fun t21 =>
    (((decide ((aget (n := 4) (a := ((.int .i64) : Kd)) s6.2.1.1 (s17.1 : Int).toNat) ≠ (t21.len : Int))) = true →
    Q false h18) ∧
    ((decide ((aget (n := 4) (a := ((.int .i64) : Kd)) s6.2.1.1 (s17.1 : Int).toNat) ≠ (t21.len : Int))) = false →
    go19 ((w64 (s17.1 + 1)), ()) h18))) ∧
    ((decide (s17.1 < (s1.2.2.1.len : Int))) = false →
    Q true h18))
def ref22_Script.l5 (s1 : Den kapiScene) (picks2 : Sl) (Q : Bool → Heap → Prop) (go8 : (Int × (((Fin 4 → Int) × Unit) × Unit)) → Heap → Prop) (s6 : (Int × (((Fin 4 → Int) × Unit) × Unit))) (h7 : Heap) : Prop :=
    (((decide (s6.1 < (picks2.len : Int))) = true →
    (0 ≤ s6.1 ∧ s6.1 < (picks2.len : Int)) ∧
    deref picks2.a fun a11 =>
    ld ((.int .i64) : Kd) h7 (a11.add ((s6.1 : Int).toNat * 1)) fun t12 =>
    (((decide (t12 < 0)) = true →
    ref22_Script.j3 Q go8 s6 t12 (true, ()) h7) ∧
    ((decide (t12 < 0)) = false →
    ref22_Script.j3 Q go8 s6 t12 ((decide ((s1.2.2.1.len : Int) ≤ t12)), ()) h7))) ∧
    ((decide (s6.1 < (picks2.len : Int))) = false →
    Loop (ref22_Script.l4 s1 Q s6) (0, ()) h7))
def ref22_Script.M (c_ref22_acts : Den kapiScene → Heap → (Int → Heap → Prop) → Prop) (s1 : Den kapiScene) (picks2 : Sl) (h3 : Heap) (Q : Bool → Heap → Prop) : Prop :=
    c_ref22_acts (s1.1, (s1.2.1, (s1.2.2.1, ()))) h3 fun r4 h5 =>
    (((decide ((picks2.len : Int) ≠ r4)) = true →
    Q false h5) ∧
    ((decide ((picks2.len : Int) ≠ r4)) = false →
    Loop (ref22_Script.l5 s1 picks2 Q) (0, ((fun _ => 0), ()), ()) h5))
def ref22_Script.mk : Mk := (.s (.r [0]) (.s (.s .d (.c (.s .d .d) .d)) (.s (.r [0]) (.s (.s .d (.b (.l [.slot 6 (.int .i64), .box 5 (.pair (.arr 4 (.int .i64)) .nil)] (.s (.s .d (.c .d .d)) (.j [.box 5 (.pair (.arr 4 (.int .i64)) .nil)] (.b (.s .d (.j [] (.j [.slot 32 .bool] .d (.c (.s .d .d) .d)) .d))) .d))))) (.s (.s .d (.b (.l [.slot 8 (.int .i64)] (.s (.s .d (.c .d .d)) (.s (.b (.s (.q [] [] [.p 0, .p 1, .p 3, .p 5, .w 2 [2, 9], .w 4 [4, 6, 7, 8, 9], .p 6, .w 7 [7, 8, 9], .p 8, .p 9]) (.c (.s .d .d) .d))) .d))))) (.s .d .d))))))

def cells_New.M (c_cells_good : Int → Heap → (Bool → Heap → Prop) → Prop) (size1 : Int) (h2 : Heap) (Q : (Option Addr × (Int × Unit)) → Heap → Prop) : Prop :=
    c_cells_good size1 h2 fun r3 h4 =>
    (((!r3) = true →
    Q (none, 3, ()) h4) ∧
    ((!r3) = false →
    new h4 (kcellsArena.cells ((size1, (0, ())), (Sl.none, (Sl.none, (0, (false, ())))))) fun p5 h6 =>
    Q ((some p5), 0, ()) h6))
def cells_New.mk : Mk := (.s .d (.s (.s .d (.c (.s .d .d) .d)) (.s .d .d)))

def cells_Arena_Reserve.j1 (c_cells_ledger_refuse : Option Addr → Int → Heap → (Int → Heap → Prop) → Prop) (c_cells_ledger_take : Option Addr → Int → Heap → (Int → Heap → Prop) → Prop) (c_cells_Arena_note : Option Addr → Int → Int → Int → Int → Bool → Heap → (Unit → Heap → Prop) → Prop) (a1 : Option Addr) (n2 : Int) (Q : Den kcellsledger → Heap → Prop) (s4 : (Option Addr × Unit)) (h5 : Heap) : Prop :=
    c_cells_ledger_refuse s4.1 n2 h5 fun r6 h7 =>
    (((decide (r6 ≠ 0)) = true →
    Q (0, r6, ()) h7) ∧
    ((decide (r6 ≠ 0)) = false →
    c_cells_ledger_take s4.1 n2 h7 fun r8 h9 =>
    deref a1 fun a10 =>
    ld (.sl : Kd) h9 (a10.add 2) fun t11 =>
    appendZM ((.int .i64) : Kd) 8 h9 t11 n2 fun t12 h13 =>
    deref a1 fun a14 =>
    st (.sl : Kd) h13 (a14.add 2) t12 fun h15 =>
    c_cells_Arena_note a1 4 r8 n2 0 true h15 fun r16 h17 =>
    Q (r8, 0, ()) h17))
def cells_Arena_Reserve.M (c_cells_ledger_refuse : Option Addr → Int → Heap → (Int → Heap → Prop) → Prop) (c_cells_ledger_take : Option Addr → Int → Heap → (Int → Heap → Prop) → Prop) (c_cells_Arena_note : Option Addr → Int → Int → Int → Int → Bool → Heap → (Unit → Heap → Prop) → Prop) (a1 : Option Addr) (n2 : Int) (h3 : Heap) (Q : Den kcellsledger → Heap → Prop) : Prop :=
    (((Option.isSome a1) = true →
    deref a1 fun a18 =>
    cells_Arena_Reserve.j1 c_cells_ledger_refuse c_cells_ledger_take c_cells_Arena_note a1 n2 Q ((some (a18.add 0)), ()) h3) ∧
    ((Option.isSome a1) = false →
    cells_Arena_Reserve.j1 c_cells_ledger_refuse c_cells_ledger_take c_cells_Arena_note a1 n2 Q (none, ()) h3))
def cells_Arena_Reserve.mk : Mk := (.s .d (.s .d (.j [.slot 6 .ptr] (.s .d (.c .d .d)) (.s (.s .d (.s .d (.c (.s .d .d) .d))) (.s .d (.s .d (.s .d (.s .d .d))))))))

def cells_Arena_Store.M (c_cells_Arena_outside : Option Addr → Int → Heap → (Bool → Heap → Prop) → Prop) (c_cells_Arena_note : Option Addr → Int → Int → Int → Int → Bool → Heap → (Unit → Heap → Prop) → Prop) (a1 : Option Addr) (addr2 : Int) (v3 : Int) (h4 : Heap) (Q : Int → Heap → Prop) : Prop :=
    c_cells_Arena_outside a1 addr2 h4 fun r5 h6 =>
    ((r5 = true →
    Q 20 h6) ∧
    (r5 = false →
    deref a1 fun a7 =>
    ld (.sl : Kd) h6 (a7.add 2) fun t8 =>
    (0 ≤ addr2 ∧ addr2 < (t8.len : Int)) ∧
    deref t8.a fun a9 =>
    st ((.int .i64) : Kd) h6 (a9.add ((addr2 : Int).toNat * 1)) v3 fun h10 =>
    c_cells_Arena_note a1 1 addr2 v3 0 true h10 fun r11 h12 =>
    Q 0 h12))
def cells_Arena_Store.mk : Mk := (.s .d (.s (.s .d (.c (.s .d .d) .d)) (.s .d (.s .d (.s .d .d)))))

def explore_act.j1 (Q : Den kapiEffect → Heap → Prop) (s4 : (Den kapiEffect × Unit)) (h5 : Heap) : Prop :=
    Q (s4.1.1, ((decide (s4.1.2.2.1 = 0)), (s4.1.2.2.1, ()))) h5
def explore_act.M (c_cells_Arena_Load : Option Addr → Int → Heap → (Den kcellsledger → Heap → Prop) → Prop) (c_cells_Arena_Store : Option Addr → Int → Int → Heap → (Int → Heap → Prop) → Prop) (c_cells_Arena_CAS : Option Addr → Int → Int → Int → Heap → ((Bool × (Int × Unit)) → Heap → Prop) → Prop) (c_cells_Arena_Add : Option Addr → Int → Int → Heap → (Den kcellsledger → Heap → Prop) → Prop) (c_cells_Arena_Reserve : Option Addr → Int → Heap → (Den kcellsledger → Heap → Prop) → Prop) (a1 : Option Addr) (x2 : Den kapiAct) (h3 : Heap) (Q : Den kapiEffect → Heap → Prop) : Prop :=
    (((decide (x2.2.1 = 0)) = true →
    c_cells_Arena_Load a1 x2.2.2.1 h3 fun r6 h7 =>
    explore_act.j1 Q ((r6.1, (false, (r6.2.1, ()))), ()) h7) ∧
    ((decide (x2.2.1 = 0)) = false →
    (((decide (x2.2.1 = 1)) = true →
    c_cells_Arena_Store a1 x2.2.2.1 x2.2.2.2.1 h3 fun r8 h9 =>
    explore_act.j1 Q ((0, (false, (r8, ()))), ()) h9) ∧
    ((decide (x2.2.1 = 1)) = false →
    (((decide (x2.2.1 = 2)) = true →
    c_cells_Arena_CAS a1 x2.2.2.1 x2.2.2.2.1 x2.2.2.2.2.1 h3 fun r10 h11 =>
    Q (0, (r10.1, (r10.2.1, ()))) h11) ∧
    ((decide (x2.2.1 = 2)) = false →
    (((decide (x2.2.1 = 3)) = true →
    c_cells_Arena_Add a1 x2.2.2.1 x2.2.2.2.1 h3 fun r12 h13 =>
    explore_act.j1 Q ((r12.1, (false, (r12.2.1, ()))), ()) h13) ∧
    ((decide (x2.2.1 = 3)) = false →
    c_cells_Arena_Reserve a1 x2.2.2.2.1 h3 fun r14 h15 =>
    explore_act.j1 Q ((r14.1, (false, (r14.2.1, ()))), ()) h15))))))))
def explore_act.mk : Mk := (.s (.r [0, 1]) (.j [.box 4 kapiEffect] (.s .d (.b (.s .d (.c .d (.s .d (.c .d (.s .d (.c (.s .d (.s .d .d)) (.s .d (.c .d (.s .d .d))))))))))) (.s .d (.s .d .d))))

def cells_Arena_Cells.M  (a1 : Option Addr) (h2 : Heap) (Q : Sl → Heap → Prop) : Prop :=
    (((Option.isNone a1) = true →
    Q ⟨none, 0, 0⟩ h2) ∧
    ((Option.isNone a1) = false →
    deref a1 fun a3 =>
    ld (.sl : Kd) h2 (a3.add 2) fun t4 =>
    makeM ((.int .i64) : Kd) 8 h2 (t4.len : Int) (t4.len : Int) fun s5 h6 =>
    deref a1 fun a7 =>
    ld (.sl : Kd) h6 (a7.add 2) fun t8 =>
    copyM 1 h6 s5 t8 fun n9 h10 =>
    Q s5 h10))
def cells_Arena_Cells.mk : Mk := (.s .d (.s (.s .d (.c (.s .d .d) .d)) (.s .d (.s .d (.s .d .d)))))

def ref22_do.l1 (cells2 : Sl) (x3 : Den kapiAct) (Q : (Den kapiEffect × (Sl × Unit)) → Heap → Prop) (go7 : (Sl × (Int × Unit)) → Heap → Prop) (s5 : (Sl × (Int × Unit))) (h6 : Heap) : Prop :=
    (((decide (s5.2.1 < x3.2.2.2.1)) = true →
    new h6 (([0] : List (Den ((.int .i64) : Kd))).flatMap (Kd.cells ((.int .i64) : Kd))) fun p8 h9 =>
    appendM 1 8 h9 s5.1 ⟨some p8, 1, 1⟩ fun t10 h11 =>
    go7 (t10, (w64 (s5.2.1 + 1)), ()) h11) ∧
    ((decide (s5.2.1 < x3.2.2.2.1)) = false →
    Q (((cells2.len : Int), (true, (0, ()))), s5.1, ()) h6))
def ref22_do.j2 (cells2 : Sl) (Q : (Den kapiEffect × (Sl × Unit)) → Heap → Prop) (s14 : (Den kapiEffect × Unit)) (h15 : Heap) : Prop :=
    Q ((s14.1.1, (s14.1.2.1, (s14.1.2.2.1, ()))), cells2, ()) h15
def ref22_do.j3 (cells2 : Sl) (x3 : Den kapiAct) (Q : (Den kapiEffect × (Sl × Unit)) → Heap → Prop) (s12 : (Den kapiEffect × Unit)) (h13 : Heap) : Prop :=
    (((decide (x3.2.1 = 0)) = true →
    (0 ≤ x3.2.2.1 ∧ x3.2.2.1 < (cells2.len : Int)) ∧
    deref cells2.a fun a16 =>
    ld ((.int .i64) : Kd) h13 (a16.add ((x3.2.2.1 : Int).toNat * 1)) fun t17 =>
    ref22_do.j2 cells2 Q ((t17, (true, (0, ()))), ()) h13) ∧
    ((decide (x3.2.1 = 0)) = false →
    (((decide (x3.2.1 = 1)) = true →
    (0 ≤ x3.2.2.1 ∧ x3.2.2.1 < (cells2.len : Int)) ∧
    deref cells2.a fun a18 =>
    st ((.int .i64) : Kd) h13 (a18.add ((x3.2.2.1 : Int).toNat * 1)) x3.2.2.2.1 fun h19 =>
    ref22_do.j2 cells2 Q ((0, (true, (0, ()))), ()) h19) ∧
    ((decide (x3.2.1 = 1)) = false →
    (((decide (x3.2.1 = 2)) = true →
    (0 ≤ x3.2.2.1 ∧ x3.2.2.1 < (cells2.len : Int)) ∧
    deref cells2.a fun a20 =>
    ld ((.int .i64) : Kd) h13 (a20.add ((x3.2.2.1 : Int).toNat * 1)) fun t21 =>
    (((decide (t21 = x3.2.2.2.1)) = true →
    (0 ≤ x3.2.2.1 ∧ x3.2.2.1 < (cells2.len : Int)) ∧
    deref cells2.a fun a22 =>
    st ((.int .i64) : Kd) h13 (a22.add ((x3.2.2.1 : Int).toNat * 1)) x3.2.2.2.2.1 fun h23 =>
    ref22_do.j2 cells2 Q ((0, ((decide (t21 = x3.2.2.2.1)), (0, ()))), ()) h23) ∧
    ((decide (t21 = x3.2.2.2.1)) = false →
    ref22_do.j2 cells2 Q ((0, ((decide (t21 = x3.2.2.2.1)), (0, ()))), ()) h13))) ∧
    ((decide (x3.2.1 = 2)) = false →
    (((decide (x3.2.1 = 3)) = true →
    (0 ≤ x3.2.2.1 ∧ x3.2.2.1 < (cells2.len : Int)) ∧
    deref cells2.a fun a24 =>
    ld ((.int .i64) : Kd) h13 (a24.add ((x3.2.2.1 : Int).toNat * 1)) fun t25 =>
    (0 ≤ x3.2.2.1 ∧ x3.2.2.1 < (cells2.len : Int)) ∧
    deref cells2.a fun a26 =>
    st ((.int .i64) : Kd) h13 (a26.add ((x3.2.2.1 : Int).toNat * 1)) (w64 (t25 + x3.2.2.2.1)) fun h27 =>
    (0 ≤ x3.2.2.1 ∧ x3.2.2.1 < (cells2.len : Int)) ∧
    deref cells2.a fun a28 =>
    ld ((.int .i64) : Kd) h27 (a28.add ((x3.2.2.1 : Int).toNat * 1)) fun t29 =>
    ref22_do.j2 cells2 Q ((t29, (true, (0, ()))), ()) h27) ∧
    ((decide (x3.2.1 = 3)) = false →
    ref22_do.j2 cells2 Q ((0, (true, (0, ()))), ()) h13))))))))
def ref22_do.j4 (cells2 : Sl) (x3 : Den kapiAct) (Q : (Den kapiEffect × (Sl × Unit)) → Heap → Prop) (s30 : (Bool × Unit)) (h31 : Heap) : Prop :=
    ((s30.1 = true →
    Q ((0, (false, (20, ()))), cells2, ()) h31) ∧
    (s30.1 = false →
    ref22_do.j3 cells2 x3 Q ((0, (false, (0, ()))), ()) h31))
def ref22_do.M  (s1 : Den kapiScene) (cells2 : Sl) (x3 : Den kapiAct) (h4 : Heap) (Q : (Den kapiEffect × (Sl × Unit)) → Heap → Prop) : Prop :=
    (((decide (x3.2.1 = 4)) = true →
    (((decide (x3.2.2.2.1 < 1)) = true →
    Q ((0, (false, (21, ()))), cells2, ()) h4) ∧
    ((decide (x3.2.2.2.1 < 1)) = false →
    (((decide ((w64 (s1.1 - (cells2.len : Int))) < x3.2.2.2.1)) = true →
    Q ((0, (false, (22, ()))), cells2, ()) h4) ∧
    ((decide ((w64 (s1.1 - (cells2.len : Int))) < x3.2.2.2.1)) = false →
    Loop (ref22_do.l1 cells2 x3 Q) (cells2, 0, ()) h4))))) ∧
    ((decide (x3.2.1 = 4)) = false →
    (((decide (x3.2.2.1 < 0)) = true →
    ref22_do.j4 cells2 x3 Q (true, ()) h4) ∧
    ((decide (x3.2.2.1 < 0)) = false →
    ref22_do.j4 cells2 x3 Q ((decide ((cells2.len : Int) ≤ x3.2.2.1)), ()) h4))))
def ref22_do.mk : Mk := (.s (.r [0, 1, 2]) (.s (.s .d (.c (.s (.s .d (.c (.s .d .d) .d)) (.s .d (.s (.s .d (.c (.s .d .d) .d)) (.s (.s .d (.b (.l [.slot 1 .sl, .slot 9 (.int .i64)] (.s (.s .d (.c .d .d)) (.s (.b .d) .d))))) (.s .d .d))))) .d)) (.j [.box 6 kapiEffect] (.j [.slot 51 .bool] .d (.c (.s .d .d) .d)) (.s (.r [1]) (.j [.box 10 kapiEffect] (.s .d (.b (.s .d (.c .d (.s .d (.c .d (.s .d (.c (.s (.q [] [10] [.p 0, .p 1, .p 5, .w 2 [2, 3, 4, 7, 8, 9], .p 3, .w 4 [4, 7, 8, 9], .w 6 [6, 7, 8, 9], .p 7, .p 8, .o 9]) (.s .d (.c .d .d))) (.s .d (.c (.s (.q [] [] [.p 0, .p 1, .p 3, .p 4, .p 8, .w 2 [2, 11, 12], .w 5 [5, 6, 7, 10, 11, 12], .p 6, .w 7 [7, 10, 11, 12], .w 9 [9, 10, 11, 12], .p 10, .p 11, .o 12]) .d) .d)))))))))) (.s .d .d))))))

def cmp_Compare_int.M (c_cmp_isNaN_int : Int → Heap → (Bool → Heap → Prop) → Prop) (x1 : Int) (y2 : Int) (h3 : Heap) (Q : Int → Heap → Prop) : Prop :=
    c_cmp_isNaN_int x1 h3 fun r4 h5 =>
    c_cmp_isNaN_int y2 h5 fun r6 h7 =>
    ((r4 = true →
    ((r6 = true →
    Q 0 h7) ∧
    (r6 = false →
    Q (-1) h7))) ∧
    (r4 = false →
    ((r6 = true →
    Q 1 h7) ∧
    (r6 = false →
    (((decide (x1 < y2)) = true →
    Q (-1) h7) ∧
    ((decide (x1 < y2)) = false →
    (((decide (y2 < x1)) = true →
    Q 1 h7) ∧
    ((decide (y2 < x1)) = false →
    Q 0 h7))))))))
def cmp_Compare_int.mk : Mk := (.s .d (.s .d (.s .d (.s (.s .d (.c (.s (.s .d (.c (.s .d .d) .d)) (.s .d .d)) .d)) (.s (.s .d (.c (.s .d .d) .d)) (.s (.s .d (.c (.s .d .d) .d)) (.s (.s .d (.c (.s .d .d) .d)) (.s .d .d))))))))

def slices_Compare_int64_int64.l1 (c_cmp_Compare_int64 : Int → Int → Heap → (Int → Heap → Prop) → Prop) (s11 : Sl) (s22 : Sl) (Q : Int → Heap → Prop) (go6 : (Int × Unit) → Heap → Prop) (s4 : (Int × Unit)) (h5 : Heap) : Prop :=
    (((decide (s4.1 < (s11.len : Int))) = true →
    (0 ≤ s4.1 ∧ s4.1 < (s11.len : Int)) ∧
    deref s11.a fun a7 =>
    ld ((.int .i64) : Kd) h5 (a7.add ((s4.1 : Int).toNat * 1)) fun t8 =>
    (((decide ((s22.len : Int) ≤ s4.1)) = true →
    Q 1 h5) ∧
    ((decide ((s22.len : Int) ≤ s4.1)) = false →
    (0 ≤ s4.1 ∧ s4.1 < (s22.len : Int)) ∧
    deref s22.a fun a9 =>
    ld ((.int .i64) : Kd) h5 (a9.add ((s4.1 : Int).toNat * 1)) fun t10 =>
    c_cmp_Compare_int64 t8 t10 h5 fun r11 h12 =>
    (((decide (r11 ≠ 0)) = true →
    Q r11 h12) ∧
    ((decide (r11 ≠ 0)) = false →
    go6 ((w64 (s4.1 + 1)), ()) h12))))) ∧
    ((decide (s4.1 < (s11.len : Int))) = false →
    (((decide ((s11.len : Int) < (s22.len : Int))) = true →
    Q (-1) h5) ∧
    ((decide ((s11.len : Int) < (s22.len : Int))) = false →
    Q 0 h5))))
def slices_Compare_int64_int64.M (c_cmp_Compare_int64 : Int → Int → Heap → (Int → Heap → Prop) → Prop) (s11 : Sl) (s22 : Sl) (h3 : Heap) (Q : Int → Heap → Prop) : Prop :=
    Loop (slices_Compare_int64_int64.l1 c_cmp_Compare_int64 s11 s22 Q) (0, ()) h3
def slices_Compare_int64_int64.mk : Mk := (.s .d (.s (.s .d (.b (.l [.slot 11 (.int .i64)] (.s .d (.s (.c .d .d) (.s (.b (.s .d (.s (.s .d (.c (.s .d .d) .d)) (.s .d (.s .d (.s .d (.c (.s .d .d) .d))))))) .d)))))) (.s (.s .d (.c (.s .d .d) .d)) (.s .d .d))))

def slices_rotateRight_int64.M (c_slices_rotateLeft_int64 : Sl → Int → Heap → (Unit → Heap → Prop) → Prop) (s1 : Sl) (r2 : Int) (h3 : Heap) (Q : Unit → Heap → Prop) : Prop :=
    c_slices_rotateLeft_int64 s1 (w64 ((s1.len : Int) - r2)) h3 fun r4 h5 =>
    Q () h5
def slices_rotateRight_int64.mk : Mk := .d

def ref22_below.l1 (a1 : Sl) (b2 : Sl) (Q : Int → Heap → Prop) (go6 : (Int × Unit) → Heap → Prop) (s4 : (Int × Unit)) (h5 : Heap) : Prop :=
    (((decide (s4.1 < (a1.len : Int))) = true →
    (0 ≤ s4.1 ∧ s4.1 < (a1.len : Int)) ∧
    deref a1.a fun a7 =>
    (0 ≤ s4.1 ∧ s4.1 < (b2.len : Int)) ∧
    deref b2.a fun a8 =>
    ld ((.int .i64) : Kd) h5 (a7.add ((s4.1 : Int).toNat * 1)) fun t9 =>
    ld ((.int .i64) : Kd) h5 (a8.add ((s4.1 : Int).toNat * 1)) fun t10 =>
    (((decide (t9 < t10)) = true →
    Q (-1) h5) ∧
    ((decide (t9 < t10)) = false →
    (0 ≤ s4.1 ∧ s4.1 < (a1.len : Int)) ∧
    deref a1.a fun a11 =>
    (0 ≤ s4.1 ∧ s4.1 < (b2.len : Int)) ∧
    deref b2.a fun a12 =>
    ld ((.int .i64) : Kd) h5 (a11.add ((s4.1 : Int).toNat * 1)) fun t13 =>
    ld ((.int .i64) : Kd) h5 (a12.add ((s4.1 : Int).toNat * 1)) fun t14 =>
    (((decide (t14 < t13)) = true →
    Q 1 h5) ∧
    ((decide (t14 < t13)) = false →
    go6 ((w64 (s4.1 + 1)), ()) h5))))) ∧
    ((decide (s4.1 < (a1.len : Int))) = false →
    Q 0 h5))
def ref22_below.M  (a1 : Sl) (b2 : Sl) (h3 : Heap) (Q : Int → Heap → Prop) : Prop :=
    (((decide ((a1.len : Int) ≠ (b2.len : Int))) = true →
    (((decide ((a1.len : Int) < (b2.len : Int))) = true →
    Q (-1) h3) ∧
    ((decide ((a1.len : Int) < (b2.len : Int))) = false →
    Q 1 h3))) ∧
    ((decide ((a1.len : Int) ≠ (b2.len : Int))) = false →
    Loop (ref22_below.l1 a1 b2 Q) (0, ()) h3))
def ref22_below.mk : Mk := (.s .d (.s (.s .d (.c (.s (.s .d (.c (.s .d .d) .d)) (.s .d .d)) .d)) (.s (.s .d (.b (.l [.slot 5 (.int .i64)] (.s (.s .d (.c .d .d)) (.s (.b (.s (.s (.q [] [] [.p 0, .p 1, .p 2, .p 4, .p 5, .p 6, .w 3 [3, 8], .w 7 [7, 8], .p 8]) (.c (.s .d .d) .d)) (.s (.q [] [] [.p 0, .p 1, .p 2, .p 4, .p 5, .p 6, .w 3 [3, 8], .w 7 [7, 8], .p 8]) (.c (.s .d .d) .d)))) .d))))) (.s .d .d))))

def maps_Clone_map_int_int_int_int.M (c_maps_clone : Value → Heap → (Value → Heap → Prop) → Prop) (m1 : Option Nat) (h2 : Heap) (Q : Option Nat → Heap → Prop) : Prop :=
    (((Option.isNone m1) = true →
    Q none h2) ∧
    ((Option.isNone m1) = false →
    c_maps_clone (Value.iface 98 (Kd.val (.map : Kd) m1)) h2 fun r3 h4 =>
    ∃ m5, r3 = Value.iface 98 (Value.map m5) ∧
    Q m5 h4))
def maps_Clone_map_int_int_int_int.mk : Mk := (.s .d (.s (.s .d (.c (.s .d .d) .d)) (.s .d .d)))

def explore_walk_act.M  (w1 : Option Addr) (who2 : Int) (h3 : Heap) (Q : Den kapiAct → Heap → Prop) : Prop :=
    deref w1 fun a4 =>
    deref w1 fun a5 =>
    ld (.sl : Kd) h3 ((a4.add 0).add 2) fun t6 =>
    (0 ≤ who2 ∧ who2 < (t6.len : Int)) ∧
    deref t6.a fun a7 =>
    ld (.sl : Kd) h3 (a7.add ((who2 : Int).toNat * 1)) fun t8 =>
    ld (.sl : Kd) h3 (a5.add 3) fun t9 =>
    (0 ≤ who2 ∧ who2 < (t9.len : Int)) ∧
    deref t9.a fun a10 =>
    ld ((.int .i64) : Kd) h3 (a10.add ((who2 : Int).toNat * 1)) fun t11 =>
    (0 ≤ t11 ∧ t11 < (t8.len : Int)) ∧
    deref t8.a fun a12 =>
    ld kapiAct h3 (a12.add ((t11 : Int).toNat * 5)) fun t13 =>
    Q (t13.1, (t13.2.1, (t13.2.2.1, (t13.2.2.2.1, (t13.2.2.2.2.1, ()))))) h3
def explore_walk_act.mk : Mk := (.s (.r [0]) (.s (.q [] [4] [.p 0, .p 1, .p 2, .p 3, .p 5, .p 8, .p 9, .p 10, .p 12, .w 4 [4, 6, 7, 15, 16, 17], .p 6, .w 7 [7, 15, 16, 17], .w 11 [11, 13, 14, 15, 16, 17], .p 13, .w 14 [14, 15, 16, 17], .p 15, .w 16 [16, 17], .o 17]) .d))

def slices_Clone_int_int.M  (s1 : Sl) (h2 : Heap) (Q : Sl → Heap → Prop) : Prop :=
    ((s1.a.isNone = true →
    Q ⟨none, 0, 0⟩ h2) ∧
    (s1.a.isNone = false →
    new h2 (([] : List (Den ((.int .i64) : Kd))).flatMap (Kd.cells ((.int .i64) : Kd))) fun p3 h4 =>
    appendM 1 8 h4 ⟨some p3, 0, 0⟩ s1 fun t5 h6 =>
    Q t5 h6))
def slices_Clone_int_int.mk : Mk := (.s .d (.s (.s .d (.c (.s .d .d) .d)) (.s .d .d)))

def ref22_bound.M (c_ref22_Depends : Den kapiScene → Den kapiAct → Den kapiAct → Heap → (Bool → Heap → Prop) → Prop) (s1 : Den kapiScene) (a2 : Den kref22Act) (b3 : Den kref22Act) (h4 : Heap) (Q : Bool → Heap → Prop) : Prop :=
    (((decide (a2.1 = b3.1)) = true →
    Q true h4) ∧
    ((decide (a2.1 = b3.1)) = false →
    c_ref22_Depends (s1.1, (s1.2.1, (s1.2.2.1, ()))) (a2.2.1.1, (a2.2.1.2.1, (a2.2.1.2.2.1, (a2.2.1.2.2.2.1, (a2.2.1.2.2.2.2.1, ()))))) (b3.2.1.1, (b3.2.1.2.1, (b3.2.1.2.2.1, (b3.2.1.2.2.2.1, (b3.2.1.2.2.2.2.1, ()))))) h4 fun r5 h6 =>
    Q r5 h6))
def ref22_bound.mk : Mk := (.s (.r [0, 1, 2]) (.s .d .d))

def slices_ContainsFunc_int_int.M (c_slices_IndexFunc_int_int : Sl → Value → Heap → (Int → Heap → Prop) → Prop) (s1 : Sl) (f2 : Value) (h3 : Heap) (Q : Bool → Heap → Prop) : Prop :=
    c_slices_IndexFunc_int_int s1 f2 h3 fun r4 h5 =>
    Q (decide ((0 : Int) ≤ r4)) h5
def slices_ContainsFunc_int_int.mk : Mk := (.s .d (.s .d .d))

def explore_isScript_1.M  (n1 : Int) (h2 : Heap) (Q : Bool → Heap → Prop) : Prop :=
    Q (decide ((0 : Int) < n1)) h2
def explore_isScript_1.mk : Mk := (.s .d (.s .d .d))

def cells_good.M  (size1 : Int) (h2 : Heap) (Q : Bool → Heap → Prop) : Prop :=
    (((decide ((0 : Int) ≤ size1)) = true →
    Q (decide (size1 ≤ 1048576)) h2) ∧
    ((decide ((0 : Int) ≤ size1)) = false →
    Q false h2))
def cells_good.mk : Mk := (.s .d (.s .d .d))

def cells_ledger_refuse.j1 (Q : Int → Heap → Prop) (s4 : Unit) (h5 : Heap) : Prop :=
    Q 0 h5
def cells_ledger_refuse.j2 (Q : Int → Heap → Prop) (s6 : (Bool × Unit)) (h7 : Heap) : Prop :=
    ((s6.1 = true →
    Q 22 h7) ∧
    (s6.1 = false →
    cells_ledger_refuse.j1 Q () h7))
def cells_ledger_refuse.M  (l1 : Option Addr) (n2 : Int) (h3 : Heap) (Q : Int → Heap → Prop) : Prop :=
    (((decide (n2 < 1)) = true →
    Q 21 h3) ∧
    ((decide (n2 < 1)) = false →
    (((Option.isNone l1) = true →
    cells_ledger_refuse.j2 Q (true, ()) h3) ∧
    ((Option.isNone l1) = false →
    deref l1 fun a8 =>
    deref l1 fun a9 =>
    ld ((.int .i64) : Kd) h3 (a8.add 0) fun t10 =>
    ld ((.int .i64) : Kd) h3 (a9.add 1) fun t11 =>
    cells_ledger_refuse.j2 Q ((decide ((w64 (t10 - t11)) < n2)), ()) h3))))
def cells_ledger_refuse.mk : Mk := (.s .d (.s (.s .d (.c (.s .d .d) .d)) (.j [] (.j [.slot 21 .bool] (.q [] [] [.p 0, .p 1, .p 2, .p 3, .p 4, .p 5, .p 6, .p 8, .p 9, .p 10, .w 7 [7, 12, 13, 14], .w 11 [11, 12, 13, 14], .p 12, .p 13, .p 14]) (.c (.s .d .d) .d)) (.s .d .d))))

def cells_ledger_take.M  (l1 : Option Addr) (n2 : Int) (h3 : Heap) (Q : Int → Heap → Prop) : Prop :=
    deref l1 fun a4 =>
    ld ((.int .i64) : Kd) h3 (a4.add 1) fun t5 =>
    deref l1 fun a6 =>
    ld ((.int .i64) : Kd) h3 (a6.add 1) fun t7 =>
    deref l1 fun a8 =>
    st ((.int .i64) : Kd) h3 (a8.add 1) (w64 (t7 + n2)) fun h9 =>
    Q t5 h9
def cells_ledger_take.mk : Mk := (.s .d (.s .d (.s .d (.s .d .d))))

def cells_Arena_note.M  (a1 : Option Addr) (kind2 : Int) (addr3 : Int) (x4 : Int) (y5 : Int) (ok6 : Bool) (h7 : Heap) (Q : Unit → Heap → Prop) : Prop :=
    deref a1 fun a8 =>
    ld (.bool : Kd) h7 (a8.add 5) fun t9 =>
    ((t9 = true →
    deref a1 fun a10 =>
    deref a1 fun a11 =>
    ld (.sl : Kd) h7 (a10.add 3) fun t12 =>
    ld ((.int .i64) : Kd) h7 (a11.add 4) fun t13 =>
    new h7 (([(t13, (kind2, (addr3, (x4, (y5, (ok6, ()))))))] : List (Den kapiAccess)).flatMap (Kd.cells kapiAccess)) fun p14 h15 =>
    appendM 6 48 h15 t12 ⟨some p14, 1, 1⟩ fun t16 h17 =>
    deref a1 fun a18 =>
    st (.sl : Kd) h17 (a18.add 3) t16 fun h19 =>
    Q () h19) ∧
    (t9 = false →
    Q () h7))
def cells_Arena_note.mk : Mk := (.s .d (.c (.q [] [] [.p 0, .p 1, .p 2, .p 3, .p 5, .p 6, .p 7, .p 9, .p 10, .p 11, .p 12, .p 13, .w 4 [4, 16, 17, 18, 19], .w 8 [8, 14, 15, 16, 17, 18, 19], .p 14, .o 15, .o 16, .p 17, .p 18, .o 19]) .d))

def cells_Arena_outside.M (c_cells_ledger_has : Option Addr → Int → Heap → (Bool → Heap → Prop) → Prop) (a1 : Option Addr) (addr2 : Int) (h3 : Heap) (Q : Bool → Heap → Prop) : Prop :=
    (((Option.isNone a1) = true →
    Q true h3) ∧
    ((Option.isNone a1) = false →
    deref a1 fun a4 =>
    c_cells_ledger_has (some (a4.add 0)) addr2 h3 fun r5 h6 =>
    Q (!r5) h6))
def cells_Arena_outside.mk : Mk := (.s .d (.s .d .d))

def cells_Arena_Load.M (c_cells_Arena_outside : Option Addr → Int → Heap → (Bool → Heap → Prop) → Prop) (c_cells_Arena_note : Option Addr → Int → Int → Int → Int → Bool → Heap → (Unit → Heap → Prop) → Prop) (a1 : Option Addr) (addr2 : Int) (h3 : Heap) (Q : Den kcellsledger → Heap → Prop) : Prop :=
    c_cells_Arena_outside a1 addr2 h3 fun r4 h5 =>
    ((r4 = true →
    Q (0, 20, ()) h5) ∧
    (r4 = false →
    deref a1 fun a6 =>
    ld (.sl : Kd) h5 (a6.add 2) fun t7 =>
    (0 ≤ addr2 ∧ addr2 < (t7.len : Int)) ∧
    deref t7.a fun a8 =>
    ld ((.int .i64) : Kd) h5 (a8.add ((addr2 : Int).toNat * 1)) fun t9 =>
    c_cells_Arena_note a1 0 addr2 t9 0 true h5 fun r10 h11 =>
    Q (t9, 0, ()) h11))
def cells_Arena_Load.mk : Mk := (.s .d (.s (.s .d (.c (.s .d .d) .d)) (.s .d (.s .d (.s .d .d)))))

def cells_Arena_CAS.j1 (c_cells_Arena_note : Option Addr → Int → Int → Int → Int → Bool → Heap → (Unit → Heap → Prop) → Prop) (a1 : Option Addr) (addr2 : Int) (old3 : Int) (next4 : Int) (Q : (Bool × (Int × Unit)) → Heap → Prop) (t11 : Int) (s12 : Unit) (h13 : Heap) : Prop :=
    c_cells_Arena_note a1 2 addr2 old3 next4 (decide (t11 = old3)) h13 fun r14 h15 =>
    Q ((decide (t11 = old3)), 0, ()) h15
def cells_Arena_CAS.M (c_cells_Arena_outside : Option Addr → Int → Heap → (Bool → Heap → Prop) → Prop) (c_cells_Arena_note : Option Addr → Int → Int → Int → Int → Bool → Heap → (Unit → Heap → Prop) → Prop) (a1 : Option Addr) (addr2 : Int) (old3 : Int) (next4 : Int) (h5 : Heap) (Q : (Bool × (Int × Unit)) → Heap → Prop) : Prop :=
    c_cells_Arena_outside a1 addr2 h5 fun r6 h7 =>
    ((r6 = true →
    Q (false, 20, ()) h7) ∧
    (r6 = false →
    deref a1 fun a8 =>
    ld (.sl : Kd) h7 (a8.add 2) fun t9 =>
    (0 ≤ addr2 ∧ addr2 < (t9.len : Int)) ∧
    deref t9.a fun a10 =>
    ld ((.int .i64) : Kd) h7 (a10.add ((addr2 : Int).toNat * 1)) fun t11 =>
    (((decide (t11 = old3)) = true →
    deref a1 fun a16 =>
    ld (.sl : Kd) h7 (a16.add 2) fun t17 =>
    (0 ≤ addr2 ∧ addr2 < (t17.len : Int)) ∧
    deref t17.a fun a18 =>
    st ((.int .i64) : Kd) h7 (a18.add ((addr2 : Int).toNat * 1)) next4 fun h19 =>
    cells_Arena_CAS.j1 c_cells_Arena_note a1 addr2 old3 next4 Q t11 () h19) ∧
    ((decide (t11 = old3)) = false →
    cells_Arena_CAS.j1 c_cells_Arena_note a1 addr2 old3 next4 Q t11 () h7))))
def cells_Arena_CAS.mk : Mk := (.s .d (.s (.s .d (.c (.s .d .d) .d)) (.s .d (.j [] (.s .d (.c .d .d)) (.s .d (.s .d .d))))))

def cells_Arena_Add.M (c_cells_Arena_outside : Option Addr → Int → Heap → (Bool → Heap → Prop) → Prop) (c_cells_Arena_note : Option Addr → Int → Int → Int → Int → Bool → Heap → (Unit → Heap → Prop) → Prop) (a1 : Option Addr) (addr2 : Int) (d3 : Int) (h4 : Heap) (Q : Den kcellsledger → Heap → Prop) : Prop :=
    c_cells_Arena_outside a1 addr2 h4 fun r5 h6 =>
    ((r5 = true →
    Q (0, 20, ()) h6) ∧
    (r5 = false →
    deref a1 fun a7 =>
    ld (.sl : Kd) h6 (a7.add 2) fun t8 =>
    (0 ≤ addr2 ∧ addr2 < (t8.len : Int)) ∧
    deref t8.a fun a9 =>
    ld ((.int .i64) : Kd) h6 (a9.add ((addr2 : Int).toNat * 1)) fun t10 =>
    (0 ≤ addr2 ∧ addr2 < (t8.len : Int)) ∧
    deref t8.a fun a11 =>
    st ((.int .i64) : Kd) h6 (a11.add ((addr2 : Int).toNat * 1)) (w64 (t10 + d3)) fun h12 =>
    deref a1 fun a13 =>
    ld (.sl : Kd) h12 (a13.add 2) fun t14 =>
    (0 ≤ addr2 ∧ addr2 < (t14.len : Int)) ∧
    deref t14.a fun a15 =>
    ld ((.int .i64) : Kd) h12 (a15.add ((addr2 : Int).toNat * 1)) fun t16 =>
    c_cells_Arena_note a1 3 addr2 d3 t16 true h12 fun r17 h18 =>
    deref a1 fun a19 =>
    ld (.sl : Kd) h18 (a19.add 2) fun t20 =>
    (0 ≤ addr2 ∧ addr2 < (t20.len : Int)) ∧
    deref t20.a fun a21 =>
    ld ((.int .i64) : Kd) h18 (a21.add ((addr2 : Int).toNat * 1)) fun t22 =>
    Q (t22, 0, ()) h18))
def cells_Arena_Add.mk : Mk := (.s .d (.s (.s .d (.c (.s .d .d) .d)) (.s .d (.s .d (.s .d .d)))))

def cmp_isNaN_int.M  (x1 : Int) (h2 : Heap) (Q : Bool → Heap → Prop) : Prop :=
    Q (decide (x1 ≠ x1)) h2
def cmp_isNaN_int.mk : Mk := (.s .d (.s .d .d))

def cmp_Compare_int64.M (c_cmp_isNaN_int64 : Int → Heap → (Bool → Heap → Prop) → Prop) (x1 : Int) (y2 : Int) (h3 : Heap) (Q : Int → Heap → Prop) : Prop :=
    c_cmp_isNaN_int64 x1 h3 fun r4 h5 =>
    c_cmp_isNaN_int64 y2 h5 fun r6 h7 =>
    ((r4 = true →
    ((r6 = true →
    Q 0 h7) ∧
    (r6 = false →
    Q (-1) h7))) ∧
    (r4 = false →
    ((r6 = true →
    Q 1 h7) ∧
    (r6 = false →
    (((decide (x1 < y2)) = true →
    Q (-1) h7) ∧
    ((decide (x1 < y2)) = false →
    (((decide (y2 < x1)) = true →
    Q 1 h7) ∧
    ((decide (y2 < x1)) = false →
    Q 0 h7))))))))
def cmp_Compare_int64.mk : Mk := (.s .d (.s .d (.s .d (.s (.s .d (.c (.s (.s .d (.c (.s .d .d) .d)) (.s .d .d)) .d)) (.s (.s .d (.c (.s .d .d) .d)) (.s (.s .d (.c (.s .d .d) .d)) (.s (.s .d (.c (.s .d .d) .d)) (.s .d .d))))))))

def slices_rotateLeft_int64.M (c_slices_Reverse_int64_int64 : Sl → Heap → (Unit → Heap → Prop) → Prop) (s1 : Sl) (r2 : Int) (h3 : Heap) (Q : Unit → Heap → Prop) : Prop :=
    (0 ≤ r2 ∧ r2 ≤ (s1.cap : Int)) ∧
    c_slices_Reverse_int64_int64 (s1.cut 0 ((r2 : Int).toNat) 1) h3 fun r4 h5 =>
    (0 ≤ r2 ∧ r2 ≤ (s1.len : Int)) ∧
    c_slices_Reverse_int64_int64 (s1.cut ((r2 : Int).toNat) s1.len 1) h5 fun r6 h7 =>
    c_slices_Reverse_int64_int64 s1 h7 fun r8 h9 =>
    Q () h9
def slices_rotateLeft_int64.mk : Mk := (.s .d (.s .d .d))

def slices_IndexFunc_int_int.l1 (c_fn : Value → Int → Heap → (Bool → Heap → Prop) → Prop) (s1 : Sl) (f2 : Value) (Q : Int → Heap → Prop) (go6 : (Int × Unit) → Heap → Prop) (s4 : (Int × Unit)) (h5 : Heap) : Prop :=
    (((decide (s4.1 < (s1.len : Int))) = true →
    (0 ≤ s4.1 ∧ s4.1 < (s1.len : Int)) ∧
    deref s1.a fun a7 =>
    ld ((.int .i64) : Kd) h5 (a7.add ((s4.1 : Int).toNat * 1)) fun t8 =>
    c_fn f2 t8 h5 fun r9 h10 =>
    ((r9 = true →
    Q s4.1 h10) ∧
    (r9 = false →
    go6 ((w64 (s4.1 + 1)), ()) h10))) ∧
    ((decide (s4.1 < (s1.len : Int))) = false →
    Q (-1) h5))
def slices_IndexFunc_int_int.M (c_fn : Value → Int → Heap → (Bool → Heap → Prop) → Prop) (s1 : Sl) (f2 : Value) (h3 : Heap) (Q : Int → Heap → Prop) : Prop :=
    Loop (slices_IndexFunc_int_int.l1 c_fn s1 f2 Q) (0, ()) h3
def slices_IndexFunc_int_int.mk : Mk := (.s .d (.s (.s .d (.b (.l [.slot 8 (.int .i64)] (.s .d (.s (.c .d .d) (.s (.b (.s .d (.s .d (.c (.s .d .d) .d)))) .d)))))) (.s .d .d)))

def cells_ledger_has.M  (l1 : Option Addr) (addr2 : Int) (h3 : Heap) (Q : Bool → Heap → Prop) : Prop :=
    (((decide ((0 : Int) ≤ addr2)) = true →
    deref l1 fun a4 =>
    ld ((.int .i64) : Kd) h3 (a4.add 1) fun t5 =>
    Q (decide (addr2 < t5)) h3) ∧
    ((decide ((0 : Int) ≤ addr2)) = false →
    Q false h3))
def cells_ledger_has.mk : Mk := (.s .d (.s .d .d))

def cmp_isNaN_int64.M  (x1 : Int) (h2 : Heap) (Q : Bool → Heap → Prop) : Prop :=
    Q (decide (x1 ≠ x1)) h2
def cmp_isNaN_int64.mk : Mk := (.s .d (.s .d .d))

def slices_Reverse_int64_int64.l1 (s1 : Sl) (Q : Unit → Heap → Prop) (go5 : Den kcellsledger → Heap → Prop) (s3 : Den kcellsledger) (h4 : Heap) : Prop :=
    (((decide (s3.1 < s3.2.1)) = true →
    (0 ≤ s3.2.1 ∧ s3.2.1 < (s1.len : Int)) ∧
    deref s1.a fun a6 =>
    (0 ≤ s3.1 ∧ s3.1 < (s1.len : Int)) ∧
    deref s1.a fun a7 =>
    ld (.sl : Kd) h4 (a6.add ((s3.2.1 : Int).toNat * 1)) fun t8 =>
    ld (.sl : Kd) h4 (a7.add ((s3.1 : Int).toNat * 1)) fun t9 =>
    (0 ≤ s3.1 ∧ s3.1 < (s1.len : Int)) ∧
    deref s1.a fun a10 =>
    st (.sl : Kd) h4 (a10.add ((s3.1 : Int).toNat * 1)) t8 fun h11 =>
    (0 ≤ s3.2.1 ∧ s3.2.1 < (s1.len : Int)) ∧
    deref s1.a fun a12 =>
    st (.sl : Kd) h11 (a12.add ((s3.2.1 : Int).toNat * 1)) t9 fun h13 =>
    go5 ((w64 (s3.1 + 1)), (w64 (s3.2.1 - 1)), ()) h13) ∧
    ((decide (s3.1 < s3.2.1)) = false →
    Q () h4))
def slices_Reverse_int64_int64.M  (s1 : Sl) (h2 : Heap) (Q : Unit → Heap → Prop) : Prop :=
    Loop (slices_Reverse_int64_int64.l1 s1 Q) (0, (w64 ((s1.len : Int) - 1)), ()) h2
def slices_Reverse_int64_int64.mk : Mk := (.s .d (.b (.l [.slot 2 (.int .i64), .slot 3 (.int .i64)] (.s (.s .d (.c .d .d)) (.s (.b (.q [] [] [.p 0, .p 1, .p 2, .p 3, .p 4, .p 5, .p 6, .p 8, .p 9, .p 10, .w 7 [7, 12, 13, 14, 15], .w 11 [11, 12, 13, 14, 15], .p 12, .o 13, .p 14, .o 15])) .d)))))

end Go.Mx
