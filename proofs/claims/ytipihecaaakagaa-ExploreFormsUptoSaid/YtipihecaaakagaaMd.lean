/-
  What the functions of this seat come to over abstract heaps: printed by a program of this workplace.
-/
import Derived.Test.YtipihecaaakagaaMxN
set_option linter.unusedVariables false
namespace Go.Mx
abbrev kapiScene : Kd := (.pair (.int .i64) (.pair .sl (.pair .sl .nil)))
abbrev kapiEnding : Kd := (.pair .sl (.pair .sl .nil))
abbrev kapiAct : Kd := (.pair (.int .i64) (.pair (.int .i64) (.pair (.int .i64) (.pair (.int .i64) (.pair (.int .i64) .nil)))))
abbrev kapiDag : Kd := (.pair (.int .i64) (.pair .sl .nil))
abbrev kapiEdge : Kd := (.pair (.int .i64) (.pair (.int .i64) .nil))
abbrev kref22Act : Kd := (.pair (.int .i64) (.pair kapiAct .nil))
abbrev kexploredone : Kd := (.pair (.int .i64) kref22Act)
abbrev kapiEffect : Kd := (.pair (.int .i64) (.pair .bool (.pair (.int .i64) .nil)))
abbrev kexplorewalk : Kd := (.pair kapiScene kapiEnding)
abbrev kcellsArena : Kd := (.pair kapiEdge (.pair .sl (.pair .sl (.pair (.int .i64) (.pair .bool .nil)))))
abbrev kapiAccess : Kd := (.pair (.int .i64) (.pair (.int .i64) (.pair (.int .i64) (.pair (.int .i64) (.pair (.int .i64) (.pair .bool .nil))))))
-- @T  121

def law22_ExploreForms.j1 (go37 : (Int × (Den kapiDag × Unit)) → Heap → Prop) (s35 : (Int × (Den kapiDag × Unit))) (s38 : (Den kapiDag × Unit)) (h39 : Heap) : Prop :=
    go37 ((w64 (s35.1 + 1)), (s38.1.1, (s38.1.2.1, ())), ()) h39
def law22_ExploreForms.j2 (s32 : (Int × (Den kapiDag × Unit))) (go37 : (Int × (Den kapiDag × Unit)) → Heap → Prop) (s35 : (Int × (Den kapiDag × Unit))) (s40 : (Bool × Unit)) (h41 : Heap) : Prop :=
    ((s40.1 = true →
    new h41 (([(s32.1, (s35.1, ()))] : List (Den kapiEdge)).flatMap (Kd.cells kapiEdge)) fun p42 h43 =>
    appendM 2 16 h43 s35.2.1.2.1 ⟨some p42, 1, 1⟩ fun t44 h45 =>
    law22_ExploreForms.j1 go37 s35 ((s35.2.1.1, (t44, ())), ()) h45) ∧
    (s40.1 = false →
    law22_ExploreForms.j1 go37 s35 ((s35.2.1.1, (s35.2.1.2.1, ())), ()) h41))
def law22_ExploreForms.l3 (c_explore_Depends : Den kapiScene → Den kapiAct → Den kapiAct → Heap → (Bool → Heap → Prop) → Prop) (r5 : Den kapiScene) (r7 : Sl) (r30 : Sl) (go34 : (Int × (Den kapiDag × Unit)) → Heap → Prop) (s32 : (Int × (Den kapiDag × Unit))) (go37 : (Int × (Den kapiDag × Unit)) → Heap → Prop) (s35 : (Int × (Den kapiDag × Unit))) (h36 : Heap) : Prop :=
    (((decide (s35.1 < (r7.len : Int))) = true →
    (0 ≤ s32.1 ∧ s32.1 < (r7.len : Int)) ∧
    deref r7.a fun a46 =>
    (0 ≤ s35.1 ∧ s35.1 < (r7.len : Int)) ∧
    deref r7.a fun a47 =>
    ld ((.int .i64) : Kd) h36 (a46.add ((s32.1 : Int).toNat * 1)) fun t48 =>
    ld ((.int .i64) : Kd) h36 (a47.add ((s35.1 : Int).toNat * 1)) fun t49 =>
    (((decide (t48 = t49)) = true →
    law22_ExploreForms.j2 s32 go37 s35 (true, ()) h36) ∧
    ((decide (t48 = t49)) = false →
    (0 ≤ s32.1 ∧ s32.1 < (r30.len : Int)) ∧
    deref r30.a fun a50 =>
    (0 ≤ s35.1 ∧ s35.1 < (r30.len : Int)) ∧
    deref r30.a fun a51 =>
    ld kapiAct h36 (a50.add ((s32.1 : Int).toNat * 5)) fun t52 =>
    ld kapiAct h36 (a51.add ((s35.1 : Int).toNat * 5)) fun t53 =>
    c_explore_Depends (r5.1, (r5.2.1, (r5.2.2.1, ()))) t52 t53 h36 fun r54 h55 =>
    law22_ExploreForms.j2 s32 go37 s35 (r54, ()) h55))) ∧
    ((decide (s35.1 < (r7.len : Int))) = false →
    go34 ((w64 (s32.1 + 1)), (s35.2.1.1, (s35.2.1.2.1, ())), ()) h36))
def law22_ExploreForms.j4 (go64 : (Int × Unit) → Heap → Prop) (s62 : (Int × Unit)) (s65 : Unit) (h66 : Heap) : Prop :=
    go64 ((w64 (s62.1 + 1)), ()) h66
def law22_ExploreForms.j5 (Q : Bool → Heap → Prop) (go64 : (Int × Unit) → Heap → Prop) (s62 : (Int × Unit)) (s69 : (Bool × Unit)) (h70 : Heap) : Prop :=
    ((s69.1 = true →
    Q false h70) ∧
    (s69.1 = false →
    law22_ExploreForms.j4 go64 s62 () h70))
def law22_ExploreForms.l6 (c_law22_holds : Sl → Int → Heap → (Bool → Heap → Prop) → Prop) (Q : Bool → Heap → Prop) (r7 : Sl) (r11 : (Sl × (Int × Unit))) (r58 : (Sl × (Int × Unit))) (go64 : (Int × Unit) → Heap → Prop) (s62 : (Int × Unit)) (h63 : Heap) : Prop :=
    (((decide (s62.1 < (r7.len : Int))) = true →
    (0 ≤ s62.1 ∧ s62.1 < (r58.1.len : Int)) ∧
    deref r58.1.a fun a67 =>
    ld ((.int .i64) : Kd) h63 (a67.add ((s62.1 : Int).toNat * 1)) fun t68 =>
    (((decide ((w64 (t68 - 1)) < 0)) = true →
    law22_ExploreForms.j5 Q go64 s62 (true, ()) h63) ∧
    ((decide ((w64 (t68 - 1)) < 0)) = false →
    (((decide ((r11.1.len : Int) ≤ (w64 (t68 - 1)))) = true →
    law22_ExploreForms.j5 Q go64 s62 (true, ()) h63) ∧
    ((decide ((r11.1.len : Int) ≤ (w64 (t68 - 1)))) = false →
    (0 ≤ (w64 (t68 - 1)) ∧ (w64 (t68 - 1)) < (r11.1.len : Int)) ∧
    deref r11.1.a fun a71 =>
    (0 ≤ s62.1 ∧ s62.1 < (r7.len : Int)) ∧
    deref r7.a fun a72 =>
    ld (.sl : Kd) h63 (a71.add (((w64 (t68 - 1)) : Int).toNat * 1)) fun t73 =>
    ld ((.int .i64) : Kd) h63 (a72.add ((s62.1 : Int).toNat * 1)) fun t74 =>
    c_law22_holds t73 t74 h63 fun r75 h76 =>
    law22_ExploreForms.j5 Q go64 s62 ((!r75), ()) h76))))) ∧
    ((decide (s62.1 < (r7.len : Int))) = false →
    Q true h63))
def law22_ExploreForms.j7 (c_law22_holds : Sl → Int → Heap → (Bool → Heap → Prop) → Prop) (Q : Bool → Heap → Prop) (r7 : Sl) (r11 : (Sl × (Int × Unit))) (r58 : (Sl × (Int × Unit))) (s60 : Unit) (h61 : Heap) : Prop :=
    Loop (law22_ExploreForms.l6 c_law22_holds Q r7 r11 r58) (0, ()) h61
def law22_ExploreForms.j8 (c_law22_holds : Sl → Int → Heap → (Bool → Heap → Prop) → Prop) (Q : Bool → Heap → Prop) (r7 : Sl) (r11 : (Sl × (Int × Unit))) (r58 : (Sl × (Int × Unit))) (s77 : (Bool × Unit)) (h78 : Heap) : Prop :=
    ((s77.1 = true →
    Q false h78) ∧
    (s77.1 = false →
    law22_ExploreForms.j7 c_law22_holds Q r7 r11 r58 () h78))
def law22_ExploreForms.l9 (c_explore_Depends : Den kapiScene → Den kapiAct → Den kapiAct → Heap → (Bool → Heap → Prop) → Prop) (c_dag_Span : Den kapiDag → Heap → (Den kapiEdge → Heap → Prop) → Prop) (c_dag_Earliest : Den kapiDag → Heap → ((Sl × (Int × Unit)) → Heap → Prop) → Prop) (c_law22_holds : Sl → Int → Heap → (Bool → Heap → Prop) → Prop) (Q : Bool → Heap → Prop) (r5 : Den kapiScene) (r7 : Sl) (r11 : (Sl × (Int × Unit))) (r30 : Sl) (go34 : (Int × (Den kapiDag × Unit)) → Heap → Prop) (s32 : (Int × (Den kapiDag × Unit))) (h33 : Heap) : Prop :=
    (((decide (s32.1 < (r7.len : Int))) = true →
    Loop (law22_ExploreForms.l3 c_explore_Depends r5 r7 r30 go34 s32) ((w64 (s32.1 + 1)), (s32.2.1.1, (s32.2.1.2.1, ())), ()) h33) ∧
    ((decide (s32.1 < (r7.len : Int))) = false →
    c_dag_Span (s32.2.1.1, (s32.2.1.2.1, ())) h33 fun r56 h57 =>
    c_dag_Earliest (s32.2.1.1, (s32.2.1.2.1, ())) h57 fun r58 h59 =>
    (((decide (r56.2.1 ≠ 0)) = true →
    law22_ExploreForms.j8 c_law22_holds Q r7 r11 r58 (true, ()) h59) ∧
    ((decide (r56.2.1 ≠ 0)) = false →
    (((decide (r58.2.1 ≠ 0)) = true →
    law22_ExploreForms.j8 c_law22_holds Q r7 r11 r58 (true, ()) h59) ∧
    ((decide (r58.2.1 ≠ 0)) = false →
    (((decide (r56.1 ≠ (r11.1.len : Int))) = true →
    law22_ExploreForms.j8 c_law22_holds Q r7 r11 r58 (true, ()) h59) ∧
    ((decide (r56.1 ≠ (r11.1.len : Int))) = false →
    law22_ExploreForms.j8 c_law22_holds Q r7 r11 r58 ((decide ((r58.1.len : Int) ≠ (r7.len : Int))), ()) h59))))))))
def law22_ExploreForms.j10 (c_law22_row : Den kapiScene → Sl → Heap → (Sl → Heap → Prop) → Prop) (c_explore_Depends : Den kapiScene → Den kapiAct → Den kapiAct → Heap → (Bool → Heap → Prop) → Prop) (c_dag_Span : Den kapiDag → Heap → (Den kapiEdge → Heap → Prop) → Prop) (c_dag_Earliest : Den kapiDag → Heap → ((Sl × (Int × Unit)) → Heap → Prop) → Prop) (c_law22_holds : Sl → Int → Heap → (Bool → Heap → Prop) → Prop) (Q : Bool → Heap → Prop) (r5 : Den kapiScene) (r7 : Sl) (r11 : (Sl × (Int × Unit))) (s28 : Unit) (h29 : Heap) : Prop :=
    c_law22_row (r5.1, (r5.2.1, (r5.2.2.1, ()))) r7 h29 fun r30 h31 =>
    Loop (law22_ExploreForms.l9 c_explore_Depends c_dag_Span c_dag_Earliest c_law22_holds Q r5 r7 r11 r30) (0, ((r7.len : Int), (Sl.none, ())), ()) h31
def law22_ExploreForms.j11 (c_law22_row : Den kapiScene → Sl → Heap → (Sl → Heap → Prop) → Prop) (c_explore_Depends : Den kapiScene → Den kapiAct → Den kapiAct → Heap → (Bool → Heap → Prop) → Prop) (c_dag_Span : Den kapiDag → Heap → (Den kapiEdge → Heap → Prop) → Prop) (c_dag_Earliest : Den kapiDag → Heap → ((Sl × (Int × Unit)) → Heap → Prop) → Prop) (c_law22_holds : Sl → Int → Heap → (Bool → Heap → Prop) → Prop) (Q : Bool → Heap → Prop) (r5 : Den kapiScene) (r7 : Sl) (r11 : (Sl × (Int × Unit))) (s79 : (Bool × Unit)) (h80 : Heap) : Prop :=
    ((s79.1 = true →
    Q false h80) ∧
    (s79.1 = false →
    law22_ExploreForms.j10 c_law22_row c_explore_Depends c_dag_Span c_dag_Earliest c_law22_holds Q r5 r7 r11 () h80))
def law22_ExploreForms.l12 (c_explore_Alike : Den kapiScene → Sl → Sl → Heap → ((Bool × (Int × Unit)) → Heap → Prop) → Prop) (c_law22_row : Den kapiScene → Sl → Heap → (Sl → Heap → Prop) → Prop) (c_explore_Depends : Den kapiScene → Den kapiAct → Den kapiAct → Heap → (Bool → Heap → Prop) → Prop) (c_dag_Span : Den kapiDag → Heap → (Den kapiEdge → Heap → Prop) → Prop) (c_dag_Earliest : Den kapiDag → Heap → ((Sl × (Int × Unit)) → Heap → Prop) → Prop) (c_law22_holds : Sl → Int → Heap → (Bool → Heap → Prop) → Prop) (Q : Bool → Heap → Prop) (r5 : Den kapiScene) (r7 : Sl) (r11 : (Sl × (Int × Unit))) (go21 : (Sl × (Int × Unit)) → Heap → Prop) (s19 : (Sl × (Int × Unit))) (h20 : Heap) : Prop :=
    (((decide (s19.2.1 < (r11.1.len : Int))) = true →
    (0 ≤ s19.2.1 ∧ s19.2.1 < (r11.1.len : Int)) ∧
    deref r11.1.a fun a22 =>
    ld (.sl : Kd) h20 (a22.add ((s19.2.1 : Int).toNat * 1)) fun t23 =>
    appendM 1 8 h20 s19.1 t23 fun t24 h25 =>
    go21 (t24, (w64 (s19.2.1 + 1)), ()) h25) ∧
    ((decide (s19.2.1 < (r11.1.len : Int))) = false →
    c_explore_Alike (r5.1, (r5.2.1, (r5.2.2.1, ()))) r7 s19.1 h20 fun r26 h27 =>
    (((decide (r26.2.1 ≠ 0)) = true →
    law22_ExploreForms.j11 c_law22_row c_explore_Depends c_dag_Span c_dag_Earliest c_law22_holds Q r5 r7 r11 (true, ()) h27) ∧
    ((decide (r26.2.1 ≠ 0)) = false →
    law22_ExploreForms.j11 c_law22_row c_explore_Depends c_dag_Span c_dag_Earliest c_law22_holds Q r5 r7 r11 ((!r26.1), ()) h27))))
def law22_ExploreForms.j13 (c_explore_Alike : Den kapiScene → Sl → Sl → Heap → ((Bool × (Int × Unit)) → Heap → Prop) → Prop) (c_law22_row : Den kapiScene → Sl → Heap → (Sl → Heap → Prop) → Prop) (c_explore_Depends : Den kapiScene → Den kapiAct → Den kapiAct → Heap → (Bool → Heap → Prop) → Prop) (c_dag_Span : Den kapiDag → Heap → (Den kapiEdge → Heap → Prop) → Prop) (c_dag_Earliest : Den kapiDag → Heap → ((Sl × (Int × Unit)) → Heap → Prop) → Prop) (c_law22_holds : Sl → Int → Heap → (Bool → Heap → Prop) → Prop) (Q : Bool → Heap → Prop) (r5 : Den kapiScene) (r7 : Sl) (r11 : (Sl × (Int × Unit))) (s17 : Unit) (h18 : Heap) : Prop :=
    Loop (law22_ExploreForms.l12 c_explore_Alike c_law22_row c_explore_Depends c_dag_Span c_dag_Earliest c_law22_holds Q r5 r7 r11) (⟨none, 0, 0⟩, 0, ()) h18
def law22_ExploreForms.j14 (c_explore_Alike : Den kapiScene → Sl → Sl → Heap → ((Bool × (Int × Unit)) → Heap → Prop) → Prop) (c_law22_row : Den kapiScene → Sl → Heap → (Sl → Heap → Prop) → Prop) (c_explore_Depends : Den kapiScene → Den kapiAct → Den kapiAct → Heap → (Bool → Heap → Prop) → Prop) (c_dag_Span : Den kapiDag → Heap → (Den kapiEdge → Heap → Prop) → Prop) (c_dag_Earliest : Den kapiDag → Heap → ((Sl × (Int × Unit)) → Heap → Prop) → Prop) (c_law22_holds : Sl → Int → Heap → (Bool → Heap → Prop) → Prop) (Q : Bool → Heap → Prop) (r5 : Den kapiScene) (r7 : Sl) (r11 : (Sl × (Int × Unit))) (s81 : (Bool × Unit)) (h82 : Heap) : Prop :=
    ((s81.1 = true →
    Q false h82) ∧
    (s81.1 = false →
    law22_ExploreForms.j13 c_explore_Alike c_law22_row c_explore_Depends c_dag_Span c_dag_Earliest c_law22_holds Q r5 r7 r11 () h82))
def law22_ExploreForms.M (c_law22_fit : Den kapiScene → Heap → (Den kapiScene → Heap → Prop) → Prop) (c_law22_script : Den kapiScene → Sl → Heap → (Sl → Heap → Prop) → Prop) (c_explore_Foata : Den kapiScene → Sl → Heap → ((Sl × (Int × Unit)) → Heap → Prop) → Prop) (c_explore_Alike : Den kapiScene → Sl → Sl → Heap → ((Bool × (Int × Unit)) → Heap → Prop) → Prop) (c_law22_sameLists : Sl → Sl → Heap → (Bool → Heap → Prop) → Prop) (c_law22_stands : Heap → (Bool → Heap → Prop) → Prop) (c_law22_row : Den kapiScene → Sl → Heap → (Sl → Heap → Prop) → Prop) (c_explore_Depends : Den kapiScene → Den kapiAct → Den kapiAct → Heap → (Bool → Heap → Prop) → Prop) (c_dag_Span : Den kapiDag → Heap → (Den kapiEdge → Heap → Prop) → Prop) (c_dag_Earliest : Den kapiDag → Heap → ((Sl × (Int × Unit)) → Heap → Prop) → Prop) (c_law22_holds : Sl → Int → Heap → (Bool → Heap → Prop) → Prop) (scene1 : Den kapiScene) (picks2 : Sl) (others3 : Sl) (h4 : Heap) (Q : Bool → Heap → Prop) : Prop :=
    c_law22_fit (scene1.1, (scene1.2.1, (scene1.2.2.1, ()))) h4 fun r5 h6 =>
    c_law22_script (r5.1, (r5.2.1, (r5.2.2.1, ()))) picks2 h6 fun r7 h8 =>
    c_law22_script (r5.1, (r5.2.1, (r5.2.2.1, ()))) others3 h8 fun r9 h10 =>
    c_explore_Foata (r5.1, (r5.2.1, (r5.2.2.1, ()))) r7 h10 fun r11 h12 =>
    c_explore_Foata (r5.1, (r5.2.1, (r5.2.2.1, ()))) r9 h12 fun r13 h14 =>
    c_explore_Alike (r5.1, (r5.2.1, (r5.2.2.1, ()))) r7 r9 h14 fun r15 h16 =>
    (((decide (r11.2.1 ≠ 0)) = true →
    law22_ExploreForms.j14 c_explore_Alike c_law22_row c_explore_Depends c_dag_Span c_dag_Earliest c_law22_holds Q r5 r7 r11 (true, ()) h16) ∧
    ((decide (r11.2.1 ≠ 0)) = false →
    (((decide (r13.2.1 ≠ 0)) = true →
    law22_ExploreForms.j14 c_explore_Alike c_law22_row c_explore_Depends c_dag_Span c_dag_Earliest c_law22_holds Q r5 r7 r11 (true, ()) h16) ∧
    ((decide (r13.2.1 ≠ 0)) = false →
    (((decide (r15.2.1 ≠ 0)) = true →
    law22_ExploreForms.j14 c_explore_Alike c_law22_row c_explore_Depends c_dag_Span c_dag_Earliest c_law22_holds Q r5 r7 r11 (true, ()) h16) ∧
    ((decide (r15.2.1 ≠ 0)) = false →
    c_law22_sameLists r11.1 r13.1 h16 fun r83 h84 =>
    (((!(r15.1 == r83)) = true →
    law22_ExploreForms.j14 c_explore_Alike c_law22_row c_explore_Depends c_dag_Span c_dag_Earliest c_law22_holds Q r5 r7 r11 (true, ()) h84) ∧
    ((!(r15.1 == r83)) = false →
    c_law22_stands  h84 fun r85 h86 =>
    law22_ExploreForms.j14 c_explore_Alike c_law22_row c_explore_Depends c_dag_Span c_dag_Earliest c_law22_holds Q r5 r7 r11 ((!r85), ()) h86))))))))
def law22_ExploreForms.mk : Mk := (.s (.r [0]) (.s (.r [2]) (.s .d (.s .d (.s .d (.s .d (.s .d (.j [] (.j [.slot 75 .bool] .d (.c (.s .d .d) .d)) (.s .d (.s (.s .d (.b (.l [.slot 16 .sl, .slot 17 (.int .i64)] (.s (.s .d (.c .d .d)) (.s (.b .d) .d))))) (.s .d (.j [] (.j [.slot 100 .bool] .d (.c (.s .d .d) .d)) (.s .d (.s (.r [3]) (.s (.s .d (.b (.l [.slot 20 (.int .i64), .box 19 kapiDag] (.s (.s .d (.c .d .d)) (.s (.b (.s .d (.b (.l [.slot 21 (.int .i64), .box 19 kapiDag] (.s (.s .d (.c .d .d)) (.j [.box 19 kapiDag] (.b (.j [.slot 141 .bool] (.q [] [] [.p 0, .p 1, .p 2, .p 4, .p 5, .p 6, .w 3 [3, 8, 9, 10, 11, 12, 13, 14, 15, 16, 17, 18, 19, 20], .w 7 [7, 8, 9, 10, 11, 12, 13, 14, 15, 16, 17, 18, 19, 20], .p 8, .p 9, .p 11, .p 12, .p 13, .p 15, .p 16, .p 17, .w 10 [10, 19, 20], .w 14 [14, 19, 20], .w 18 [18, 19, 20], .o 19, .p 20]) (.c .d .d))) .d)))))) .d))))) (.s .d (.s .d (.j [] (.j [.slot 178 .bool] .d (.c (.s .d .d) .d)) (.s (.s .d (.b (.l [.slot 26 (.int .i64)] (.s (.s .d (.c .d .d)) (.j [] (.b (.s .d (.j [.slot 209 .bool] (.q [] [] [.p 0, .p 1, .p 2, .p 3, .p 4, .p 5, .p 6, .p 7, .p 8, .p 9, .p 10, .p 11, .p 13, .p 14, .p 15, .w 12 [12, 17, 18, 19], .w 16 [16, 17, 18, 19], .o 17, .p 18, .p 19]) (.c (.s .d .d) .d)))) .d))))) (.s .d .d))))))))))))))))))))

def explore_Foata.M (c_explore_ready : Den kapiScene → Sl → Heap → (Int → Heap → Prop) → Prop) (c_explore_form : Den kapiScene → Sl → Heap → (Sl → Heap → Prop) → Prop) (s1 : Den kapiScene) (picks2 : Sl) (h3 : Heap) (Q : (Sl × (Int × Unit)) → Heap → Prop) : Prop :=
    c_explore_ready (s1.1, (s1.2.1, (s1.2.2.1, ()))) picks2 h3 fun r4 h5 =>
    (((decide (r4 ≠ 0)) = true →
    Q (⟨none, 0, 0⟩, r4, ()) h5) ∧
    ((decide (r4 ≠ 0)) = false →
    c_explore_form (s1.1, (s1.2.1, (s1.2.2.1, ()))) picks2 h5 fun r6 h7 =>
    Q (r6, 0, ()) h7))
def explore_Foata.mk : Mk := (.s (.r [0]) (.s (.s .d (.s .d (.c (.s .d .d) .d))) (.s .d .d)))

def law22_sameLists.l1 (c_law22_same : Sl → Sl → Heap → (Bool → Heap → Prop) → Prop) (a1 : Sl) (b2 : Sl) (Q : Bool → Heap → Prop) (go6 : (Int × Unit) → Heap → Prop) (s4 : (Int × Unit)) (h5 : Heap) : Prop :=
    (((decide (s4.1 < (a1.len : Int))) = true →
    (0 ≤ s4.1 ∧ s4.1 < (a1.len : Int)) ∧
    deref a1.a fun a7 =>
    (0 ≤ s4.1 ∧ s4.1 < (b2.len : Int)) ∧
    deref b2.a fun a8 =>
    ld (.sl : Kd) h5 (a7.add ((s4.1 : Int).toNat * 1)) fun t9 =>
    ld (.sl : Kd) h5 (a8.add ((s4.1 : Int).toNat * 1)) fun t10 =>
    c_law22_same t9 t10 h5 fun r11 h12 =>
    (((!r11) = true →
    Q false h12) ∧
    ((!r11) = false →
    go6 ((w64 (s4.1 + 1)), ()) h12))) ∧
    ((decide (s4.1 < (a1.len : Int))) = false →
    Q true h5))
def law22_sameLists.M (c_law22_same : Sl → Sl → Heap → (Bool → Heap → Prop) → Prop) (a1 : Sl) (b2 : Sl) (h3 : Heap) (Q : Bool → Heap → Prop) : Prop :=
    (((decide ((a1.len : Int) ≠ (b2.len : Int))) = true →
    Q false h3) ∧
    ((decide ((a1.len : Int) ≠ (b2.len : Int))) = false →
    Loop (law22_sameLists.l1 c_law22_same a1 b2 Q) (0, ()) h3))
def law22_sameLists.mk : Mk := (.s .d (.s (.s .d (.c (.s .d .d) .d)) (.s (.s .d (.b (.l [.slot 5 (.int .i64)] (.s (.s .d (.c .d .d)) (.s (.b (.s (.q [] [] [.p 0, .p 1, .p 2, .p 4, .p 5, .p 6, .w 3 [3, 8, 9], .w 7 [7, 8, 9], .o 8, .p 9]) (.c (.s .d .d) .d))) .d))))) (.s .d .d))))

def law22_fit.j1 (Q : Den kapiScene → Heap → Prop) (s7 : (Den kapiScene × Unit)) (h8 : Heap) : Prop :=
    Q (s7.1.1, (s7.1.2.1, (s7.1.2.2.1, ()))) h8
def law22_fit.j2 (go11 : (Int × (Int × (Den kapiScene × Unit))) → Heap → Prop) (s9 : (Int × (Int × (Den kapiScene × Unit)))) (s14 : (Int × (Den kapiScene × Unit))) (h15 : Heap) : Prop :=
    go11 (s14.1, (w64 (s9.2.1 + 1)), (s14.2.1.1, (s14.2.1.2.1, (s14.2.1.2.2.1, ()))), ()) h15
def law22_fit.j3 (go11 : (Int × (Int × (Den kapiScene × Unit))) → Heap → Prop) (s9 : (Int × (Int × (Den kapiScene × Unit)))) (s16 : Den kapiDag) (h17 : Heap) : Prop :=
    new h17 (([s16.2.1] : List (Den (.sl : Kd))).flatMap (Kd.cells (.sl : Kd))) fun p18 h19 =>
    appendM 1 24 h19 s9.2.2.1.2.2.1 ⟨some p18, 1, 1⟩ fun t20 h21 =>
    law22_fit.j2 go11 s9 (s16.1, (s9.2.2.1.1, (s9.2.2.1.2.1, (t20, ()))), ()) h21
def law22_fit.j4 (c_law22_mod : Int → Int → Heap → (Int → Heap → Prop) → Prop) (s1 : Den kapiScene) (s9 : (Int × (Int × (Den kapiScene × Unit)))) (go24 : (Int × (Sl × (Int × Unit))) → Heap → Prop) (s22 : (Int × (Sl × (Int × Unit)))) (s25 : Unit) (h26 : Heap) : Prop :=
    (0 ≤ s9.2.1 ∧ s9.2.1 < (s1.2.2.1.len : Int)) ∧
    deref s1.2.2.1.a fun a27 =>
    ld (.sl : Kd) h26 (a27.add ((s9.2.1 : Int).toNat * 1)) fun t28 =>
    (0 ≤ s22.2.2.1 ∧ s22.2.2.1 < (t28.len : Int)) ∧
    deref t28.a fun a29 =>
    ld kapiAct h26 (a29.add ((s22.2.2.1 : Int).toNat * 5)) fun t30 =>
    c_law22_mod t30.2.1 5 h26 fun r31 h32 =>
    new h32 (([(t30.1, (r31, (t30.2.2.1, (t30.2.2.2.1, (t30.2.2.2.2.1, ())))))] : List (Den kapiAct)).flatMap (Kd.cells kapiAct)) fun p33 h34 =>
    appendM 5 40 h34 s22.2.1 ⟨some p33, 1, 1⟩ fun t35 h36 =>
    go24 ((w64 (s22.1 + 1)), t35, (w64 (s22.2.2.1 + 1)), ()) h36
def law22_fit.j5 (c_law22_mod : Int → Int → Heap → (Int → Heap → Prop) → Prop) (s1 : Den kapiScene) (go11 : (Int × (Int × (Den kapiScene × Unit))) → Heap → Prop) (s9 : (Int × (Int × (Den kapiScene × Unit)))) (go24 : (Int × (Sl × (Int × Unit))) → Heap → Prop) (s22 : (Int × (Sl × (Int × Unit)))) (s37 : (Bool × Unit)) (h38 : Heap) : Prop :=
    ((s37.1 = true →
    law22_fit.j4 c_law22_mod s1 s9 go24 s22 () h38) ∧
    (s37.1 = false →
    law22_fit.j3 go11 s9 (s22.1, s22.2.1, ()) h38))
def law22_fit.l6 (c_law22_mod : Int → Int → Heap → (Int → Heap → Prop) → Prop) (s1 : Den kapiScene) (go11 : (Int × (Int × (Den kapiScene × Unit))) → Heap → Prop) (s9 : (Int × (Int × (Den kapiScene × Unit)))) (go24 : (Int × (Sl × (Int × Unit))) → Heap → Prop) (s22 : (Int × (Sl × (Int × Unit)))) (h23 : Heap) : Prop :=
    (0 ≤ s9.2.1 ∧ s9.2.1 < (s1.2.2.1.len : Int)) ∧
    deref s1.2.2.1.a fun a39 =>
    ld (.sl : Kd) h23 (a39.add ((s9.2.1 : Int).toNat * 1)) fun t40 =>
    (((decide (s22.2.2.1 < (t40.len : Int))) = true →
    law22_fit.j5 c_law22_mod s1 go11 s9 go24 s22 ((decide (s22.1 < 7)), ()) h23) ∧
    ((decide (s22.2.2.1 < (t40.len : Int))) = false →
    law22_fit.j5 c_law22_mod s1 go11 s9 go24 s22 (false, ()) h23))
def law22_fit.j7 (c_law22_mod : Int → Int → Heap → (Int → Heap → Prop) → Prop) (s1 : Den kapiScene) (go11 : (Int × (Int × (Den kapiScene × Unit))) → Heap → Prop) (s9 : (Int × (Int × (Den kapiScene × Unit)))) (s12 : Unit) (h13 : Heap) : Prop :=
    Loop (law22_fit.l6 c_law22_mod s1 go11 s9) (s9.1, ⟨none, 0, 0⟩, 0, ()) h13
def law22_fit.j8 (c_law22_mod : Int → Int → Heap → (Int → Heap → Prop) → Prop) (s1 : Den kapiScene) (Q : Den kapiScene → Heap → Prop) (go11 : (Int × (Int × (Den kapiScene × Unit))) → Heap → Prop) (s9 : (Int × (Int × (Den kapiScene × Unit)))) (s41 : (Bool × Unit)) (h42 : Heap) : Prop :=
    ((s41.1 = true →
    law22_fit.j7 c_law22_mod s1 go11 s9 () h42) ∧
    (s41.1 = false →
    law22_fit.j1 Q ((s9.2.2.1.1, (s9.2.2.1.2.1, (s9.2.2.1.2.2.1, ()))), ()) h42))
def law22_fit.l9 (c_law22_mod : Int → Int → Heap → (Int → Heap → Prop) → Prop) (s1 : Den kapiScene) (Q : Den kapiScene → Heap → Prop) (go11 : (Int × (Int × (Den kapiScene × Unit))) → Heap → Prop) (s9 : (Int × (Int × (Den kapiScene × Unit)))) (h10 : Heap) : Prop :=
    (((decide (s9.2.1 < (s1.2.2.1.len : Int))) = true →
    law22_fit.j8 c_law22_mod s1 Q go11 s9 ((decide (s9.2.1 < 4)), ()) h10) ∧
    ((decide (s9.2.1 < (s1.2.2.1.len : Int))) = false →
    law22_fit.j8 c_law22_mod s1 Q go11 s9 (false, ()) h10))
def law22_fit.j10 (c_law22_mod : Int → Int → Heap → (Int → Heap → Prop) → Prop) (s1 : Den kapiScene) (Q : Den kapiScene → Heap → Prop) (s5 : (Den kapiScene × Unit)) (h6 : Heap) : Prop :=
    Loop (law22_fit.l9 c_law22_mod s1 Q) (0, 0, (s5.1.1, (s5.1.2.1, (s5.1.2.2.1, ()))), ()) h6
def law22_fit.j11 (s1 : Den kapiScene) (go45 : (Int × (Den kapiScene × Unit)) → Heap → Prop) (s43 : (Int × (Den kapiScene × Unit))) (s46 : Unit) (h47 : Heap) : Prop :=
    (0 ≤ s43.1 ∧ s43.1 < (s1.2.1.len : Int)) ∧
    deref s1.2.1.a fun a48 =>
    ld ((.int .i64) : Kd) h47 (a48.add ((s43.1 : Int).toNat * 1)) fun t49 =>
    new h47 (([t49] : List (Den ((.int .i64) : Kd))).flatMap (Kd.cells ((.int .i64) : Kd))) fun p50 h51 =>
    appendM 1 8 h51 s43.2.1.2.1 ⟨some p50, 1, 1⟩ fun t52 h53 =>
    go45 ((w64 (s43.1 + 1)), (s43.2.1.1, (t52, (s43.2.1.2.2.1, ()))), ()) h53
def law22_fit.j12 (c_law22_mod : Int → Int → Heap → (Int → Heap → Prop) → Prop) (s1 : Den kapiScene) (Q : Den kapiScene → Heap → Prop) (go45 : (Int × (Den kapiScene × Unit)) → Heap → Prop) (s43 : (Int × (Den kapiScene × Unit))) (s54 : (Bool × Unit)) (h55 : Heap) : Prop :=
    ((s54.1 = true →
    law22_fit.j11 s1 go45 s43 () h55) ∧
    (s54.1 = false →
    law22_fit.j10 c_law22_mod s1 Q ((s43.2.1.1, (s43.2.1.2.1, (s43.2.1.2.2.1, ()))), ()) h55))
def law22_fit.l13 (c_law22_mod : Int → Int → Heap → (Int → Heap → Prop) → Prop) (s1 : Den kapiScene) (Q : Den kapiScene → Heap → Prop) (go45 : (Int × (Den kapiScene × Unit)) → Heap → Prop) (s43 : (Int × (Den kapiScene × Unit))) (h44 : Heap) : Prop :=
    (((decide (s43.1 < (s1.2.1.len : Int))) = true →
    law22_fit.j12 c_law22_mod s1 Q go45 s43 ((decide (s43.1 < s43.2.1.1)), ()) h44) ∧
    ((decide (s43.1 < (s1.2.1.len : Int))) = false →
    law22_fit.j12 c_law22_mod s1 Q go45 s43 (false, ()) h44))
def law22_fit.M (c_law22_mod : Int → Int → Heap → (Int → Heap → Prop) → Prop) (s1 : Den kapiScene) (h2 : Heap) (Q : Den kapiScene → Heap → Prop) : Prop :=
    c_law22_mod s1.1 9 h2 fun r3 h4 =>
    Loop (law22_fit.l13 c_law22_mod s1 Q) (0, (r3, (Sl.none, (Sl.none, ()))), ()) h4
def law22_fit.mk : Mk := (.s (.r [0, 1]) (.s (.r [4]) (.j [.box 3 kapiScene] (.s .d (.b (.l [.slot 4 (.int .i64), .box 3 kapiScene] (.j [] (.j [.slot 24 .bool] .d (.c .d .d)) (.s (.b (.q [] [3] [.p 0, .p 2, .p 4, .w 1 [1, 8, 9, 10], .w 3 [3, 5, 6, 7, 8, 9, 10], .p 5, .w 6 [6, 7, 8, 9, 10], .o 7, .o 8, .p 9, .o 10])) .d))))) (.s .d (.j [.box 3 kapiScene] (.s .d (.b (.l [.slot 5 (.int .i64), .slot 6 (.int .i64), .box 3 kapiScene] (.j [] (.j [.slot 45 .bool] .d (.c .d .d)) (.j [.slot 5 (.int .i64), .box 3 kapiScene] (.b (.s .d (.j [.slot 5 (.int .i64), .slot 7 .sl] (.s .d (.b (.l [.slot 5 (.int .i64), .slot 7 .sl, .slot 8 (.int .i64)] (.j [] (.j [.slot 59 .bool] .d (.c .d .d)) (.s (.b (.s (.r [8]) (.s .d (.s .d .d)))) .d))))) .d))) .d))))) (.s .d .d))))))

def explore_Finals.M (c_explore_Check : Den kapiScene → Heap → (Int → Heap → Prop) → Prop) (c_explore_traces : Den kapiScene → Heap → (Value → Heap → Prop) → Prop) (c_explore_play : Den kapiScene → Sl → Heap → (Den kapiEnding → Heap → Prop) → Prop) (c_slices_BinarySearchFunc_int64_int64_int64 : Sl → Sl → Value → Heap → ((Int × (Bool × Unit)) → Heap → Prop) → Prop) (c_slices_Insert_int64_int64 : Sl → Int → Sl → Heap → (Sl → Heap → Prop) → Prop) (c_yield : Value → Sl → Heap → (Bool → Heap → Prop) → Prop) (c_rf : Value → Value → Heap → (Unit → Heap → Prop) → Prop) (s1 : Den kapiScene) (h2 : Heap) (Q : (Sl × (Int × Unit)) → Heap → Prop) : Prop :=
    new h2 (kapiScene.cells s1) fun p3 h4 =>
    ld kapiScene h4 p3 fun t5 =>
    c_explore_Check t5 h4 fun r6 h7 =>
    (((decide (r6 ≠ 0)) = true →
    Q (⟨none, 0, 0⟩, r6, ()) h7) ∧
    ((decide (r6 ≠ 0)) = false →
    new h7 ((.sl : Kd).cells ((.sl : Kd).zero)) fun p8 h9 =>
    ld kapiScene h9 p3 fun t10 =>
    c_explore_traces t10 h9 fun r11 h12 =>
    ∀ (l13 : Nat) (d14 : Nat) (L15 : Bool → Obj), h12 l13 = none → h12 d14 = none → l13 ≠ d14 →
    (∀ (y16 : Sl) (h17 : Heap) (K18 : Bool → Heap → Prop), h17 l13 = some (HObj.raw (L15 false)) →
    (h17 l13 = some (HObj.raw (L15 false)) ∧
    ld kapiScene (upd h17 l13 (HObj.raw (L15 true))) p3 fun t19 =>
    c_explore_play t19 y16 (upd h17 l13 (HObj.raw (L15 true))) fun r20 h21 =>
    ld (.sl : Kd) h21 p8 fun t22 =>
    c_slices_BinarySearchFunc_int64_int64_int64 t22 r20.2.1 (Value.func (.func 54) #[] #[]) h21 fun r23 h24 =>
    (((!r23.2.1) = true →
    ld (.sl : Kd) h24 p8 fun t25 =>
    new h24 (([r20.2.1] : List (Den (.sl : Kd))).flatMap (Kd.cells (.sl : Kd))) fun p26 h27 =>
    c_slices_Insert_int64_int64 t25 r23.1 ⟨some p26, 1, 1⟩ h27 fun r28 h29 =>
    st (.sl : Kd) h29 p8 r28 fun h30 =>
    h30 l13 = some (HObj.raw (L15 true)) ∧
    K18 true (upd h30 l13 (HObj.raw (L15 false)))) ∧
    ((!r23.2.1) = false →
    h24 l13 = some (HObj.raw (L15 true)) ∧
    K18 true (upd h24 l13 (HObj.raw (L15 false)))))) →
    c_yield (Value.func (.yield l13) #[] #[]) y16 h17 K18) →
    c_rf r11 (Value.func (.yield l13) #[] #[]) (upd (upd h12 d14 (HObj.raw (Obj.deferred (some [])))) l13 (HObj.raw (L15 false))) fun _ h31 =>
    h31 l13 = some (HObj.raw (L15 false)) ∧ h31 d14 = some (HObj.raw (Obj.deferred (some []))) ∧
    ld (.sl : Kd) (drop2 h31 l13 d14) p8 fun t32 =>
    Q (t32, 0, ()) (drop2 h31 l13 d14)))
def explore_Finals.mk : Mk := (.s .d (.s (.s .d (.s .d (.c (.s .d .d) .d))) (.s .d (.f .sl .d .d (.b (.s .d (.s .d (.s .d (.c .d .d))))) .d))))

def explore_Explore.M (c_explore_Check : Den kapiScene → Heap → (Int → Heap → Prop) → Prop) (c_explore_traces : Den kapiScene → Heap → (Value → Heap → Prop) → Prop) (c_yield : Value → Sl → Heap → (Bool → Heap → Prop) → Prop) (c_rf : Value → Value → Heap → (Unit → Heap → Prop) → Prop) (s1 : Den kapiScene) (h2 : Heap) (Q : (Sl × (Int × Unit)) → Heap → Prop) : Prop :=
    c_explore_Check (s1.1, (s1.2.1, (s1.2.2.1, ()))) h2 fun r3 h4 =>
    (((decide (r3 ≠ 0)) = true →
    Q (⟨none, 0, 0⟩, r3, ()) h4) ∧
    ((decide (r3 ≠ 0)) = false →
    new h4 ((.sl : Kd).cells ((.sl : Kd).zero)) fun p5 h6 =>
    c_explore_traces (s1.1, (s1.2.1, (s1.2.2.1, ()))) h6 fun r7 h8 =>
    ∀ (l9 : Nat) (d10 : Nat) (L11 : Bool → Obj), h8 l9 = none → h8 d10 = none → l9 ≠ d10 →
    (∀ (y12 : Sl) (h13 : Heap) (K14 : Bool → Heap → Prop), h13 l9 = some (HObj.raw (L11 false)) →
    (h13 l9 = some (HObj.raw (L11 false)) ∧
    ld (.sl : Kd) (upd h13 l9 (HObj.raw (L11 true))) p5 fun t15 =>
    new (upd h13 l9 (HObj.raw (L11 true))) (([y12] : List (Den (.sl : Kd))).flatMap (Kd.cells (.sl : Kd))) fun p16 h17 =>
    appendM 1 24 h17 t15 ⟨some p16, 1, 1⟩ fun t18 h19 =>
    st (.sl : Kd) h19 p5 t18 fun h20 =>
    h20 l9 = some (HObj.raw (L11 true)) ∧
    K14 true (upd h20 l9 (HObj.raw (L11 false)))) →
    c_yield (Value.func (.yield l9) #[] #[]) y12 h13 K14) →
    c_rf r7 (Value.func (.yield l9) #[] #[]) (upd (upd h8 d10 (HObj.raw (Obj.deferred (some [])))) l9 (HObj.raw (L11 false))) fun _ h21 =>
    h21 l9 = some (HObj.raw (L11 false)) ∧ h21 d10 = some (HObj.raw (Obj.deferred (some []))) ∧
    ld (.sl : Kd) (drop2 h21 l9 d10) p5 fun t22 =>
    Q (t22, 0, ()) (drop2 h21 l9 d10)))
def explore_Explore.mk : Mk := (.s (.r [0]) (.s (.s .d (.s .d (.c (.s .d .d) .d))) (.s .d (.f .sl .d .d (.b .d) .d))))

def law22_script.j1 (go6 : (Sl × (Int × (((Fin 4 → Int) × Unit) × Unit))) → Heap → Prop) (s4 : (Sl × (Int × (((Fin 4 → Int) × Unit) × Unit)))) (s9 : (Sl × (((Fin 4 → Int) × Unit) × Unit))) (h10 : Heap) : Prop :=
    go6 (s9.1, (w64 (s4.2.1 + 1)), (s9.2.1.1, ()), ()) h10
def law22_script.j2 (go13 : (Sl × (Int × Unit)) → Heap → Prop) (s11 : (Sl × (Int × Unit))) (s14 : (Sl × Unit)) (h15 : Heap) : Prop :=
    go13 (s14.1, (w64 (s11.2.1 + 1)), ()) h15
def law22_script.j3 (go6 : (Sl × (Int × (((Fin 4 → Int) × Unit) × Unit))) → Heap → Prop) (s4 : (Sl × (Int × (((Fin 4 → Int) × Unit) × Unit)))) (s11 : (Sl × (Int × Unit))) (s22 : (Int × Unit)) (h23 : Heap) : Prop :=
    (0 ≤ s22.1 ∧ s22.1 < (s11.1.len : Int)) ∧
    deref s11.1.a fun a24 =>
    ld ((.int .i64) : Kd) h23 (a24.add ((s22.1 : Int).toNat * 1)) fun t25 =>
    new h23 (([t25] : List (Den ((.int .i64) : Kd))).flatMap (Kd.cells ((.int .i64) : Kd))) fun p26 h27 =>
    appendM 1 8 h27 s4.1 ⟨some p26, 1, 1⟩ fun t28 h29 =>
    (0 ≤ s22.1 ∧ s22.1 < (s11.1.len : Int)) ∧
    deref s11.1.a fun a30 =>
    ld ((.int .i64) : Kd) h29 (a30.add ((s22.1 : Int).toNat * 1)) fun t31 =>
    (0 ≤ t31 ∧ t31 < (4 : Int)) ∧
    (0 ≤ t31 ∧ t31 < (4 : Int)) ∧
    law22_script.j1 go6 s4 (t28, ((aset (n := 4) (a := ((.int .i64) : Kd)) s4.2.2.1.1 (t31 : Int).toNat (w64 ((aget (n := 4) (a := ((.int .i64) : Kd)) s4.2.2.1.1 (t31 : Int).toNat) + 1))), ()), ()) h29
def law22_script.l4 (c_law22_mod : Int → Int → Heap → (Int → Heap → Prop) → Prop) (s1 : Den kapiScene) (picks2 : Sl) (go6 : (Sl × (Int × (((Fin 4 → Int) × Unit) × Unit))) → Heap → Prop) (s4 : (Sl × (Int × (((Fin 4 → Int) × Unit) × Unit)))) (go13 : (Sl × (Int × Unit)) → Heap → Prop) (s11 : (Sl × (Int × Unit))) (h12 : Heap) : Prop :=
    (((decide (s11.2.1 < (s1.2.2.1.len : Int))) = true →
    (0 ≤ s11.2.1 ∧ s11.2.1 < (4 : Int)) ∧
    (0 ≤ s11.2.1 ∧ s11.2.1 < (s1.2.2.1.len : Int)) ∧
    deref s1.2.2.1.a fun a16 =>
    ld (.sl : Kd) h12 (a16.add ((s11.2.1 : Int).toNat * 1)) fun t17 =>
    (((decide ((aget (n := 4) (a := ((.int .i64) : Kd)) s4.2.2.1.1 (s11.2.1 : Int).toNat) < (t17.len : Int))) = true →
    new h12 (([s11.2.1] : List (Den ((.int .i64) : Kd))).flatMap (Kd.cells ((.int .i64) : Kd))) fun p18 h19 =>
    appendM 1 8 h19 s11.1 ⟨some p18, 1, 1⟩ fun t20 h21 =>
    law22_script.j2 go13 s11 (t20, ()) h21) ∧
    ((decide ((aget (n := 4) (a := ((.int .i64) : Kd)) s4.2.2.1.1 (s11.2.1 : Int).toNat) < (t17.len : Int))) = false →
    law22_script.j2 go13 s11 (s11.1, ()) h12))) ∧
    ((decide (s11.2.1 < (s1.2.2.1.len : Int))) = false →
    (((decide (s4.2.1 < (picks2.len : Int))) = true →
    (0 ≤ s4.2.1 ∧ s4.2.1 < (picks2.len : Int)) ∧
    deref picks2.a fun a32 =>
    ld ((.int .i64) : Kd) h12 (a32.add ((s4.2.1 : Int).toNat * 1)) fun t33 =>
    c_law22_mod t33 (s11.1.len : Int) h12 fun r34 h35 =>
    law22_script.j3 go6 s4 s11 (r34, ()) h35) ∧
    ((decide (s4.2.1 < (picks2.len : Int))) = false →
    law22_script.j3 go6 s4 s11 (0, ()) h12))))
def law22_script.l5 (c_law22_total : Den kapiScene → Heap → (Int → Heap → Prop) → Prop) (c_law22_mod : Int → Int → Heap → (Int → Heap → Prop) → Prop) (s1 : Den kapiScene) (picks2 : Sl) (Q : Sl → Heap → Prop) (go6 : (Sl × (Int × (((Fin 4 → Int) × Unit) × Unit))) → Heap → Prop) (s4 : (Sl × (Int × (((Fin 4 → Int) × Unit) × Unit)))) (h5 : Heap) : Prop :=
    c_law22_total (s1.1, (s1.2.1, (s1.2.2.1, ()))) h5 fun r7 h8 =>
    (((decide (s4.2.1 < r7)) = true →
    Loop (law22_script.l4 c_law22_mod s1 picks2 go6 s4) (⟨none, 0, 0⟩, 0, ()) h8) ∧
    ((decide (s4.2.1 < r7)) = false →
    Q s4.1 h8))
def law22_script.M (c_law22_total : Den kapiScene → Heap → (Int → Heap → Prop) → Prop) (c_law22_mod : Int → Int → Heap → (Int → Heap → Prop) → Prop) (s1 : Den kapiScene) (picks2 : Sl) (h3 : Heap) (Q : Sl → Heap → Prop) : Prop :=
    Loop (law22_script.l5 c_law22_total c_law22_mod s1 picks2 Q) (⟨none, 0, 0⟩, 0, ((fun _ => 0), ()), ()) h3
def law22_script.mk : Mk := (.s (.r [0]) (.s (.r [0]) (.s .d (.s (.s .d (.b (.l [.slot 6 .sl, .slot 7 (.int .i64), .box 5 (.pair (.arr 4 (.int .i64)) .nil)] (.s (.s .d (.c .d .d)) (.j [.slot 6 .sl, .box 5 (.pair (.arr 4 (.int .i64)) .nil)] (.b (.s .d (.s (.s .d (.b (.l [.slot 8 .sl, .slot 9 (.int .i64)] (.s (.s .d (.c .d .d)) (.j [.slot 8 .sl] (.b (.s (.q [] [] [.p 0, .p 1, .p 3, .p 5, .w 2 [2, 9], .w 4 [4, 6, 7, 8, 9], .p 6, .w 7 [7, 8, 9], .p 8, .p 9]) (.c .d .d))) .d))))) (.s .d (.j [.slot 10 (.int .i64)] (.s .d (.c .d .d)) (.s .d .d)))))) .d))))) (.s .d .d)))))

def law22_stands.M (c_explore_Explore : Den kapiScene → Heap → ((Sl × (Int × Unit)) → Heap → Prop) → Prop) (c_explore_Finals : Den kapiScene → Heap → ((Sl × (Int × Unit)) → Heap → Prop) → Prop)  (h1 : Heap) (Q : Bool → Heap → Prop) : Prop :=
    new h1 (([0] : List (Den ((.int .i64) : Kd))).flatMap (Kd.cells ((.int .i64) : Kd))) fun p2 h3 =>
    appendM 1 8 h3 Sl.none ⟨some p2, 1, 1⟩ fun t4 h5 =>
    new h5 (([(0, (1, (0, (1, (0, ())))))] : List (Den kapiAct)).flatMap (Kd.cells kapiAct)) fun p6 h7 =>
    appendM 5 40 h7 ⟨none, 0, 0⟩ ⟨some p6, 1, 1⟩ fun t8 h9 =>
    new h9 (([(0, (1, (0, (2, (0, ())))))] : List (Den kapiAct)).flatMap (Kd.cells kapiAct)) fun p10 h11 =>
    appendM 5 40 h11 ⟨none, 0, 0⟩ ⟨some p10, 1, 1⟩ fun t12 h13 =>
    new h13 (([t8] : List (Den (.sl : Kd))).flatMap (Kd.cells (.sl : Kd))) fun p14 h15 =>
    appendM 1 24 h15 Sl.none ⟨some p14, 1, 1⟩ fun t16 h17 =>
    new h17 (([t12] : List (Den (.sl : Kd))).flatMap (Kd.cells (.sl : Kd))) fun p18 h19 =>
    appendM 1 24 h19 t16 ⟨some p18, 1, 1⟩ fun t20 h21 =>
    c_explore_Explore (1, (t4, (t20, ()))) h21 fun r22 h23 =>
    c_explore_Finals (1, (t4, (t20, ()))) h23 fun r24 h25 =>
    (((decide (r22.2.1 = 0)) = true →
    (((decide (r24.2.1 = 0)) = true →
    (((decide ((r22.1.len : Int) = 2)) = true →
    Q (decide ((r24.1.len : Int) = 2)) h25) ∧
    ((decide ((r22.1.len : Int) = 2)) = false →
    Q false h25))) ∧
    ((decide (r24.2.1 = 0)) = false →
    Q false h25))) ∧
    ((decide (r22.2.1 = 0)) = false →
    Q false h25))
def law22_stands.mk : Mk := (.s .d (.s (.r [0]) (.s .d (.s .d (.s .d (.s .d (.s .d (.s .d (.s .d (.s .d (.s .d (.s .d (.s .d .d)))))))))))))

def explore_Alike.M (c_explore_ready : Den kapiScene → Sl → Heap → (Int → Heap → Prop) → Prop) (c_explore_isScript : Den kapiScene → Sl → Heap → (Bool → Heap → Prop) → Prop) (c_explore_form : Den kapiScene → Sl → Heap → (Sl → Heap → Prop) → Prop) (c_slices_EqualFunc_int_int_int_int : Sl → Sl → Value → Heap → (Bool → Heap → Prop) → Prop) (s1 : Den kapiScene) (p2 : Sl) (q3 : Sl) (h4 : Heap) (Q : (Bool × (Int × Unit)) → Heap → Prop) : Prop :=
    c_explore_ready (s1.1, (s1.2.1, (s1.2.2.1, ()))) p2 h4 fun r5 h6 =>
    (((decide (r5 ≠ 0)) = true →
    Q (false, r5, ()) h6) ∧
    ((decide (r5 ≠ 0)) = false →
    c_explore_isScript (s1.1, (s1.2.1, (s1.2.2.1, ()))) q3 h6 fun r7 h8 =>
    (((!r7) = true →
    Q (false, 220, ()) h8) ∧
    ((!r7) = false →
    c_explore_form (s1.1, (s1.2.1, (s1.2.2.1, ()))) p2 h8 fun r9 h10 =>
    c_explore_form (s1.1, (s1.2.1, (s1.2.2.1, ()))) q3 h10 fun r11 h12 =>
    c_slices_EqualFunc_int_int_int_int r9 r11 (Value.func (.func 59) #[] #[]) h12 fun r13 h14 =>
    Q (r13, 0, ()) h14))))
def explore_Alike.mk : Mk := (.s (.r [0]) (.s (.s .d (.s .d (.c (.s .d .d) .d))) (.s (.s .d (.c (.s .d .d) .d)) (.s (.q [] [] [.p 1, .p 4, .w 0 [0, 2, 5, 6, 7, 8], .w 3 [3, 5, 6, 7, 8], .o 2, .o 5, .o 6, .p 7, .p 8]) .d))))

def law22_mod.j1 (Q : Int → Heap → Prop) (s4 : (Int × Unit)) (h5 : Heap) : Prop :=
    Q s4.1 h5
def law22_mod.M  (x1 : Int) (n2 : Int) (h3 : Heap) (Q : Int → Heap → Prop) : Prop :=
    n2 ≠ 0 ∧
    (((decide ((Int.tmod x1 n2) < 0)) = true →
    law22_mod.j1 Q ((w64 ((Int.tmod x1 n2) + n2)), ()) h3) ∧
    ((decide ((Int.tmod x1 n2) < 0)) = false →
    law22_mod.j1 Q ((Int.tmod x1 n2), ()) h3))
def law22_mod.mk : Mk := (.s .d (.s .d (.j [.slot 5 (.int .i64)] (.s .d (.c .d .d)) (.s .d .d))))

def law22_row.l1 (s1 : Den kapiScene) (picks2 : Sl) (Q : Sl → Heap → Prop) (go6 : (Sl × (Int × (((Fin 4 → Int) × Unit) × Unit))) → Heap → Prop) (s4 : (Sl × (Int × (((Fin 4 → Int) × Unit) × Unit)))) (h5 : Heap) : Prop :=
    (((decide (s4.2.1 < (picks2.len : Int))) = true →
    (0 ≤ s4.2.1 ∧ s4.2.1 < (picks2.len : Int)) ∧
    deref picks2.a fun a7 =>
    ld ((.int .i64) : Kd) h5 (a7.add ((s4.2.1 : Int).toNat * 1)) fun t8 =>
    (0 ≤ t8 ∧ t8 < (4 : Int)) ∧
    (0 ≤ t8 ∧ t8 < (s1.2.2.1.len : Int)) ∧
    deref s1.2.2.1.a fun a9 =>
    ld (.sl : Kd) h5 (a9.add ((t8 : Int).toNat * 1)) fun t10 =>
    (0 ≤ (aget (n := 4) (a := ((.int .i64) : Kd)) s4.2.2.1.1 (t8 : Int).toNat) ∧ (aget (n := 4) (a := ((.int .i64) : Kd)) s4.2.2.1.1 (t8 : Int).toNat) < (t10.len : Int)) ∧
    deref t10.a fun a11 =>
    ld kapiAct h5 (a11.add (((aget (n := 4) (a := ((.int .i64) : Kd)) s4.2.2.1.1 (t8 : Int).toNat) : Int).toNat * 5)) fun t12 =>
    new h5 (([t12] : List (Den kapiAct)).flatMap (Kd.cells kapiAct)) fun p13 h14 =>
    appendM 5 40 h14 s4.1 ⟨some p13, 1, 1⟩ fun t15 h16 =>
    (0 ≤ t8 ∧ t8 < (4 : Int)) ∧
    (0 ≤ t8 ∧ t8 < (4 : Int)) ∧
    go6 (t15, (w64 (s4.2.1 + 1)), ((aset (n := 4) (a := ((.int .i64) : Kd)) s4.2.2.1.1 (t8 : Int).toNat (w64 ((aget (n := 4) (a := ((.int .i64) : Kd)) s4.2.2.1.1 (t8 : Int).toNat) + 1))), ()), ()) h16) ∧
    ((decide (s4.2.1 < (picks2.len : Int))) = false →
    Q s4.1 h5))
def law22_row.M  (s1 : Den kapiScene) (picks2 : Sl) (h3 : Heap) (Q : Sl → Heap → Prop) : Prop :=
    Loop (law22_row.l1 s1 picks2 Q) (⟨none, 0, 0⟩, 0, ((fun _ => 0), ()), ()) h3
def law22_row.mk : Mk := (.s (.r [0]) (.s (.r [0]) (.s .d (.s (.s .d (.b (.l [.slot 6 .sl, .slot 7 (.int .i64), .box 5 (.pair (.arr 4 (.int .i64)) .nil)] (.s (.s .d (.c .d .d)) (.s (.b (.s .d (.s (.q [] [] [.p 0, .p 1, .p 3, .p 6, .p 7, .w 2 [2, 4, 5, 9, 10, 11, 12, 13], .p 4, .w 5 [5, 9, 10, 11, 12, 13], .w 8 [8, 9, 10, 11, 12, 13], .p 9, .w 10 [10, 11, 12, 13], .o 11, .o 12, .p 13]) .d))) .d))))) (.s .d .d)))))

def explore_Depends.j1 (c_explore_touches : Den kapiScene → Den kapiAct → Heap → (Bool → Heap → Prop) → Prop) (s1 : Den kapiScene) (x2 : Den kapiAct) (y3 : Den kapiAct) (Q : Bool → Heap → Prop) (s5 : Unit) (h6 : Heap) : Prop :=
    c_explore_touches (s1.1, (s1.2.1, (s1.2.2.1, ()))) (x2.1, (x2.2.1, (x2.2.2.1, (x2.2.2.2.1, (x2.2.2.2.2.1, ()))))) h6 fun r7 h8 =>
    ((r7 = true →
    c_explore_touches (s1.1, (s1.2.1, (s1.2.2.1, ()))) (y3.1, (y3.2.1, (y3.2.2.1, (y3.2.2.2.1, (y3.2.2.2.2.1, ()))))) h8 fun r9 h10 =>
    ((r9 = true →
    (((decide (x2.2.2.1 = y3.2.2.1)) = true →
    (((decide (x2.2.1 ≠ 0)) = true →
    Q true h10) ∧
    ((decide (x2.2.1 ≠ 0)) = false →
    Q (decide (y3.2.1 ≠ 0)) h10))) ∧
    ((decide (x2.2.2.1 = y3.2.2.1)) = false →
    Q false h10))) ∧
    (r9 = false →
    Q false h10))) ∧
    (r7 = false →
    Q false h8))
def explore_Depends.j2 (c_explore_gives : Den kapiAct → Heap → (Bool → Heap → Prop) → Prop) (c_explore_touches : Den kapiScene → Den kapiAct → Heap → (Bool → Heap → Prop) → Prop) (s1 : Den kapiScene) (x2 : Den kapiAct) (y3 : Den kapiAct) (Q : Bool → Heap → Prop) (s11 : (Bool × Unit)) (h12 : Heap) : Prop :=
    ((s11.1 = true →
    Q true h12) ∧
    (s11.1 = false →
    c_explore_gives (x2.1, (x2.2.1, (x2.2.2.1, (x2.2.2.2.1, (x2.2.2.2.2.1, ()))))) h12 fun r13 h14 =>
    ((r13 = true →
    c_explore_touches (s1.1, (s1.2.1, (s1.2.2.1, ()))) (y3.1, (y3.2.1, (y3.2.2.1, (y3.2.2.2.1, (y3.2.2.2.2.1, ()))))) h14 fun r15 h16 =>
    ((r15 = true →
    Q (decide ((s1.2.1.len : Int) ≤ y3.2.2.1)) h16) ∧
    (r15 = false →
    Q false h16))) ∧
    (r13 = false →
    c_explore_gives (y3.1, (y3.2.1, (y3.2.2.1, (y3.2.2.2.1, (y3.2.2.2.2.1, ()))))) h14 fun r17 h18 =>
    ((r17 = true →
    c_explore_touches (s1.1, (s1.2.1, (s1.2.2.1, ()))) (x2.1, (x2.2.1, (x2.2.2.1, (x2.2.2.2.1, (x2.2.2.2.2.1, ()))))) h18 fun r19 h20 =>
    ((r19 = true →
    Q (decide ((s1.2.1.len : Int) ≤ x2.2.2.1)) h20) ∧
    (r19 = false →
    Q false h20))) ∧
    (r17 = false →
    explore_Depends.j1 c_explore_touches s1 x2 y3 Q () h18))))))
def explore_Depends.M (c_explore_gives : Den kapiAct → Heap → (Bool → Heap → Prop) → Prop) (c_explore_touches : Den kapiScene → Den kapiAct → Heap → (Bool → Heap → Prop) → Prop) (s1 : Den kapiScene) (x2 : Den kapiAct) (y3 : Den kapiAct) (h4 : Heap) (Q : Bool → Heap → Prop) : Prop :=
    c_explore_gives (x2.1, (x2.2.1, (x2.2.2.1, (x2.2.2.2.1, (x2.2.2.2.2.1, ()))))) h4 fun r21 h22 =>
    ((r21 = true →
    c_explore_gives (y3.1, (y3.2.1, (y3.2.2.1, (y3.2.2.2.1, (y3.2.2.2.2.1, ()))))) h22 fun r23 h24 =>
    explore_Depends.j2 c_explore_gives c_explore_touches s1 x2 y3 Q (r23, ()) h24) ∧
    (r21 = false →
    explore_Depends.j2 c_explore_gives c_explore_touches s1 x2 y3 Q (false, ()) h22))
def explore_Depends.mk : Mk := (.s (.r [0, 1, 2]) (.j [] (.b (.j [.slot 7 .bool] .d (.c (.s .d .d) (.s .d (.c (.s .d .d) (.s .d (.c (.s .d .d) .d))))))) (.s .d .d)))

def dag_Span.l1 (Q : Den kapiEdge → Heap → Prop) (r3 : (Sl × (Int × Unit))) (go7 : Den kapiEdge → Heap → Prop) (s5 : Den kapiEdge) (h6 : Heap) : Prop :=
    (((decide (s5.2.1 < (r3.1.len : Int))) = true →
    (0 ≤ s5.2.1 ∧ s5.2.1 < (r3.1.len : Int)) ∧
    deref r3.1.a fun a8 =>
    ld ((.int .i64) : Kd) h6 (a8.add ((s5.2.1 : Int).toNat * 1)) fun t9 =>
    go7 ((if s5.1 < t9 then t9 else s5.1), (w64 (s5.2.1 + 1)), ()) h6) ∧
    ((decide (s5.2.1 < (r3.1.len : Int))) = false →
    Q (s5.1, 0, ()) h6))
def dag_Span.M (c_dag_Earliest : Den kapiDag → Heap → ((Sl × (Int × Unit)) → Heap → Prop) → Prop) (d1 : Den kapiDag) (h2 : Heap) (Q : Den kapiEdge → Heap → Prop) : Prop :=
    c_dag_Earliest (d1.1, (d1.2.1, ())) h2 fun r3 h4 =>
    (((decide (r3.2.1 ≠ 0)) = true →
    Q (0, r3.2.1, ()) h4) ∧
    ((decide (r3.2.1 ≠ 0)) = false →
    Loop (dag_Span.l1 Q r3) (0, 0, ()) h4))
def dag_Span.mk : Mk := (.s (.r [0]) (.s .d (.s (.s .d (.c (.s .d .d) .d)) (.s .d (.s (.s .d (.b (.l [.slot 6 (.int .i64), .slot 19 (.int .i64)] (.s .d (.s (.c .d .d) (.s (.b (.s .d .d)) .d)))))) (.s .d .d))))))

def dag_Earliest.l1 (s7 : Sl) (go11 : (Int × Unit) → Heap → Prop) (s9 : (Int × Unit)) (t13 : Sl) (go16 : (Int × Unit) → Heap → Prop) (s14 : (Int × Unit)) (h15 : Heap) : Prop :=
    (((decide (s14.1 < (t13.len : Int))) = true →
    (0 ≤ s14.1 ∧ s14.1 < (t13.len : Int)) ∧
    deref t13.a fun a17 =>
    ld ((.int .i64) : Kd) h15 (a17.add ((s14.1 : Int).toNat * 1)) fun t18 =>
    (0 ≤ s9.1 ∧ s9.1 < (s7.len : Int)) ∧
    deref s7.a fun a19 =>
    (0 ≤ t18 ∧ t18 < (s7.len : Int)) ∧
    deref s7.a fun a20 =>
    ld ((.int .i64) : Kd) h15 (a19.add ((s9.1 : Int).toNat * 1)) fun t21 =>
    ld ((.int .i64) : Kd) h15 (a20.add ((t18 : Int).toNat * 1)) fun t22 =>
    (0 ≤ s9.1 ∧ s9.1 < (s7.len : Int)) ∧
    deref s7.a fun a23 =>
    st ((.int .i64) : Kd) h15 (a23.add ((s9.1 : Int).toNat * 1)) (if t21 < t22 then t22 else t21) fun h24 =>
    go16 ((w64 (s14.1 + 1)), ()) h24) ∧
    ((decide (s14.1 < (t13.len : Int))) = false →
    (0 ≤ s9.1 ∧ s9.1 < (s7.len : Int)) ∧
    deref s7.a fun a25 =>
    ld ((.int .i64) : Kd) h15 (a25.add ((s9.1 : Int).toNat * 1)) fun t26 =>
    (0 ≤ s9.1 ∧ s9.1 < (s7.len : Int)) ∧
    deref s7.a fun a27 =>
    st ((.int .i64) : Kd) h15 (a27.add ((s9.1 : Int).toNat * 1)) (w64 (t26 + 1)) fun h28 =>
    go11 ((w64 (s9.1 + 1)), ()) h28))
def dag_Earliest.l2 (d1 : Den kapiDag) (Q : (Sl × (Int × Unit)) → Heap → Prop) (r5 : Sl) (s7 : Sl) (go11 : (Int × Unit) → Heap → Prop) (s9 : (Int × Unit)) (h10 : Heap) : Prop :=
    (((decide (s9.1 < d1.1)) = true →
    (0 ≤ s9.1 ∧ s9.1 < (r5.len : Int)) ∧
    deref r5.a fun a12 =>
    ld (.sl : Kd) h10 (a12.add ((s9.1 : Int).toNat * 1)) fun t13 =>
    Loop (dag_Earliest.l1 s7 go11 s9 t13) (0, ()) h10) ∧
    ((decide (s9.1 < d1.1)) = false →
    Q (s7, 0, ()) h10))
def dag_Earliest.M (c_dag_Check : Den kapiDag → Heap → (Int → Heap → Prop) → Prop) (c_dag_ahead : Den kapiDag → Heap → (Sl → Heap → Prop) → Prop) (d1 : Den kapiDag) (h2 : Heap) (Q : (Sl × (Int × Unit)) → Heap → Prop) : Prop :=
    c_dag_Check (d1.1, (d1.2.1, ())) h2 fun r3 h4 =>
    (((decide (r3 ≠ 0)) = true →
    Q (⟨none, 0, 0⟩, r3, ()) h4) ∧
    ((decide (r3 ≠ 0)) = false →
    c_dag_ahead (d1.1, (d1.2.1, ())) h4 fun r5 h6 =>
    makeM ((.int .i64) : Kd) 8 h6 d1.1 d1.1 fun s7 h8 =>
    Loop (dag_Earliest.l2 d1 Q r5 s7) (0, ()) h8))
def dag_Earliest.mk : Mk := (.s (.r [0]) (.s (.s .d (.s .d (.c (.s .d .d) .d))) (.s .d (.s .d (.s (.s .d (.b (.l [.slot 22 (.int .i64)] (.s .d (.s (.c .d .d) (.s (.b (.s .d (.s (.s .d (.b (.l [.slot 30 (.int .i64)] (.s .d (.s (.c .d .d) (.s (.b (.s .d (.q [] [] [.p 0, .p 1, .p 2, .p 3, .p 4, .p 6, .p 7, .p 8, .w 5 [5, 10, 11, 12], .w 9 [9, 10, 11, 12], .p 10, .p 11, .o 12]))) .d)))))) .d))) .d)))))) (.s .d .d))))))

def law22_holds.l1 (l1 : Sl) (n2 : Int) (Q : Bool → Heap → Prop) (go6 : (Int × Unit) → Heap → Prop) (s4 : (Int × Unit)) (h5 : Heap) : Prop :=
    (((decide (s4.1 < (l1.len : Int))) = true →
    (0 ≤ s4.1 ∧ s4.1 < (l1.len : Int)) ∧
    deref l1.a fun a7 =>
    ld ((.int .i64) : Kd) h5 (a7.add ((s4.1 : Int).toNat * 1)) fun t8 =>
    (((decide (t8 = n2)) = true →
    Q true h5) ∧
    ((decide (t8 = n2)) = false →
    go6 ((w64 (s4.1 + 1)), ()) h5))) ∧
    ((decide (s4.1 < (l1.len : Int))) = false →
    Q false h5))
def law22_holds.M  (l1 : Sl) (n2 : Int) (h3 : Heap) (Q : Bool → Heap → Prop) : Prop :=
    Loop (law22_holds.l1 l1 n2 Q) (0, ()) h3
def law22_holds.mk : Mk := (.s .d (.s (.s .d (.b (.l [.slot 5 (.int .i64)] (.s (.s .d (.c .d .d)) (.s (.b (.s .d (.c (.s .d .d) .d))) .d))))) (.s .d .d)))

def explore_ready.M (c_explore_Check : Den kapiScene → Heap → (Int → Heap → Prop) → Prop) (c_explore_isScript : Den kapiScene → Sl → Heap → (Bool → Heap → Prop) → Prop) (s1 : Den kapiScene) (picks2 : Sl) (h3 : Heap) (Q : Int → Heap → Prop) : Prop :=
    c_explore_Check (s1.1, (s1.2.1, (s1.2.2.1, ()))) h3 fun r4 h5 =>
    (((decide (r4 ≠ 0)) = true →
    Q r4 h5) ∧
    ((decide (r4 ≠ 0)) = false →
    c_explore_isScript (s1.1, (s1.2.1, (s1.2.2.1, ()))) picks2 h5 fun r6 h7 =>
    (((!r6) = true →
    Q 220 h7) ∧
    ((!r6) = false →
    Q 0 h7))))
def explore_ready.mk : Mk := (.s (.r [0]) (.s (.s .d (.s .d (.c (.s .d .d) .d))) (.s (.s .d (.c (.s .d .d) .d)) (.s .d .d))))

def explore_form.l1 (go8 : (Sl × (Int × Unit)) → Heap → Prop) (s6 : (Sl × (Int × Unit))) (t10 : Den kexploredone) (go13 : (Sl × Unit) → Heap → Prop) (s11 : (Sl × Unit)) (h12 : Heap) : Prop :=
    (((decide ((s11.1.len : Int) < t10.2.1)) = true →
    new h12 (([⟨none, 0, 0⟩] : List (Den (.sl : Kd))).flatMap (Kd.cells (.sl : Kd))) fun p14 h15 =>
    appendM 1 24 h15 s11.1 ⟨some p14, 1, 1⟩ fun t16 h17 =>
    go13 (t16, ()) h17) ∧
    ((decide ((s11.1.len : Int) < t10.2.1)) = false →
    (0 ≤ (w64 (t10.2.1 - 1)) ∧ (w64 (t10.2.1 - 1)) < (s11.1.len : Int)) ∧
    deref s11.1.a fun a18 =>
    ld (.sl : Kd) h12 (a18.add (((w64 (t10.2.1 - 1)) : Int).toNat * 1)) fun t19 =>
    new h12 (([t10.1] : List (Den ((.int .i64) : Kd))).flatMap (Kd.cells ((.int .i64) : Kd))) fun p20 h21 =>
    appendM 1 8 h21 t19 ⟨some p20, 1, 1⟩ fun t22 h23 =>
    (0 ≤ (w64 (t10.2.1 - 1)) ∧ (w64 (t10.2.1 - 1)) < (s11.1.len : Int)) ∧
    deref s11.1.a fun a24 =>
    st (.sl : Kd) h23 (a24.add (((w64 (t10.2.1 - 1)) : Int).toNat * 1)) t22 fun h25 =>
    go8 (s11.1, (w64 (s6.2.1 + 1)), ()) h25))
def explore_form.l2 (c_slices_Sort_int_int : Sl → Heap → (Unit → Heap → Prop) → Prop) (Q : Sl → Heap → Prop) (s6 : (Sl × (Int × Unit))) (go28 : (Int × Unit) → Heap → Prop) (s26 : (Int × Unit)) (h27 : Heap) : Prop :=
    (((decide (s26.1 < (s6.1.len : Int))) = true →
    (0 ≤ s26.1 ∧ s26.1 < (s6.1.len : Int)) ∧
    deref s6.1.a fun a29 =>
    ld (.sl : Kd) h27 (a29.add ((s26.1 : Int).toNat * 1)) fun t30 =>
    c_slices_Sort_int_int t30 h27 fun r31 h32 =>
    go28 ((w64 (s26.1 + 1)), ()) h32) ∧
    ((decide (s26.1 < (s6.1.len : Int))) = false →
    Q s6.1 h27))
def explore_form.l3 (c_slices_Sort_int_int : Sl → Heap → (Unit → Heap → Prop) → Prop) (Q : Sl → Heap → Prop) (r4 : Sl) (go8 : (Sl × (Int × Unit)) → Heap → Prop) (s6 : (Sl × (Int × Unit))) (h7 : Heap) : Prop :=
    (((decide (s6.2.1 < (r4.len : Int))) = true →
    (0 ≤ s6.2.1 ∧ s6.2.1 < (r4.len : Int)) ∧
    deref r4.a fun a9 =>
    ld kexploredone h7 (a9.add ((s6.2.1 : Int).toNat * 7)) fun t10 =>
    Loop (explore_form.l1 go8 s6 t10) (s6.1, ()) h7) ∧
    ((decide (s6.2.1 < (r4.len : Int))) = false →
    Loop (explore_form.l2 c_slices_Sort_int_int Q s6) (0, ()) h7))
def explore_form.M (c_explore_steps : Den kapiScene → Sl → Heap → (Sl → Heap → Prop) → Prop) (c_slices_Sort_int_int : Sl → Heap → (Unit → Heap → Prop) → Prop) (s1 : Den kapiScene) (picks2 : Sl) (h3 : Heap) (Q : Sl → Heap → Prop) : Prop :=
    c_explore_steps (s1.1, (s1.2.1, (s1.2.2.1, ()))) picks2 h3 fun r4 h5 =>
    Loop (explore_form.l3 c_slices_Sort_int_int Q r4) (⟨none, 0, 0⟩, 0, ()) h5
def explore_form.mk : Mk := (.s (.r [0]) (.s .d (.s (.s .d (.b (.l [.slot 5 .sl, .slot 14 (.int .i64)] (.s .d (.s (.c .d .d) (.s (.b (.s (.r [2]) (.s (.b (.l [.slot 5 .sl] (.s (.s .d (.c .d .d)) (.b .d)))) (.q [] [] [.p 0, .p 1, .p 4, .p 5, .p 10, .w 2 [2, 3, 14, 15], .p 3, .w 6 [6, 7, 8, 9, 13, 14, 15], .p 7, .p 8, .w 9 [9, 13, 14, 15], .w 11 [11, 12, 13, 14, 15], .o 12, .o 13, .p 14, .o 15])))) .d)))))) (.s (.s .d (.b (.l [.slot 44 (.int .i64)] (.s .d (.s (.c .d .d) (.s (.b (.s .d .d)) .d)))))) (.s .d .d)))))

def law22_same.l1 (a1 : Sl) (b2 : Sl) (Q : Bool → Heap → Prop) (go6 : (Int × Unit) → Heap → Prop) (s4 : (Int × Unit)) (h5 : Heap) : Prop :=
    (((decide (s4.1 < (a1.len : Int))) = true →
    (0 ≤ s4.1 ∧ s4.1 < (a1.len : Int)) ∧
    deref a1.a fun a7 =>
    (0 ≤ s4.1 ∧ s4.1 < (b2.len : Int)) ∧
    deref b2.a fun a8 =>
    ld ((.int .i64) : Kd) h5 (a7.add ((s4.1 : Int).toNat * 1)) fun t9 =>
    ld ((.int .i64) : Kd) h5 (a8.add ((s4.1 : Int).toNat * 1)) fun t10 =>
    (((decide (t9 ≠ t10)) = true →
    Q false h5) ∧
    ((decide (t9 ≠ t10)) = false →
    go6 ((w64 (s4.1 + 1)), ()) h5))) ∧
    ((decide (s4.1 < (a1.len : Int))) = false →
    Q true h5))
def law22_same.M  (a1 : Sl) (b2 : Sl) (h3 : Heap) (Q : Bool → Heap → Prop) : Prop :=
    (((decide ((a1.len : Int) ≠ (b2.len : Int))) = true →
    Q false h3) ∧
    ((decide ((a1.len : Int) ≠ (b2.len : Int))) = false →
    Loop (law22_same.l1 a1 b2 Q) (0, ()) h3))
def law22_same.mk : Mk := (.s .d (.s (.s .d (.c (.s .d .d) .d)) (.s (.s .d (.b (.l [.slot 5 (.int .i64)] (.s (.s .d (.c .d .d)) (.s (.b (.s (.q [] [] [.p 0, .p 1, .p 2, .p 4, .p 5, .p 6, .w 3 [3, 8], .w 7 [7, 8], .p 8]) (.c (.s .d .d) .d))) .d))))) (.s .d .d))))

def law22_sameCells.l1 (a1 : Sl) (b2 : Sl) (Q : Bool → Heap → Prop) (go6 : (Int × Unit) → Heap → Prop) (s4 : (Int × Unit)) (h5 : Heap) : Prop :=
    (((decide (s4.1 < (a1.len : Int))) = true →
    (0 ≤ s4.1 ∧ s4.1 < (a1.len : Int)) ∧
    deref a1.a fun a7 =>
    (0 ≤ s4.1 ∧ s4.1 < (b2.len : Int)) ∧
    deref b2.a fun a8 =>
    ld ((.int .i64) : Kd) h5 (a7.add ((s4.1 : Int).toNat * 1)) fun t9 =>
    ld ((.int .i64) : Kd) h5 (a8.add ((s4.1 : Int).toNat * 1)) fun t10 =>
    (((decide (t9 ≠ t10)) = true →
    Q false h5) ∧
    ((decide (t9 ≠ t10)) = false →
    go6 ((w64 (s4.1 + 1)), ()) h5))) ∧
    ((decide (s4.1 < (a1.len : Int))) = false →
    Q true h5))
def law22_sameCells.M  (a1 : Sl) (b2 : Sl) (h3 : Heap) (Q : Bool → Heap → Prop) : Prop :=
    (((decide ((a1.len : Int) ≠ (b2.len : Int))) = true →
    Q false h3) ∧
    ((decide ((a1.len : Int) ≠ (b2.len : Int))) = false →
    Loop (law22_sameCells.l1 a1 b2 Q) (0, ()) h3))
def law22_sameCells.mk : Mk := (.s .d (.s (.s .d (.c (.s .d .d) .d)) (.s (.s .d (.b (.l [.slot 5 (.int .i64)] (.s (.s .d (.c .d .d)) (.s (.b (.s (.q [] [] [.p 0, .p 1, .p 2, .p 4, .p 5, .p 6, .w 3 [3, 8], .w 7 [7, 8], .p 8]) (.c (.s .d .d) .d))) .d))))) (.s .d .d))))

def explore_Check.j1 (go19 : (Int × Unit) → Heap → Prop) (s17 : (Int × Unit)) (s20 : Unit) (h21 : Heap) : Prop :=
    go19 ((w64 (s17.1 + 1)), ()) h21
def explore_Check.j2 (Q : Int → Heap → Prop) (go19 : (Int × Unit) → Heap → Prop) (s17 : (Int × Unit)) (s24 : (Bool × Unit)) (h25 : Heap) : Prop :=
    ((s24.1 = true →
    Q 23 h25) ∧
    (s24.1 = false →
    explore_Check.j1 go19 s17 () h25))
def explore_Check.l3 (Q : Int → Heap → Prop) (go14 : (Int × Unit) → Heap → Prop) (s12 : (Int × Unit)) (t16 : Sl) (go19 : (Int × Unit) → Heap → Prop) (s17 : (Int × Unit)) (h18 : Heap) : Prop :=
    (((decide (s17.1 < (t16.len : Int))) = true →
    (0 ≤ s17.1 ∧ s17.1 < (t16.len : Int)) ∧
    deref t16.a fun a22 =>
    ld kapiAct h18 (a22.add ((s17.1 : Int).toNat * 5)) fun t23 =>
    (((decide (t23.2.1 < 0)) = true →
    explore_Check.j2 Q go19 s17 (true, ()) h18) ∧
    ((decide (t23.2.1 < 0)) = false →
    explore_Check.j2 Q go19 s17 ((decide ((4 : Int) < t23.2.1)), ()) h18))) ∧
    ((decide (s17.1 < (t16.len : Int))) = false →
    go14 ((w64 (s12.1 + 1)), ()) h18))
def explore_Check.l4 (s1 : Den kapiScene) (Q : Int → Heap → Prop) (go14 : (Int × Unit) → Heap → Prop) (s12 : (Int × Unit)) (h13 : Heap) : Prop :=
    (((decide (s12.1 < (s1.2.2.1.len : Int))) = true →
    (0 ≤ s12.1 ∧ s12.1 < (s1.2.2.1.len : Int)) ∧
    deref s1.2.2.1.a fun a15 =>
    ld (.sl : Kd) h13 (a15.add ((s12.1 : Int).toNat * 1)) fun t16 =>
    Loop (explore_Check.l3 Q go14 s12 t16) (0, ()) h13) ∧
    ((decide (s12.1 < (s1.2.2.1.len : Int))) = false →
    Q 0 h13))
def explore_Check.j5 (s1 : Den kapiScene) (Q : Int → Heap → Prop) (s10 : Unit) (h11 : Heap) : Prop :=
    Loop (explore_Check.l4 s1 Q) (0, ()) h11
def explore_Check.j6 (s1 : Den kapiScene) (Q : Int → Heap → Prop) (s26 : (Bool × Unit)) (h27 : Heap) : Prop :=
    ((s26.1 = true →
    Q 2 h27) ∧
    (s26.1 = false →
    explore_Check.j5 s1 Q () h27))
def explore_Check.l7 (s1 : Den kapiScene) (Q : Int → Heap → Prop) (go7 : Den kapiEdge → Heap → Prop) (s5 : Den kapiEdge) (h6 : Heap) : Prop :=
    (((decide (s5.2.1 < (s1.2.2.1.len : Int))) = true →
    (0 ≤ s5.2.1 ∧ s5.2.1 < (s1.2.2.1.len : Int)) ∧
    deref s1.2.2.1.a fun a8 =>
    ld (.sl : Kd) h6 (a8.add ((s5.2.1 : Int).toNat * 1)) fun t9 =>
    go7 ((w64 (s5.1 + (t9.len : Int))), (w64 (s5.2.1 + 1)), ()) h6) ∧
    ((decide (s5.2.1 < (s1.2.2.1.len : Int))) = false →
    (((decide (s1.1 < (s1.2.1.len : Int))) = true →
    explore_Check.j6 s1 Q (true, ()) h6) ∧
    ((decide (s1.1 < (s1.2.1.len : Int))) = false →
    (((decide ((4 : Int) < (s1.2.2.1.len : Int))) = true →
    explore_Check.j6 s1 Q (true, ()) h6) ∧
    ((decide ((4 : Int) < (s1.2.2.1.len : Int))) = false →
    explore_Check.j6 s1 Q ((decide ((10 : Int) < s5.1)), ()) h6))))))
def explore_Check.j8 (s1 : Den kapiScene) (Q : Int → Heap → Prop) (s3 : Unit) (h4 : Heap) : Prop :=
    Loop (explore_Check.l7 s1 Q) (0, 0, ()) h4
def explore_Check.j9 (s1 : Den kapiScene) (Q : Int → Heap → Prop) (s28 : (Bool × Unit)) (h29 : Heap) : Prop :=
    ((s28.1 = true →
    Q 3 h29) ∧
    (s28.1 = false →
    explore_Check.j8 s1 Q () h29))
def explore_Check.M  (s1 : Den kapiScene) (h2 : Heap) (Q : Int → Heap → Prop) : Prop :=
    (((decide (s1.1 < 0)) = true →
    explore_Check.j9 s1 Q (true, ()) h2) ∧
    ((decide (s1.1 < 0)) = false →
    explore_Check.j9 s1 Q ((decide ((64 : Int) < s1.1)), ()) h2))
def explore_Check.mk : Mk := (.s (.r [0]) (.j [] (.j [.slot 17 .bool] .d (.c (.s .d .d) .d)) (.s .d (.s (.s .d (.b (.l [.slot 3 (.int .i64), .slot 21 (.int .i64)] (.s .d (.s (.c .d .d) (.s (.b (.s .d .d)) .d)))))) (.j [] (.j [.slot 45 .bool] .d (.c (.s .d .d) .d)) (.s (.s .d (.b (.l [.slot 49 (.int .i64)] (.s .d (.s (.c .d .d) (.s (.b (.s .d (.s .d (.b (.l [.slot 55 (.int .i64)] (.s .d (.s (.c .d .d) (.j [] (.b (.s (.r [2]) (.j [.slot 66 .bool] .d (.c (.s .d .d) .d)))) .d)))))))) .d)))))) (.s .d .d)))))))

def explore_traces.M  (s1 : Den kapiScene) (h2 : Heap) (Q : Value → Heap → Prop) : Prop :=
    new h2 (kapiScene.cells s1) fun p3 h4 =>
    Q (Value.func (.func 73) (List.toArray []) (List.toArray [Kd.val (.ptr : Kd) (some p3)])) h4
def explore_traces.mk : Mk := (.s .d (.s .d .d))

def explore_play.l1 (c_explore_act : Option Addr → Den kapiAct → Heap → (Den kapiEffect → Heap → Prop) → Prop) (c_cells_Arena_Cells : Option Addr → Heap → (Sl → Heap → Prop) → Prop) (s1 : Den kapiScene) (picks2 : Sl) (Q : Den kapiEnding → Heap → Prop) (r4 : (Option Addr × (Int × Unit))) (s15 : Sl) (go19 : (Int × Unit) → Heap → Prop) (s17 : (Int × Unit)) (h18 : Heap) : Prop :=
    (((decide (s17.1 < (picks2.len : Int))) = true →
    (0 ≤ s17.1 ∧ s17.1 < (picks2.len : Int)) ∧
    deref picks2.a fun a20 =>
    ld ((.int .i64) : Kd) h18 (a20.add ((s17.1 : Int).toNat * 1)) fun t21 =>
    (0 ≤ t21 ∧ t21 < (s1.2.2.1.len : Int)) ∧
    deref s1.2.2.1.a fun a22 =>
    ld (.sl : Kd) h18 (a22.add ((t21 : Int).toNat * 1)) fun t23 =>
    (0 ≤ t21 ∧ t21 < (s15.len : Int)) ∧
    deref s15.a fun a24 =>
    ld (.sl : Kd) h18 (a24.add ((t21 : Int).toNat * 1)) fun t25 =>
    (0 ≤ (t25.len : Int) ∧ (t25.len : Int) < (t23.len : Int)) ∧
    deref t23.a fun a26 =>
    ld kapiAct h18 (a26.add (((t25.len : Int) : Int).toNat * 5)) fun t27 =>
    (0 ≤ t21 ∧ t21 < (s15.len : Int)) ∧
    deref s15.a fun a28 =>
    ld (.sl : Kd) h18 (a28.add ((t21 : Int).toNat * 1)) fun t29 =>
    c_explore_act r4.1 (t27.1, (t27.2.1, (t27.2.2.1, (t27.2.2.2.1, (t27.2.2.2.2.1, ()))))) h18 fun r30 h31 =>
    sees h31 (some (a28.add ((t21 : Int).toNat * 1))) (.sl : Kd) t29 ∧
    new h31 (([r30] : List (Den kapiEffect)).flatMap (Kd.cells kapiEffect)) fun p32 h33 =>
    appendM 3 24 h33 t29 ⟨some p32, 1, 1⟩ fun t34 h35 =>
    (0 ≤ t21 ∧ t21 < (s15.len : Int)) ∧
    deref s15.a fun a36 =>
    st (.sl : Kd) h35 (a36.add ((t21 : Int).toNat * 1)) t34 fun h37 =>
    go19 ((w64 (s17.1 + 1)), ()) h37) ∧
    ((decide (s17.1 < (picks2.len : Int))) = false →
    c_cells_Arena_Cells r4.1 h18 fun r38 h39 =>
    Q (s15, (r38, ())) h39))
def explore_play.l2 (c_cells_Arena_Store : Option Addr → Int → Int → Heap → (Int → Heap → Prop) → Prop) (c_explore_act : Option Addr → Den kapiAct → Heap → (Den kapiEffect → Heap → Prop) → Prop) (c_cells_Arena_Cells : Option Addr → Heap → (Sl → Heap → Prop) → Prop) (s1 : Den kapiScene) (picks2 : Sl) (Q : Den kapiEnding → Heap → Prop) (r4 : (Option Addr × (Int × Unit))) (go10 : (Int × Unit) → Heap → Prop) (s8 : (Int × Unit)) (h9 : Heap) : Prop :=
    (((decide (s8.1 < (s1.2.1.len : Int))) = true →
    (0 ≤ s8.1 ∧ s8.1 < (s1.2.1.len : Int)) ∧
    deref s1.2.1.a fun a11 =>
    ld ((.int .i64) : Kd) h9 (a11.add ((s8.1 : Int).toNat * 1)) fun t12 =>
    c_cells_Arena_Store r4.1 s8.1 t12 h9 fun r13 h14 =>
    go10 ((w64 (s8.1 + 1)), ()) h14) ∧
    ((decide (s8.1 < (s1.2.1.len : Int))) = false →
    makeM (.sl : Kd) 24 h9 (s1.2.2.1.len : Int) (s1.2.2.1.len : Int) fun s15 h16 =>
    Loop (explore_play.l1 c_explore_act c_cells_Arena_Cells s1 picks2 Q r4 s15) (0, ()) h16))
def explore_play.j3 (c_cells_Arena_Store : Option Addr → Int → Int → Heap → (Int → Heap → Prop) → Prop) (c_explore_act : Option Addr → Den kapiAct → Heap → (Den kapiEffect → Heap → Prop) → Prop) (c_cells_Arena_Cells : Option Addr → Heap → (Sl → Heap → Prop) → Prop) (s1 : Den kapiScene) (picks2 : Sl) (Q : Den kapiEnding → Heap → Prop) (r4 : (Option Addr × (Int × Unit))) (s6 : Unit) (h7 : Heap) : Prop :=
    Loop (explore_play.l2 c_cells_Arena_Store c_explore_act c_cells_Arena_Cells s1 picks2 Q r4) (0, ()) h7
def explore_play.M (c_cells_New : Int → Heap → ((Option Addr × (Int × Unit)) → Heap → Prop) → Prop) (c_cells_Arena_Reserve : Option Addr → Int → Heap → (Den kapiEdge → Heap → Prop) → Prop) (c_cells_Arena_Store : Option Addr → Int → Int → Heap → (Int → Heap → Prop) → Prop) (c_explore_act : Option Addr → Den kapiAct → Heap → (Den kapiEffect → Heap → Prop) → Prop) (c_cells_Arena_Cells : Option Addr → Heap → (Sl → Heap → Prop) → Prop) (s1 : Den kapiScene) (picks2 : Sl) (h3 : Heap) (Q : Den kapiEnding → Heap → Prop) : Prop :=
    c_cells_New s1.1 h3 fun r4 h5 =>
    (((decide ((0 : Int) < (s1.2.1.len : Int))) = true →
    c_cells_Arena_Reserve r4.1 (s1.2.1.len : Int) h5 fun r40 h41 =>
    explore_play.j3 c_cells_Arena_Store c_explore_act c_cells_Arena_Cells s1 picks2 Q r4 () h41) ∧
    ((decide ((0 : Int) < (s1.2.1.len : Int))) = false →
    explore_play.j3 c_cells_Arena_Store c_explore_act c_cells_Arena_Cells s1 picks2 Q r4 () h5))
def explore_play.mk : Mk := (.s (.r [0, 1]) (.s .d (.j [] (.s .d (.c .d .d)) (.s (.s .d (.b (.l [.slot 31 (.int .i64)] (.s .d (.s (.c .d .d) (.s (.b (.s .d .d)) .d)))))) (.s (.r [5]) (.s (.s .d (.b (.l [.slot 48 (.int .i64)] (.s .d (.s (.c .d .d) (.s (.b (.s .d (.s (.q [13] [12] [.p 0, .p 2, .p 5, .p 7, .w 1 [1, 3, 4, 11, 12, 14], .p 3, .w 4 [4, 11, 12, 14], .w 6 [6, 8, 9, 10, 11, 12, 14], .p 8, .w 9 [9, 10, 11, 12, 14], .p 10, .p 11, .w 12 [12, 14], .o 13, .o 14]) (.q [] [] [.p 0, .p 2, .p 3, .p 5, .p 8, .w 1 [1, 13, 14], .w 4 [4, 6, 7, 12, 13, 14], .p 6, .w 7 [7, 12, 13, 14], .w 9 [9, 10, 11, 12, 13, 14], .o 10, .o 11, .o 12, .p 13, .o 14])))) .d)))))) (.s .d (.s .d .d))))))))

def slices_BinarySearchFunc_int64_int64_int64.l1 (c_fn : Value → Sl → Sl → Heap → (Int → Heap → Prop) → Prop) (x1 : Sl) (target2 : Sl) (cmp3 : Value) (Q : (Int × (Bool × Unit)) → Heap → Prop) (go7 : Den kapiEdge → Heap → Prop) (s5 : Den kapiEdge) (h6 : Heap) : Prop :=
    (((decide (s5.1 < s5.2.1)) = true →
    0 ≤ (1 : Int) ∧
    (0 ≤ (w64 (Int.fdiv (IntKind.wrap .u64 (w64 (s5.1 + s5.2.1))) (2 ^ (min (1 : Int).toNat (IntKind.bits .u64))))) ∧ (w64 (Int.fdiv (IntKind.wrap .u64 (w64 (s5.1 + s5.2.1))) (2 ^ (min (1 : Int).toNat (IntKind.bits .u64))))) < (x1.len : Int)) ∧
    deref x1.a fun a8 =>
    ld (.sl : Kd) h6 (a8.add (((w64 (Int.fdiv (IntKind.wrap .u64 (w64 (s5.1 + s5.2.1))) (2 ^ (min (1 : Int).toNat (IntKind.bits .u64))))) : Int).toNat * 1)) fun t9 =>
    c_fn cmp3 t9 target2 h6 fun r10 h11 =>
    (((decide (r10 < 0)) = true →
    go7 ((w64 ((w64 (Int.fdiv (IntKind.wrap .u64 (w64 (s5.1 + s5.2.1))) (2 ^ (min (1 : Int).toNat (IntKind.bits .u64))))) + 1)), s5.2.1, ()) h11) ∧
    ((decide (r10 < 0)) = false →
    go7 (s5.1, (w64 (Int.fdiv (IntKind.wrap .u64 (w64 (s5.1 + s5.2.1))) (2 ^ (min (1 : Int).toNat (IntKind.bits .u64))))), ()) h11))) ∧
    ((decide (s5.1 < s5.2.1)) = false →
    (((decide (s5.1 < (x1.len : Int))) = true →
    (0 ≤ s5.1 ∧ s5.1 < (x1.len : Int)) ∧
    deref x1.a fun a12 =>
    ld (.sl : Kd) h6 (a12.add ((s5.1 : Int).toNat * 1)) fun t13 =>
    c_fn cmp3 t13 target2 h6 fun r14 h15 =>
    Q (s5.1, (decide (r14 = 0)), ()) h15) ∧
    ((decide (s5.1 < (x1.len : Int))) = false →
    Q (s5.1, false, ()) h6))))
def slices_BinarySearchFunc_int64_int64_int64.M (c_fn : Value → Sl → Sl → Heap → (Int → Heap → Prop) → Prop) (x1 : Sl) (target2 : Sl) (cmp3 : Value) (h4 : Heap) (Q : (Int × (Bool × Unit)) → Heap → Prop) : Prop :=
    Loop (slices_BinarySearchFunc_int64_int64_int64.l1 c_fn x1 target2 cmp3 Q) (0, (x1.len : Int), ()) h4
def slices_BinarySearchFunc_int64_int64_int64.mk : Mk := (.s .d (.s .d (.s .d (.s (.b (.l [.slot 9 (.int .i64), .slot 10 (.int .i64)] (.s (.s .d (.c .d .d)) (.b (.s .d (.s .d (.c .d .d))))))) (.s .d .d)))))

def explore_lesser.M (c_cmp_Compare_int : Int → Int → Heap → (Int → Heap → Prop) → Prop) (c_slices_Compare_int64_int64 : Sl → Sl → Heap → (Int → Heap → Prop) → Prop) (a1 : Sl) (b2 : Sl) (h3 : Heap) (Q : Int → Heap → Prop) : Prop :=
    c_cmp_Compare_int (a1.len : Int) (b2.len : Int) h3 fun r4 h5 =>
    (((decide (r4 ≠ 0)) = true →
    Q r4 h5) ∧
    ((decide (r4 ≠ 0)) = false →
    c_slices_Compare_int64_int64 a1 b2 h5 fun r6 h7 =>
    Q r6 h7))
def explore_lesser.mk : Mk := (.s .d (.s (.s .d (.s .d (.c (.s .d .d) .d))) (.s .d .d)))

def slices_Insert_int64_int64.M (c_slices_overlaps_int64 : Sl → Sl → Heap → (Bool → Heap → Prop) → Prop) (c_slices_rotateRight_int64 : Sl → Int → Heap → (Unit → Heap → Prop) → Prop) (s1 : Sl) (i2 : Int) (v3 : Sl) (h4 : Heap) (Q : Sl → Heap → Prop) : Prop :=
    (0 ≤ i2 ∧ i2 ≤ (s1.len : Int)) ∧
    (((decide ((v3.len : Int) = 0)) = true →
    Q s1 h4) ∧
    ((decide ((v3.len : Int) = 0)) = false →
    (((decide (i2 = (s1.len : Int))) = true →
    appendM 1 24 h4 s1 v3 fun t5 h6 =>
    Q t5 h6) ∧
    ((decide (i2 = (s1.len : Int))) = false →
    (((decide ((s1.cap : Int) < (w64 ((s1.len : Int) + (v3.len : Int))))) = true →
    (0 ≤ i2 ∧ i2 ≤ (s1.cap : Int)) ∧
    appendZM (.sl : Kd) 24 h4 (s1.cut 0 ((i2 : Int).toNat) 1) (w64 ((w64 ((s1.len : Int) + (v3.len : Int))) - i2)) fun t7 h8 =>
    (0 ≤ i2 ∧ i2 ≤ (t7.len : Int)) ∧
    copyM 1 h8 (t7.cut ((i2 : Int).toNat) t7.len 1) v3 fun n9 h10 =>
    (0 ≤ (w64 (i2 + (v3.len : Int))) ∧ (w64 (i2 + (v3.len : Int))) ≤ (t7.len : Int)) ∧
    (0 ≤ i2 ∧ i2 ≤ (s1.len : Int)) ∧
    copyM 1 h10 (t7.cut (((w64 (i2 + (v3.len : Int))) : Int).toNat) t7.len 1) (s1.cut ((i2 : Int).toNat) s1.len 1) fun n11 h12 =>
    Q t7 h12) ∧
    ((decide ((s1.cap : Int) < (w64 ((s1.len : Int) + (v3.len : Int))))) = false →
    (0 ≤ (w64 ((s1.len : Int) + (v3.len : Int))) ∧ (w64 ((s1.len : Int) + (v3.len : Int))) ≤ (s1.cap : Int)) ∧
    (0 ≤ (w64 (i2 + (v3.len : Int))) ∧ (w64 (i2 + (v3.len : Int))) ≤ ((s1.cut 0 (((w64 ((s1.len : Int) + (v3.len : Int))) : Int).toNat) 1).len : Int)) ∧
    c_slices_overlaps_int64 v3 ((s1.cut 0 (((w64 ((s1.len : Int) + (v3.len : Int))) : Int).toNat) 1).cut (((w64 (i2 + (v3.len : Int))) : Int).toNat) ((s1.cut 0 (((w64 ((s1.len : Int) + (v3.len : Int))) : Int).toNat) 1).len) 1) h4 fun r13 h14 =>
    (((!r13) = true →
    (0 ≤ (w64 (i2 + (v3.len : Int))) ∧ (w64 (i2 + (v3.len : Int))) ≤ ((s1.cut 0 (((w64 ((s1.len : Int) + (v3.len : Int))) : Int).toNat) 1).len : Int)) ∧
    (0 ≤ i2 ∧ i2 ≤ ((s1.cut 0 (((w64 ((s1.len : Int) + (v3.len : Int))) : Int).toNat) 1).len : Int)) ∧
    copyM 1 h14 ((s1.cut 0 (((w64 ((s1.len : Int) + (v3.len : Int))) : Int).toNat) 1).cut (((w64 (i2 + (v3.len : Int))) : Int).toNat) ((s1.cut 0 (((w64 ((s1.len : Int) + (v3.len : Int))) : Int).toNat) 1).len) 1) ((s1.cut 0 (((w64 ((s1.len : Int) + (v3.len : Int))) : Int).toNat) 1).cut ((i2 : Int).toNat) ((s1.cut 0 (((w64 ((s1.len : Int) + (v3.len : Int))) : Int).toNat) 1).len) 1) fun n15 h16 =>
    (0 ≤ i2 ∧ i2 ≤ ((s1.cut 0 (((w64 ((s1.len : Int) + (v3.len : Int))) : Int).toNat) 1).len : Int)) ∧
    copyM 1 h16 ((s1.cut 0 (((w64 ((s1.len : Int) + (v3.len : Int))) : Int).toNat) 1).cut ((i2 : Int).toNat) ((s1.cut 0 (((w64 ((s1.len : Int) + (v3.len : Int))) : Int).toNat) 1).len) 1) v3 fun n17 h18 =>
    Q (s1.cut 0 (((w64 ((s1.len : Int) + (v3.len : Int))) : Int).toNat) 1) h18) ∧
    ((!r13) = false →
    (0 ≤ (s1.len : Int) ∧ (s1.len : Int) ≤ ((s1.cut 0 (((w64 ((s1.len : Int) + (v3.len : Int))) : Int).toNat) 1).len : Int)) ∧
    copyM 1 h14 ((s1.cut 0 (((w64 ((s1.len : Int) + (v3.len : Int))) : Int).toNat) 1).cut (((s1.len : Int) : Int).toNat) ((s1.cut 0 (((w64 ((s1.len : Int) + (v3.len : Int))) : Int).toNat) 1).len) 1) v3 fun n19 h20 =>
    (0 ≤ i2 ∧ i2 ≤ ((s1.cut 0 (((w64 ((s1.len : Int) + (v3.len : Int))) : Int).toNat) 1).len : Int)) ∧
    c_slices_rotateRight_int64 ((s1.cut 0 (((w64 ((s1.len : Int) + (v3.len : Int))) : Int).toNat) 1).cut ((i2 : Int).toNat) ((s1.cut 0 (((w64 ((s1.len : Int) + (v3.len : Int))) : Int).toNat) 1).len) 1) (v3.len : Int) h20 fun r21 h22 =>
    Q (s1.cut 0 (((w64 ((s1.len : Int) + (v3.len : Int))) : Int).toNat) 1) h22))))))))
def slices_Insert_int64_int64.mk : Mk := (.s .d (.s .d (.s .d (.s (.s .d (.c (.s .d .d) .d)) (.s .d (.s (.s .d (.c (.s .d .d) .d)) (.s (.s .d (.c (.s .d (.s .d (.s (.q [] [] [.p 0, .p 1, .p 2, .p 3, .p 4, .p 5, .p 6, .p 7, .o 8]) (.s .d .d)))) .d)) (.s .d (.s (.s .d (.c (.s (.q [] [] [.p 0, .p 1, .p 2, .p 3, .p 4, .p 5, .p 6, .p 7, .o 8]) (.s .d (.s .d .d))) .d)) (.s .d (.s .d (.s .d .d))))))))))))

def law22_total.l1 (s1 : Den kapiScene) (Q : Int → Heap → Prop) (go5 : Den kapiEdge → Heap → Prop) (s3 : Den kapiEdge) (h4 : Heap) : Prop :=
    (((decide (s3.2.1 < (s1.2.2.1.len : Int))) = true →
    (0 ≤ s3.2.1 ∧ s3.2.1 < (s1.2.2.1.len : Int)) ∧
    deref s1.2.2.1.a fun a6 =>
    ld (.sl : Kd) h4 (a6.add ((s3.2.1 : Int).toNat * 1)) fun t7 =>
    go5 ((w64 (s3.1 + (t7.len : Int))), (w64 (s3.2.1 + 1)), ()) h4) ∧
    ((decide (s3.2.1 < (s1.2.2.1.len : Int))) = false →
    Q s3.1 h4))
def law22_total.M  (s1 : Den kapiScene) (h2 : Heap) (Q : Int → Heap → Prop) : Prop :=
    Loop (law22_total.l1 s1 Q) (0, 0, ()) h2
def law22_total.mk : Mk := (.s (.r [0]) (.s .d (.s (.s .d (.b (.l [.slot 3 (.int .i64), .slot 4 (.int .i64)] (.s (.s .d (.c .d .d)) (.s (.b .d) .d))))) (.s .d .d))))

def explore_isScript.j1 (go15 : (Int × Unit) → Heap → Prop) (s13 : (Int × Unit)) (s16 : Unit) (h17 : Heap) : Prop :=
    go15 ((w64 (s13.1 + 1)), ()) h17
def explore_isScript.j2 (s4 : Sl) (go15 : (Int × Unit) → Heap → Prop) (s13 : (Int × Unit)) (t19 : Int) (s20 : Unit) (h21 : Heap) : Prop :=
    (0 ≤ t19 ∧ t19 < (s4.len : Int)) ∧
    deref s4.a fun a22 =>
    ld ((.int .i64) : Kd) h21 (a22.add ((t19 : Int).toNat * 1)) fun t23 =>
    (0 ≤ t19 ∧ t19 < (s4.len : Int)) ∧
    deref s4.a fun a24 =>
    st ((.int .i64) : Kd) h21 (a24.add ((t19 : Int).toNat * 1)) (w64 (t23 - 1)) fun h25 =>
    explore_isScript.j1 go15 s13 () h25
def explore_isScript.j3 (Q : Bool → Heap → Prop) (s4 : Sl) (go15 : (Int × Unit) → Heap → Prop) (s13 : (Int × Unit)) (t19 : Int) (s26 : (Bool × Unit)) (h27 : Heap) : Prop :=
    ((s26.1 = true →
    Q false h27) ∧
    (s26.1 = false →
    explore_isScript.j2 s4 go15 s13 t19 () h27))
def explore_isScript.l4 (c_slices_ContainsFunc_int_int : Sl → Value → Heap → (Bool → Heap → Prop) → Prop) (picks2 : Sl) (Q : Bool → Heap → Prop) (s4 : Sl) (go15 : (Int × Unit) → Heap → Prop) (s13 : (Int × Unit)) (h14 : Heap) : Prop :=
    (((decide (s13.1 < (picks2.len : Int))) = true →
    (0 ≤ s13.1 ∧ s13.1 < (picks2.len : Int)) ∧
    deref picks2.a fun a18 =>
    ld ((.int .i64) : Kd) h14 (a18.add ((s13.1 : Int).toNat * 1)) fun t19 =>
    (((decide (t19 < 0)) = true →
    explore_isScript.j3 Q s4 go15 s13 t19 (true, ()) h14) ∧
    ((decide (t19 < 0)) = false →
    (((decide ((s4.len : Int) ≤ t19)) = true →
    explore_isScript.j3 Q s4 go15 s13 t19 (true, ()) h14) ∧
    ((decide ((s4.len : Int) ≤ t19)) = false →
    (0 ≤ t19 ∧ t19 < (s4.len : Int)) ∧
    deref s4.a fun a28 =>
    ld ((.int .i64) : Kd) h14 (a28.add ((t19 : Int).toNat * 1)) fun t29 =>
    explore_isScript.j3 Q s4 go15 s13 t19 ((decide (t29 = 0)), ()) h14))))) ∧
    ((decide (s13.1 < (picks2.len : Int))) = false →
    c_slices_ContainsFunc_int_int s4 (Value.func (.func 85) #[] #[]) h14 fun r30 h31 =>
    Q (!r30) h31))
def explore_isScript.l5 (c_slices_ContainsFunc_int_int : Sl → Value → Heap → (Bool → Heap → Prop) → Prop) (s1 : Den kapiScene) (picks2 : Sl) (Q : Bool → Heap → Prop) (s4 : Sl) (go8 : (Int × Unit) → Heap → Prop) (s6 : (Int × Unit)) (h7 : Heap) : Prop :=
    (((decide (s6.1 < (s1.2.2.1.len : Int))) = true →
    (0 ≤ s6.1 ∧ s6.1 < (s1.2.2.1.len : Int)) ∧
    deref s1.2.2.1.a fun a9 =>
    ld (.sl : Kd) h7 (a9.add ((s6.1 : Int).toNat * 1)) fun t10 =>
    (0 ≤ s6.1 ∧ s6.1 < (s4.len : Int)) ∧
    deref s4.a fun a11 =>
    st ((.int .i64) : Kd) h7 (a11.add ((s6.1 : Int).toNat * 1)) (t10.len : Int) fun h12 =>
    go8 ((w64 (s6.1 + 1)), ()) h12) ∧
    ((decide (s6.1 < (s1.2.2.1.len : Int))) = false →
    Loop (explore_isScript.l4 c_slices_ContainsFunc_int_int picks2 Q s4) (0, ()) h7))
def explore_isScript.M (c_slices_ContainsFunc_int_int : Sl → Value → Heap → (Bool → Heap → Prop) → Prop) (s1 : Den kapiScene) (picks2 : Sl) (h3 : Heap) (Q : Bool → Heap → Prop) : Prop :=
    makeM ((.int .i64) : Kd) 8 h3 (s1.2.2.1.len : Int) (s1.2.2.1.len : Int) fun s4 h5 =>
    Loop (explore_isScript.l5 c_slices_ContainsFunc_int_int s1 picks2 Q s4) (0, ()) h5
def explore_isScript.mk : Mk := (.s (.r [0]) (.s .d (.s (.s .d (.b (.l [.slot 17 (.int .i64)] (.s .d (.s (.c .d .d) (.s (.b (.s .d .d)) .d)))))) (.s (.s .d (.b (.l [.slot 30 (.int .i64)] (.s .d (.s (.c .d .d) (.j [] (.b (.s .d (.j [] (.j [.slot 48 .bool] .d (.c (.s .d .d) .d)) .d))) .d)))))) (.s .d .d)))))

def slices_EqualFunc_int_int_int_int.l1 (c_fn : Value → Sl → Sl → Heap → (Bool → Heap → Prop) → Prop) (s11 : Sl) (s22 : Sl) (eq3 : Value) (Q : Bool → Heap → Prop) (go7 : (Int × Unit) → Heap → Prop) (s5 : (Int × Unit)) (h6 : Heap) : Prop :=
    (((decide (s5.1 < (s11.len : Int))) = true →
    (0 ≤ s5.1 ∧ s5.1 < (s11.len : Int)) ∧
    deref s11.a fun a8 =>
    ld (.sl : Kd) h6 (a8.add ((s5.1 : Int).toNat * 1)) fun t9 =>
    (0 ≤ s5.1 ∧ s5.1 < (s22.len : Int)) ∧
    deref s22.a fun a10 =>
    ld (.sl : Kd) h6 (a10.add ((s5.1 : Int).toNat * 1)) fun t11 =>
    c_fn eq3 t9 t11 h6 fun r12 h13 =>
    (((!r12) = true →
    Q false h13) ∧
    ((!r12) = false →
    go7 ((w64 (s5.1 + 1)), ()) h13))) ∧
    ((decide (s5.1 < (s11.len : Int))) = false →
    Q true h6))
def slices_EqualFunc_int_int_int_int.M (c_fn : Value → Sl → Sl → Heap → (Bool → Heap → Prop) → Prop) (s11 : Sl) (s22 : Sl) (eq3 : Value) (h4 : Heap) (Q : Bool → Heap → Prop) : Prop :=
    (((decide ((s11.len : Int) ≠ (s22.len : Int))) = true →
    Q false h4) ∧
    ((decide ((s11.len : Int) ≠ (s22.len : Int))) = false →
    Loop (slices_EqualFunc_int_int_int_int.l1 c_fn s11 s22 eq3 Q) (0, ()) h4))
def slices_EqualFunc_int_int_int_int.mk : Mk := (.s .d (.s (.s .d (.c (.s .d .d) .d)) (.s (.s .d (.b (.l [.slot 17 (.int .i64)] (.s .d (.s (.c .d .d) (.s (.b (.s .d (.s .d (.s .d (.c (.s .d .d) .d))))) .d)))))) (.s .d .d))))

def explore_Alike_1.M (c_slices_Equal_int_int : Sl → Sl → Heap → (Bool → Heap → Prop) → Prop) (a1 : Sl) (b2 : Sl) (h3 : Heap) (Q : Bool → Heap → Prop) : Prop :=
    c_slices_Equal_int_int a1 b2 h3 fun r4 h5 =>
    Q r4 h5
def explore_Alike_1.mk : Mk := (.s .d (.s .d .d))

def slices_Equal_int_int.l1 (s11 : Sl) (s22 : Sl) (Q : Bool → Heap → Prop) (go6 : (Int × Unit) → Heap → Prop) (s4 : (Int × Unit)) (h5 : Heap) : Prop :=
    (((decide (s4.1 < (s11.len : Int))) = true →
    (0 ≤ s4.1 ∧ s4.1 < (s11.len : Int)) ∧
    deref s11.a fun a7 =>
    (0 ≤ s4.1 ∧ s4.1 < (s22.len : Int)) ∧
    deref s22.a fun a8 =>
    ld ((.int .i64) : Kd) h5 (a7.add ((s4.1 : Int).toNat * 1)) fun t9 =>
    ld ((.int .i64) : Kd) h5 (a8.add ((s4.1 : Int).toNat * 1)) fun t10 =>
    (((decide (t9 ≠ t10)) = true →
    Q false h5) ∧
    ((decide (t9 ≠ t10)) = false →
    go6 ((w64 (s4.1 + 1)), ()) h5))) ∧
    ((decide (s4.1 < (s11.len : Int))) = false →
    Q true h5))
def slices_Equal_int_int.M  (s11 : Sl) (s22 : Sl) (h3 : Heap) (Q : Bool → Heap → Prop) : Prop :=
    (((decide ((s11.len : Int) ≠ (s22.len : Int))) = true →
    Q false h3) ∧
    ((decide ((s11.len : Int) ≠ (s22.len : Int))) = false →
    Loop (slices_Equal_int_int.l1 s11 s22 Q) (0, ()) h3))
def slices_Equal_int_int.mk : Mk := (.s .d (.s (.s .d (.c (.s .d .d) .d)) (.s (.s .d (.b (.l [.slot 13 (.int .i64)] (.s .d (.s (.c .d .d) (.s (.b (.s .d (.s (.q [] [] [.p 0, .p 1, .p 2, .p 4, .p 5, .p 6, .w 3 [3, 8], .w 7 [7, 8], .p 8]) (.c (.s .d .d) .d)))) .d)))))) (.s .d .d))))

def explore_steps.j1 (go23 : (Int × ((Int × (Int × Den kapiAct)) × Unit)) → Heap → Prop) (s21 : (Int × ((Int × (Int × Den kapiAct)) × Unit))) (s24 : ((Int × (Int × Den kapiAct)) × Unit)) (h25 : Heap) : Prop :=
    go23 ((w64 (s21.1 + 1)), (s24.1.1, (s24.1.2.1, (s24.1.2.2.1, (s24.1.2.2.2.1, (s24.1.2.2.2.2.1, (s24.1.2.2.2.2.2.1, (s24.1.2.2.2.2.2.2.1, ()))))))), ()) h25
def explore_steps.j2 (go23 : (Int × ((Int × (Int × Den kapiAct)) × Unit)) → Heap → Prop) (s21 : (Int × ((Int × (Int × Den kapiAct)) × Unit))) (t27 : Den kexploredone) (s28 : (Bool × Unit)) (h29 : Heap) : Prop :=
    ((s28.1 = true →
    explore_steps.j1 go23 s21 ((s21.2.1.1, ((if s21.2.1.2.1 < (w64 (t27.2.1 + 1)) then (w64 (t27.2.1 + 1)) else s21.2.1.2.1), (s21.2.1.2.2.1, (s21.2.1.2.2.2.1, (s21.2.1.2.2.2.2.1, (s21.2.1.2.2.2.2.2.1, (s21.2.1.2.2.2.2.2.2.1, ()))))))), ()) h29) ∧
    (s28.1 = false →
    explore_steps.j1 go23 s21 ((s21.2.1.1, (s21.2.1.2.1, (s21.2.1.2.2.1, (s21.2.1.2.2.2.1, (s21.2.1.2.2.2.2.1, (s21.2.1.2.2.2.2.2.1, (s21.2.1.2.2.2.2.2.2.1, ()))))))), ()) h29))
def explore_steps.l3 (c_explore_Depends : Den kapiScene → Den kapiAct → Den kapiAct → Heap → (Bool → Heap → Prop) → Prop) (s1 : Den kapiScene) (go8 : (Sl × (Int × Unit)) → Heap → Prop) (s6 : (Sl × (Int × Unit))) (t10 : Int) (go23 : (Int × ((Int × (Int × Den kapiAct)) × Unit)) → Heap → Prop) (s21 : (Int × ((Int × (Int × Den kapiAct)) × Unit))) (h22 : Heap) : Prop :=
    (((decide (s21.1 < (s6.1.len : Int))) = true →
    (0 ≤ s21.1 ∧ s21.1 < (s6.1.len : Int)) ∧
    deref s6.1.a fun a26 =>
    ld kexploredone h22 (a26.add ((s21.1 : Int).toNat * 7)) fun t27 =>
    (((decide (t27.1 = t10)) = true →
    explore_steps.j2 go23 s21 t27 (true, ()) h22) ∧
    ((decide (t27.1 = t10)) = false →
    c_explore_Depends (s1.1, (s1.2.1, (s1.2.2.1, ()))) (t27.2.2.1.1, (t27.2.2.1.2.1, (t27.2.2.1.2.2.1, (t27.2.2.1.2.2.2.1, (t27.2.2.1.2.2.2.2.1, ()))))) (s21.2.1.2.2.1, (s21.2.1.2.2.2.1, (s21.2.1.2.2.2.2.1, (s21.2.1.2.2.2.2.2.1, (s21.2.1.2.2.2.2.2.2.1, ()))))) h22 fun r30 h31 =>
    explore_steps.j2 go23 s21 t27 (r30, ()) h31))) ∧
    ((decide (s21.1 < (s6.1.len : Int))) = false →
    new h22 (([(s21.2.1.1, (s21.2.1.2.1, ((s21.2.1.2.2.1, (s21.2.1.2.2.2.1, (s21.2.1.2.2.2.2.1, (s21.2.1.2.2.2.2.2.1, (s21.2.1.2.2.2.2.2.2.1, ()))))), ())))] : List (Den kexploredone)).flatMap (Kd.cells kexploredone)) fun p32 h33 =>
    appendM 7 56 h33 s6.1 ⟨some p32, 1, 1⟩ fun t34 h35 =>
    go8 (t34, (w64 (s6.2.1 + 1)), ()) h35))
def explore_steps.l4 (c_explore_Depends : Den kapiScene → Den kapiAct → Den kapiAct → Heap → (Bool → Heap → Prop) → Prop) (s1 : Den kapiScene) (picks2 : Sl) (Q : Sl → Heap → Prop) (s4 : Sl) (go8 : (Sl × (Int × Unit)) → Heap → Prop) (s6 : (Sl × (Int × Unit))) (h7 : Heap) : Prop :=
    (((decide (s6.2.1 < (picks2.len : Int))) = true →
    (0 ≤ s6.2.1 ∧ s6.2.1 < (picks2.len : Int)) ∧
    deref picks2.a fun a9 =>
    ld ((.int .i64) : Kd) h7 (a9.add ((s6.2.1 : Int).toNat * 1)) fun t10 =>
    (0 ≤ t10 ∧ t10 < (s4.len : Int)) ∧
    deref s4.a fun a11 =>
    (0 ≤ t10 ∧ t10 < (s1.2.2.1.len : Int)) ∧
    deref s1.2.2.1.a fun a12 =>
    ld (.sl : Kd) h7 (a12.add ((t10 : Int).toNat * 1)) fun t13 =>
    ld ((.int .i64) : Kd) h7 (a11.add ((t10 : Int).toNat * 1)) fun t14 =>
    (0 ≤ t14 ∧ t14 < (t13.len : Int)) ∧
    deref t13.a fun a15 =>
    ld kapiAct h7 (a15.add ((t14 : Int).toNat * 5)) fun t16 =>
    (0 ≤ t10 ∧ t10 < (s4.len : Int)) ∧
    deref s4.a fun a17 =>
    ld ((.int .i64) : Kd) h7 (a17.add ((t10 : Int).toNat * 1)) fun t18 =>
    (0 ≤ t10 ∧ t10 < (s4.len : Int)) ∧
    deref s4.a fun a19 =>
    st ((.int .i64) : Kd) h7 (a19.add ((t10 : Int).toNat * 1)) (w64 (t18 + 1)) fun h20 =>
    Loop (explore_steps.l3 c_explore_Depends s1 go8 s6 t10) (0, (t10, (1, (t16.1, (t16.2.1, (t16.2.2.1, (t16.2.2.2.1, (t16.2.2.2.2.1, ()))))))), ()) h20) ∧
    ((decide (s6.2.1 < (picks2.len : Int))) = false →
    Q s6.1 h7))
def explore_steps.M (c_explore_Depends : Den kapiScene → Den kapiAct → Den kapiAct → Heap → (Bool → Heap → Prop) → Prop) (s1 : Den kapiScene) (picks2 : Sl) (h3 : Heap) (Q : Sl → Heap → Prop) : Prop :=
    makeM ((.int .i64) : Kd) 8 h3 (s1.2.2.1.len : Int) (s1.2.2.1.len : Int) fun s4 h5 =>
    Loop (explore_steps.l4 c_explore_Depends s1 picks2 Q s4) (⟨none, 0, 0⟩, 0, ()) h5
def explore_steps.mk : Mk := (.s (.r [0]) (.s .d (.s .d (.s (.s .d (.b (.l [.slot 6 .sl, .slot 18 (.int .i64)] (.s .d (.s (.c .d .d) (.s (.b (.s .d (.s (.q [13] [9] [.p 0, .p 1, .p 3, .p 6, .p 7, .p 8, .w 2 [2, 4, 5, 10, 11, 12, 14], .p 4, .w 5 [5, 10, 11, 12, 14], .w 9 [9, 10, 11, 12, 14], .p 10, .w 11 [11, 12, 14], .p 12, .o 13, .o 14]) (.s .d (.s (.s .d (.b (.l [.slot 43 (.int .i64), .box 9 (.pair (.int .i64) (.pair (.int .i64) kapiAct))] (.s .d (.s (.c .d .d) (.j [.box 9 (.pair (.int .i64) (.pair (.int .i64) kapiAct))] (.b (.s (.r [2]) (.j [.slot 58 .bool] .d (.c .d .d)))) .d)))))) .d))))) .d)))))) (.s .d .d)))))

def explore_gives.M  (x1 : Den kapiAct) (h2 : Heap) (Q : Bool → Heap → Prop) : Prop :=
    (((decide (x1.2.1 = 4)) = true →
    Q (decide ((1 : Int) ≤ x1.2.2.2.1)) h2) ∧
    ((decide (x1.2.1 = 4)) = false →
    Q false h2))
def explore_gives.mk : Mk := (.s (.r [0]) (.s .d .d))

def explore_touches.M  (s1 : Den kapiScene) (x2 : Den kapiAct) (h3 : Heap) (Q : Bool → Heap → Prop) : Prop :=
    (((decide ((0 : Int) ≤ x2.2.1)) = true →
    (((decide (x2.2.1 ≤ 3)) = true →
    (((decide ((0 : Int) ≤ x2.2.2.1)) = true →
    Q (decide (x2.2.2.1 < s1.1)) h3) ∧
    ((decide ((0 : Int) ≤ x2.2.2.1)) = false →
    Q false h3))) ∧
    ((decide (x2.2.1 ≤ 3)) = false →
    Q false h3))) ∧
    ((decide ((0 : Int) ≤ x2.2.1)) = false →
    Q false h3))
def explore_touches.mk : Mk := (.s (.r [0, 1]) (.s .d .d))

def dag_Check.j1 (go7 : (Int × Unit) → Heap → Prop) (s5 : (Int × Unit)) (s8 : Unit) (h9 : Heap) : Prop :=
    go7 ((w64 (s5.1 + 1)), ()) h9
def dag_Check.j2 (Q : Int → Heap → Prop) (go7 : (Int × Unit) → Heap → Prop) (s5 : (Int × Unit)) (s12 : (Bool × Unit)) (h13 : Heap) : Prop :=
    ((s12.1 = true →
    Q 71 h13) ∧
    (s12.1 = false →
    dag_Check.j1 go7 s5 () h13))
def dag_Check.l3 (d1 : Den kapiDag) (Q : Int → Heap → Prop) (go7 : (Int × Unit) → Heap → Prop) (s5 : (Int × Unit)) (h6 : Heap) : Prop :=
    (((decide (s5.1 < (d1.2.1.len : Int))) = true →
    (0 ≤ s5.1 ∧ s5.1 < (d1.2.1.len : Int)) ∧
    deref d1.2.1.a fun a10 =>
    ld kapiEdge h6 (a10.add ((s5.1 : Int).toNat * 2)) fun t11 =>
    (((decide (t11.1 < 0)) = true →
    dag_Check.j2 Q go7 s5 (true, ()) h6) ∧
    ((decide (t11.1 < 0)) = false →
    (((decide (t11.2.1 ≤ t11.1)) = true →
    dag_Check.j2 Q go7 s5 (true, ()) h6) ∧
    ((decide (t11.2.1 ≤ t11.1)) = false →
    dag_Check.j2 Q go7 s5 ((decide (d1.1 ≤ t11.2.1)), ()) h6))))) ∧
    ((decide (s5.1 < (d1.2.1.len : Int))) = false →
    Q 0 h6))
def dag_Check.j4 (d1 : Den kapiDag) (Q : Int → Heap → Prop) (s3 : Unit) (h4 : Heap) : Prop :=
    (((decide ((16384 : Int) < (d1.2.1.len : Int))) = true →
    Q 2 h4) ∧
    ((decide ((16384 : Int) < (d1.2.1.len : Int))) = false →
    Loop (dag_Check.l3 d1 Q) (0, ()) h4))
def dag_Check.j5 (d1 : Den kapiDag) (Q : Int → Heap → Prop) (s14 : (Bool × Unit)) (h15 : Heap) : Prop :=
    ((s14.1 = true →
    Q 70 h15) ∧
    (s14.1 = false →
    dag_Check.j4 d1 Q () h15))
def dag_Check.M  (d1 : Den kapiDag) (h2 : Heap) (Q : Int → Heap → Prop) : Prop :=
    (((decide (d1.1 < 0)) = true →
    dag_Check.j5 d1 Q (true, ()) h2) ∧
    ((decide (d1.1 < 0)) = false →
    dag_Check.j5 d1 Q ((decide ((4096 : Int) < d1.1)), ()) h2))
def dag_Check.mk : Mk := (.s (.r [0]) (.j [] (.j [.slot 12 .bool] .d (.c (.s .d .d) .d)) (.s (.s .d (.c (.s .d .d) .d)) (.s (.s .d (.b (.l [.slot 20 (.int .i64)] (.s .d (.s (.c .d .d) (.j [] (.b (.s (.r [2]) (.j [.slot 40 .bool] .d (.c (.s .d .d) .d)))) .d)))))) (.s .d .d)))))

def dag_ahead.l1 (d1 : Den kapiDag) (Q : Sl → Heap → Prop) (s3 : Sl) (go7 : (Int × Unit) → Heap → Prop) (s5 : (Int × Unit)) (h6 : Heap) : Prop :=
    (((decide (s5.1 < (d1.2.1.len : Int))) = true →
    (0 ≤ s5.1 ∧ s5.1 < (d1.2.1.len : Int)) ∧
    deref d1.2.1.a fun a8 =>
    ld kapiEdge h6 (a8.add ((s5.1 : Int).toNat * 2)) fun t9 =>
    (0 ≤ t9.2.1 ∧ t9.2.1 < (s3.len : Int)) ∧
    deref s3.a fun a10 =>
    ld (.sl : Kd) h6 (a10.add ((t9.2.1 : Int).toNat * 1)) fun t11 =>
    new h6 (([t9.1] : List (Den ((.int .i64) : Kd))).flatMap (Kd.cells ((.int .i64) : Kd))) fun p12 h13 =>
    appendM 1 8 h13 t11 ⟨some p12, 1, 1⟩ fun t14 h15 =>
    (0 ≤ t9.2.1 ∧ t9.2.1 < (s3.len : Int)) ∧
    deref s3.a fun a16 =>
    st (.sl : Kd) h15 (a16.add ((t9.2.1 : Int).toNat * 1)) t14 fun h17 =>
    go7 ((w64 (s5.1 + 1)), ()) h17) ∧
    ((decide (s5.1 < (d1.2.1.len : Int))) = false →
    Q s3 h6))
def dag_ahead.M  (d1 : Den kapiDag) (h2 : Heap) (Q : Sl → Heap → Prop) : Prop :=
    makeM (.sl : Kd) 24 h2 d1.1 d1.1 fun s3 h4 =>
    Loop (dag_ahead.l1 d1 Q s3) (0, ()) h4
def dag_ahead.mk : Mk := (.s (.r [0]) (.s .d (.s (.s .d (.b (.l [.slot 12 (.int .i64)] (.s .d (.s (.c .d .d) (.s (.b (.s (.r [2]) (.q [] [] [.p 0, .p 1, .p 3, .p 4, .p 8, .w 2 [2, 12, 13], .w 5 [5, 6, 7, 11, 12, 13], .p 6, .w 7 [7, 11, 12, 13], .w 9 [9, 10, 11, 12, 13], .o 10, .o 11, .p 12, .o 13]))) .d)))))) (.s .d .d))))

def slices_Sort_int_int.M (c_math_bits_Len : Int → Heap → (Int → Heap → Prop) → Prop) (c_slices_pdqsortOrdered_int : Sl → Int → Int → Int → Heap → (Unit → Heap → Prop) → Prop) (x1 : Sl) (h2 : Heap) (Q : Unit → Heap → Prop) : Prop :=
    c_math_bits_Len (IntKind.wrap .u64 (x1.len : Int)) h2 fun r3 h4 =>
    c_slices_pdqsortOrdered_int x1 0 (x1.len : Int) r3 h4 fun r5 h6 =>
    Q () h6
def slices_Sort_int_int.mk : Mk := (.s .d .d)

def explore_traces_1.M (c_explore_walk_down : Option Addr → Option Nat → Value → Heap → (Bool → Heap → Prop) → Prop) (yield1 : Value) (t2 : Option Addr) (h3 : Heap) (Q : Unit → Heap → Prop) : Prop :=
    deref t2 fun a4 =>
    deref t2 fun a5 =>
    ld kapiScene h3 a5 fun t6 =>
    ld (.sl : Kd) h3 (a4.add 2) fun t7 =>
    makeM ((.int .i64) : Kd) 8 h3 (t7.len : Int) (t7.len : Int) fun s8 h9 =>
    new h9 (kexplorewalk.cells ((t6.1, (t6.2.1, (t6.2.2.1, ()))), (s8, (Sl.none, ())))) fun p10 h11 =>
    mapNew h11 fun m12 h13 =>
    c_explore_walk_down (some p10) (some m12) yield1 h13 fun r14 h15 =>
    Q () h15
def explore_traces_1.mk : Mk := (.s (.q [] [] [.p 1, .w 0 [0, 5, 6, 7], .w 2 [2, 3, 4, 5, 6, 7], .p 3, .o 4, .p 5, .o 6, .p 7]) .d)

def explore_walk_down.j1 (go11 : (Bool × (Int × Unit)) → Heap → Prop) (s9 : (Bool × (Int × Unit))) (s12 : (Bool × Unit)) (h13 : Heap) : Prop :=
    go11 (s12.1, (w64 (s9.2.1 + 1)), ()) h13
def explore_walk_down.l2 (c_explore_walk_act : Option Addr → Int → Heap → (Den kapiAct → Heap → Prop) → Prop) (c_explore_Depends : Den kapiScene → Den kapiAct → Den kapiAct → Heap → (Bool → Heap → Prop) → Prop) (c_explore_walk_down : Option Addr → Option Nat → Value → Heap → (Bool → Heap → Prop) → Prop) (w1 : Option Addr) (yield3 : Value) (Q : Bool → Heap → Prop) (r5 : Option Nat) (go11 : (Bool × (Int × Unit)) → Heap → Prop) (s9 : (Bool × (Int × Unit))) (r22 : Den kapiAct) (r24 : Option Nat) (it26 : Nat) (go30 : Unit → Heap → Prop) (s28 : Unit) (h29 : Heap) : Prop :=
    itNext h29 it26 fun ok31 h32 =>
    ((ok31 = true →
    itEnt ((.int .i64) : Kd) ((.int .i64) : Kd) h32 it26 fun k33 v34 =>
    deref w1 fun a35 =>
    ld kapiScene h32 (a35.add 0) fun t36 =>
    c_explore_walk_act w1 k33 h32 fun r37 h38 =>
    sees h38 (some (a35.add 0)) kapiScene t36 ∧
    c_explore_Depends t36 r37 (r22.1, (r22.2.1, (r22.2.2.1, (r22.2.2.2.1, (r22.2.2.2.2.1, ()))))) h38 fun r39 h40 =>
    ((r39 = true →
    mapDel ((.int .i64) : Kd) ((.int .i64) : Kd) h40 r24 k33 fun h41 =>
    go30 () h41) ∧
    (r39 = false →
    go30 () h40))) ∧
    (ok31 = false →
    deref w1 fun a42 =>
    ld (.sl : Kd) h32 (a42.add 3) fun t43 =>
    (0 ≤ s9.2.1 ∧ s9.2.1 < (t43.len : Int)) ∧
    deref t43.a fun a44 =>
    ld ((.int .i64) : Kd) h32 (a44.add ((s9.2.1 : Int).toNat * 1)) fun t45 =>
    (0 ≤ s9.2.1 ∧ s9.2.1 < (t43.len : Int)) ∧
    deref t43.a fun a46 =>
    st ((.int .i64) : Kd) h32 (a46.add ((s9.2.1 : Int).toNat * 1)) (w64 (t45 + 1)) fun h47 =>
    deref w1 fun a48 =>
    ld (.sl : Kd) h47 (a48.add 4) fun t49 =>
    new h47 (([s9.2.1] : List (Den ((.int .i64) : Kd))).flatMap (Kd.cells ((.int .i64) : Kd))) fun p50 h51 =>
    appendM 1 8 h51 t49 ⟨some p50, 1, 1⟩ fun t52 h53 =>
    deref w1 fun a54 =>
    st (.sl : Kd) h53 (a54.add 4) t52 fun h55 =>
    c_explore_walk_down w1 r24 yield3 h55 fun r56 h57 =>
    deref w1 fun a58 =>
    deref w1 fun a59 =>
    ld (.sl : Kd) h57 (a58.add 4) fun t60 =>
    ld (.sl : Kd) h57 (a59.add 4) fun t61 =>
    (0 ≤ (w64 ((t61.len : Int) - 1)) ∧ (w64 ((t61.len : Int) - 1)) ≤ (t60.cap : Int)) ∧
    deref w1 fun a62 =>
    st (.sl : Kd) h57 (a62.add 4) (t60.cut 0 (((w64 ((t61.len : Int) - 1)) : Int).toNat) 1) fun h63 =>
    deref w1 fun a64 =>
    ld (.sl : Kd) h63 (a64.add 3) fun t65 =>
    (0 ≤ s9.2.1 ∧ s9.2.1 < (t65.len : Int)) ∧
    deref t65.a fun a66 =>
    ld ((.int .i64) : Kd) h63 (a66.add ((s9.2.1 : Int).toNat * 1)) fun t67 =>
    (0 ≤ s9.2.1 ∧ s9.2.1 < (t65.len : Int)) ∧
    deref t65.a fun a68 =>
    st ((.int .i64) : Kd) h63 (a68.add ((s9.2.1 : Int).toNat * 1)) (w64 (t67 - 1)) fun h69 =>
    (((!r56) = true →
    Q false h69) ∧
    ((!r56) = false →
    mapPut ((.int .i64) : Kd) ((.int .i64) : Kd) h69 r5 s9.2.1 1 fun h70 =>
    explore_walk_down.j1 go11 s9 (false, ()) h70))))
def explore_walk_down.l3 (c_maps_Clone_map_int_int_int_int : Option Nat → Heap → (Option Nat → Heap → Prop) → Prop) (c_explore_walk_act : Option Addr → Int → Heap → (Den kapiAct → Heap → Prop) → Prop) (c_explore_Depends : Den kapiScene → Den kapiAct → Den kapiAct → Heap → (Bool → Heap → Prop) → Prop) (c_explore_walk_down : Option Addr → Option Nat → Value → Heap → (Bool → Heap → Prop) → Prop) (c_slices_Clone_int_int : Sl → Heap → (Sl → Heap → Prop) → Prop) (c_yield : Value → Sl → Heap → (Bool → Heap → Prop) → Prop) (w1 : Option Addr) (yield3 : Value) (Q : Bool → Heap → Prop) (r5 : Option Nat) (t8 : Sl) (go11 : (Bool × (Int × Unit)) → Heap → Prop) (s9 : (Bool × (Int × Unit))) (h10 : Heap) : Prop :=
    (((decide (s9.2.1 < (t8.len : Int))) = true →
    (0 ≤ s9.2.1 ∧ s9.2.1 < (t8.len : Int)) ∧
    deref t8.a fun a14 =>
    ld (.sl : Kd) h10 (a14.add ((s9.2.1 : Int).toNat * 1)) fun t15 =>
    deref w1 fun a16 =>
    ld (.sl : Kd) h10 (a16.add 3) fun t17 =>
    (0 ≤ s9.2.1 ∧ s9.2.1 < (t17.len : Int)) ∧
    deref t17.a fun a18 =>
    ld ((.int .i64) : Kd) h10 (a18.add ((s9.2.1 : Int).toNat * 1)) fun t19 =>
    (((decide (t19 = (t15.len : Int))) = true →
    explore_walk_down.j1 go11 s9 (s9.1, ()) h10) ∧
    ((decide (t19 = (t15.len : Int))) = false →
    mapAt ((.int .i64) : Kd) ((.int .i64) : Kd) h10 r5 s9.2.1 fun t20 b21 =>
    (((decide ((0 : Int) < t20)) = true →
    explore_walk_down.j1 go11 s9 (false, ()) h10) ∧
    ((decide ((0 : Int) < t20)) = false →
    c_explore_walk_act w1 s9.2.1 h10 fun r22 h23 =>
    c_maps_Clone_map_int_int_int_int r5 h23 fun r24 h25 =>
    itNew h25 r5 fun it26 h27 =>
    Loop (explore_walk_down.l2 c_explore_walk_act c_explore_Depends c_explore_walk_down w1 yield3 Q r5 go11 s9 r22 r24 it26) () h27))))) ∧
    ((decide (s9.2.1 < (t8.len : Int))) = false →
    (((!s9.1) = true →
    Q true h10) ∧
    ((!s9.1) = false →
    deref w1 fun a71 =>
    ld (.sl : Kd) h10 (a71.add 4) fun t72 =>
    c_slices_Clone_int_int t72 h10 fun r73 h74 =>
    c_yield yield3 r73 h74 fun r75 h76 =>
    Q r75 h76))))
def explore_walk_down.M (c_maps_Clone_map_int_int_int_int : Option Nat → Heap → (Option Nat → Heap → Prop) → Prop) (c_explore_walk_act : Option Addr → Int → Heap → (Den kapiAct → Heap → Prop) → Prop) (c_explore_Depends : Den kapiScene → Den kapiAct → Den kapiAct → Heap → (Bool → Heap → Prop) → Prop) (c_explore_walk_down : Option Addr → Option Nat → Value → Heap → (Bool → Heap → Prop) → Prop) (c_slices_Clone_int_int : Sl → Heap → (Sl → Heap → Prop) → Prop) (c_yield : Value → Sl → Heap → (Bool → Heap → Prop) → Prop) (w1 : Option Addr) (asleep2 : Option Nat) (yield3 : Value) (h4 : Heap) (Q : Bool → Heap → Prop) : Prop :=
    c_maps_Clone_map_int_int_int_int asleep2 h4 fun r5 h6 =>
    deref w1 fun a7 =>
    ld (.sl : Kd) h6 ((a7.add 0).add 2) fun t8 =>
    Loop (explore_walk_down.l3 c_maps_Clone_map_int_int_int_int c_explore_walk_act c_explore_Depends c_explore_walk_down c_slices_Clone_int_int c_yield w1 yield3 Q r5 t8) (true, 0, ()) h6
def explore_walk_down.mk : Mk := (.s .d (.s .d (.s .d (.s (.s .d (.b (.l [.slot 7 .bool, .slot 23 (.int .i64)] (.s .d (.s (.c .d .d) (.j [.slot 7 .bool] (.b (.s .d (.s (.s .d (.c .d .d)) (.s .d (.s (.s .d (.c .d .d)) (.s (.r [3]) (.s .d (.s (.s .d (.b (.l [] (.s .d (.s (.c .d .d) (.b (.s .d (.s (.q [] [] [.p 0, .p 1, .p 2, .p 4, .p 5, .w 3 [3, 8], .w 7 [7, 8], .o 6, .o 8]) (.c .d .d))))))))) (.s .d (.s .d (.s .d (.s (.q [] [] [.p 0, .p 1, .p 2, .p 3, .p 5, .p 6, .p 7, .w 4 [4, 11, 12, 13, 14], .w 8 [8, 9, 10, 11, 12, 13, 14], .p 9, .p 10, .p 11, .p 12, .p 13, .o 14]) (.s .d (.s (.s .d (.c (.s .d .d) .d)) .d)))))))))))))) .d)))))) (.s (.y []) .d)))))

def cells_New.M (c_cells_good : Int → Heap → (Bool → Heap → Prop) → Prop) (size1 : Int) (h2 : Heap) (Q : (Option Addr × (Int × Unit)) → Heap → Prop) : Prop :=
    c_cells_good size1 h2 fun r3 h4 =>
    (((!r3) = true →
    Q (none, 3, ()) h4) ∧
    ((!r3) = false →
    new h4 (kcellsArena.cells ((size1, (0, ())), (Sl.none, (Sl.none, (0, (false, ())))))) fun p5 h6 =>
    Q ((some p5), 0, ()) h6))
def cells_New.mk : Mk := (.s .d (.s (.s .d (.c (.s .d .d) .d)) (.s .d .d)))

def cells_Arena_Reserve.j1 (c_cells_ledger_refuse : Option Addr → Int → Heap → (Int → Heap → Prop) → Prop) (c_cells_ledger_take : Option Addr → Int → Heap → (Int → Heap → Prop) → Prop) (c_cells_Arena_note : Option Addr → Int → Int → Int → Int → Bool → Heap → (Unit → Heap → Prop) → Prop) (a1 : Option Addr) (n2 : Int) (Q : Den kapiEdge → Heap → Prop) (s4 : (Option Addr × Unit)) (h5 : Heap) : Prop :=
    c_cells_ledger_refuse s4.1 n2 h5 fun r6 h7 =>
    (((decide (r6 ≠ 0)) = true →
    Q (0, r6, ()) h7) ∧
    ((decide (r6 ≠ 0)) = false →
    c_cells_ledger_take s4.1 n2 h7 fun r8 h9 =>
    deref a1 fun a10 =>
    ld (.sl : Kd) h9 (a10.add 2) fun t11 =>
    appendZM ((.int .i64) : Kd) 8 h9 t11 n2 fun t12 h13 =>
    deref a1 fun a14 =>
    st (.sl : Kd) h13 (a14.add 2) t12 fun h15 =>
    c_cells_Arena_note a1 4 r8 n2 0 true h15 fun r16 h17 =>
    Q (r8, 0, ()) h17))
def cells_Arena_Reserve.M (c_cells_ledger_refuse : Option Addr → Int → Heap → (Int → Heap → Prop) → Prop) (c_cells_ledger_take : Option Addr → Int → Heap → (Int → Heap → Prop) → Prop) (c_cells_Arena_note : Option Addr → Int → Int → Int → Int → Bool → Heap → (Unit → Heap → Prop) → Prop) (a1 : Option Addr) (n2 : Int) (h3 : Heap) (Q : Den kapiEdge → Heap → Prop) : Prop :=
    (((Option.isSome a1) = true →
    deref a1 fun a18 =>
    cells_Arena_Reserve.j1 c_cells_ledger_refuse c_cells_ledger_take c_cells_Arena_note a1 n2 Q ((some (a18.add 0)), ()) h3) ∧
    ((Option.isSome a1) = false →
    cells_Arena_Reserve.j1 c_cells_ledger_refuse c_cells_ledger_take c_cells_Arena_note a1 n2 Q (none, ()) h3))
def cells_Arena_Reserve.mk : Mk := (.s .d (.s .d (.j [.slot 6 .ptr] (.s .d (.c .d .d)) (.s (.s .d (.s .d (.c (.s .d .d) .d))) (.s .d (.s .d (.s .d (.s .d .d))))))))

def cells_Arena_Store.M (c_cells_Arena_outside : Option Addr → Int → Heap → (Bool → Heap → Prop) → Prop) (c_cells_Arena_note : Option Addr → Int → Int → Int → Int → Bool → Heap → (Unit → Heap → Prop) → Prop) (a1 : Option Addr) (addr2 : Int) (v3 : Int) (h4 : Heap) (Q : Int → Heap → Prop) : Prop :=
    c_cells_Arena_outside a1 addr2 h4 fun r5 h6 =>
    ((r5 = true →
    Q 20 h6) ∧
    (r5 = false →
    deref a1 fun a7 =>
    ld (.sl : Kd) h6 (a7.add 2) fun t8 =>
    (0 ≤ addr2 ∧ addr2 < (t8.len : Int)) ∧
    deref t8.a fun a9 =>
    st ((.int .i64) : Kd) h6 (a9.add ((addr2 : Int).toNat * 1)) v3 fun h10 =>
    c_cells_Arena_note a1 1 addr2 v3 0 true h10 fun r11 h12 =>
    Q 0 h12))
def cells_Arena_Store.mk : Mk := (.s .d (.s (.s .d (.c (.s .d .d) .d)) (.s .d (.s .d (.s .d .d)))))

def explore_act.j1 (Q : Den kapiEffect → Heap → Prop) (s4 : (Den kapiEffect × Unit)) (h5 : Heap) : Prop :=
    Q (s4.1.1, ((decide (s4.1.2.2.1 = 0)), (s4.1.2.2.1, ()))) h5
def explore_act.M (c_cells_Arena_Load : Option Addr → Int → Heap → (Den kapiEdge → Heap → Prop) → Prop) (c_cells_Arena_Store : Option Addr → Int → Int → Heap → (Int → Heap → Prop) → Prop) (c_cells_Arena_CAS : Option Addr → Int → Int → Int → Heap → ((Bool × (Int × Unit)) → Heap → Prop) → Prop) (c_cells_Arena_Add : Option Addr → Int → Int → Heap → (Den kapiEdge → Heap → Prop) → Prop) (c_cells_Arena_Reserve : Option Addr → Int → Heap → (Den kapiEdge → Heap → Prop) → Prop) (a1 : Option Addr) (x2 : Den kapiAct) (h3 : Heap) (Q : Den kapiEffect → Heap → Prop) : Prop :=
    (((decide (x2.2.1 = 0)) = true →
    c_cells_Arena_Load a1 x2.2.2.1 h3 fun r6 h7 =>
    explore_act.j1 Q ((r6.1, (false, (r6.2.1, ()))), ()) h7) ∧
    ((decide (x2.2.1 = 0)) = false →
    (((decide (x2.2.1 = 1)) = true →
    c_cells_Arena_Store a1 x2.2.2.1 x2.2.2.2.1 h3 fun r8 h9 =>
    explore_act.j1 Q ((0, (false, (r8, ()))), ()) h9) ∧
    ((decide (x2.2.1 = 1)) = false →
    (((decide (x2.2.1 = 2)) = true →
    c_cells_Arena_CAS a1 x2.2.2.1 x2.2.2.2.1 x2.2.2.2.2.1 h3 fun r10 h11 =>
    Q (0, (r10.1, (r10.2.1, ()))) h11) ∧
    ((decide (x2.2.1 = 2)) = false →
    (((decide (x2.2.1 = 3)) = true →
    c_cells_Arena_Add a1 x2.2.2.1 x2.2.2.2.1 h3 fun r12 h13 =>
    explore_act.j1 Q ((r12.1, (false, (r12.2.1, ()))), ()) h13) ∧
    ((decide (x2.2.1 = 3)) = false →
    c_cells_Arena_Reserve a1 x2.2.2.2.1 h3 fun r14 h15 =>
    explore_act.j1 Q ((r14.1, (false, (r14.2.1, ()))), ()) h15))))))))
def explore_act.mk : Mk := (.s (.r [0, 1]) (.j [.box 4 kapiEffect] (.s .d (.b (.s .d (.c .d (.s .d (.c .d (.s .d (.c (.s .d (.s .d .d)) (.s .d (.c .d (.s .d .d))))))))))) (.s .d (.s .d .d))))

def cells_Arena_Cells.M  (a1 : Option Addr) (h2 : Heap) (Q : Sl → Heap → Prop) : Prop :=
    (((Option.isNone a1) = true →
    Q ⟨none, 0, 0⟩ h2) ∧
    ((Option.isNone a1) = false →
    deref a1 fun a3 =>
    ld (.sl : Kd) h2 (a3.add 2) fun t4 =>
    makeM ((.int .i64) : Kd) 8 h2 (t4.len : Int) (t4.len : Int) fun s5 h6 =>
    deref a1 fun a7 =>
    ld (.sl : Kd) h6 (a7.add 2) fun t8 =>
    copyM 1 h6 s5 t8 fun n9 h10 =>
    Q s5 h10))
def cells_Arena_Cells.mk : Mk := (.s .d (.s (.s .d (.c (.s .d .d) .d)) (.s .d (.s .d (.s .d .d)))))

def cmp_Compare_int.M (c_cmp_isNaN_int : Int → Heap → (Bool → Heap → Prop) → Prop) (x1 : Int) (y2 : Int) (h3 : Heap) (Q : Int → Heap → Prop) : Prop :=
    c_cmp_isNaN_int x1 h3 fun r4 h5 =>
    c_cmp_isNaN_int y2 h5 fun r6 h7 =>
    ((r4 = true →
    ((r6 = true →
    Q 0 h7) ∧
    (r6 = false →
    Q (-1) h7))) ∧
    (r4 = false →
    ((r6 = true →
    Q 1 h7) ∧
    (r6 = false →
    (((decide (x1 < y2)) = true →
    Q (-1) h7) ∧
    ((decide (x1 < y2)) = false →
    (((decide (y2 < x1)) = true →
    Q 1 h7) ∧
    ((decide (y2 < x1)) = false →
    Q 0 h7))))))))
def cmp_Compare_int.mk : Mk := (.s .d (.s .d (.s .d (.s (.s .d (.c (.s (.s .d (.c (.s .d .d) .d)) (.s .d .d)) .d)) (.s (.s .d (.c (.s .d .d) .d)) (.s (.s .d (.c (.s .d .d) .d)) (.s (.s .d (.c (.s .d .d) .d)) (.s .d .d))))))))

def slices_Compare_int64_int64.l1 (c_cmp_Compare_int64 : Int → Int → Heap → (Int → Heap → Prop) → Prop) (s11 : Sl) (s22 : Sl) (Q : Int → Heap → Prop) (go6 : (Int × Unit) → Heap → Prop) (s4 : (Int × Unit)) (h5 : Heap) : Prop :=
    (((decide (s4.1 < (s11.len : Int))) = true →
    (0 ≤ s4.1 ∧ s4.1 < (s11.len : Int)) ∧
    deref s11.a fun a7 =>
    ld ((.int .i64) : Kd) h5 (a7.add ((s4.1 : Int).toNat * 1)) fun t8 =>
    (((decide ((s22.len : Int) ≤ s4.1)) = true →
    Q 1 h5) ∧
    ((decide ((s22.len : Int) ≤ s4.1)) = false →
    (0 ≤ s4.1 ∧ s4.1 < (s22.len : Int)) ∧
    deref s22.a fun a9 =>
    ld ((.int .i64) : Kd) h5 (a9.add ((s4.1 : Int).toNat * 1)) fun t10 =>
    c_cmp_Compare_int64 t8 t10 h5 fun r11 h12 =>
    (((decide (r11 ≠ 0)) = true →
    Q r11 h12) ∧
    ((decide (r11 ≠ 0)) = false →
    go6 ((w64 (s4.1 + 1)), ()) h12))))) ∧
    ((decide (s4.1 < (s11.len : Int))) = false →
    (((decide ((s11.len : Int) < (s22.len : Int))) = true →
    Q (-1) h5) ∧
    ((decide ((s11.len : Int) < (s22.len : Int))) = false →
    Q 0 h5))))
def slices_Compare_int64_int64.M (c_cmp_Compare_int64 : Int → Int → Heap → (Int → Heap → Prop) → Prop) (s11 : Sl) (s22 : Sl) (h3 : Heap) (Q : Int → Heap → Prop) : Prop :=
    Loop (slices_Compare_int64_int64.l1 c_cmp_Compare_int64 s11 s22 Q) (0, ()) h3
def slices_Compare_int64_int64.mk : Mk := (.s .d (.s (.s .d (.b (.l [.slot 11 (.int .i64)] (.s .d (.s (.c .d .d) (.s (.b (.s .d (.s (.s .d (.c (.s .d .d) .d)) (.s .d (.s .d (.s .d (.c (.s .d .d) .d))))))) .d)))))) (.s (.s .d (.c (.s .d .d) .d)) (.s .d .d))))

def slices_rotateRight_int64.M (c_slices_rotateLeft_int64 : Sl → Int → Heap → (Unit → Heap → Prop) → Prop) (s1 : Sl) (r2 : Int) (h3 : Heap) (Q : Unit → Heap → Prop) : Prop :=
    c_slices_rotateLeft_int64 s1 (w64 ((s1.len : Int) - r2)) h3 fun r4 h5 =>
    Q () h5
def slices_rotateRight_int64.mk : Mk := .d

def slices_ContainsFunc_int_int.M (c_slices_IndexFunc_int_int : Sl → Value → Heap → (Int → Heap → Prop) → Prop) (s1 : Sl) (f2 : Value) (h3 : Heap) (Q : Bool → Heap → Prop) : Prop :=
    c_slices_IndexFunc_int_int s1 f2 h3 fun r4 h5 =>
    Q (decide ((0 : Int) ≤ r4)) h5
def slices_ContainsFunc_int_int.mk : Mk := (.s .d (.s .d .d))

def explore_isScript_1.M  (n1 : Int) (h2 : Heap) (Q : Bool → Heap → Prop) : Prop :=
    Q (decide ((0 : Int) < n1)) h2
def explore_isScript_1.mk : Mk := (.s .d (.s .d .d))

def slices_pdqsortOrdered_int.j1 (c_slices_partitionOrdered_int : Sl → Int → Int → Int → Heap → ((Int × (Bool × Unit)) → Heap → Prop) → Prop) (c_slices_pdqsortOrdered_int : Sl → Int → Int → Int → Heap → (Unit → Heap → Prop) → Prop) (data1 : Sl) (go8 : (Int × (Int × (Int × (Bool × (Bool × Unit))))) → Heap → Prop) (s6 : (Int × (Int × (Int × (Bool × (Bool × Unit)))))) (s13 : (Int × Unit)) (s17 : Den kapiEdge) (s21 : (Int × Unit)) (h22 : Heap) : Prop :=
    c_slices_partitionOrdered_int data1 s21.1 s6.2.1 s17.1 h22 fun r23 h24 =>
    (8 : Int) ≠ 0 ∧
    (((decide ((w64 (r23.1 - s21.1)) < (w64 (s6.2.1 - r23.1)))) = true →
    c_slices_pdqsortOrdered_int data1 s21.1 r23.1 s13.1 h24 fun r25 h26 =>
    go8 ((w64 (r23.1 + 1)), s6.2.1, s13.1, (decide ((w64 (Int.tdiv (w64 (s6.2.1 - s6.1)) 8)) ≤ (w64 (r23.1 - s21.1)))), r23.2.1, ()) h26) ∧
    ((decide ((w64 (r23.1 - s21.1)) < (w64 (s6.2.1 - r23.1)))) = false →
    c_slices_pdqsortOrdered_int data1 (w64 (r23.1 + 1)) s6.2.1 s13.1 h24 fun r27 h28 =>
    go8 (s21.1, r23.1, s13.1, (decide ((w64 (Int.tdiv (w64 (s6.2.1 - s6.1)) 8)) ≤ (w64 (s6.2.1 - r23.1)))), r23.2.1, ()) h28))
def slices_pdqsortOrdered_int.j2 (c_slices_partitionEqualOrdered_int : Sl → Int → Int → Int → Heap → (Int → Heap → Prop) → Prop) (c_slices_partitionOrdered_int : Sl → Int → Int → Int → Heap → ((Int × (Bool × Unit)) → Heap → Prop) → Prop) (c_slices_pdqsortOrdered_int : Sl → Int → Int → Int → Heap → (Unit → Heap → Prop) → Prop) (data1 : Sl) (go8 : (Int × (Int × (Int × (Bool × (Bool × Unit))))) → Heap → Prop) (s6 : (Int × (Int × (Int × (Bool × (Bool × Unit)))))) (s13 : (Int × Unit)) (s17 : Den kapiEdge) (s29 : (Bool × Unit)) (h30 : Heap) : Prop :=
    ((s29.1 = true →
    c_slices_partitionEqualOrdered_int data1 s6.1 s6.2.1 s17.1 h30 fun r31 h32 =>
    go8 (r31, s6.2.1, s13.1, s6.2.2.2.1, s6.2.2.2.2.1, ()) h32) ∧
    (s29.1 = false →
    slices_pdqsortOrdered_int.j1 c_slices_partitionOrdered_int c_slices_pdqsortOrdered_int data1 go8 s6 s13 s17 (s6.1, ()) h30))
def slices_pdqsortOrdered_int.j3 (c_cmp_Less_int : Int → Int → Heap → (Bool → Heap → Prop) → Prop) (c_slices_partitionEqualOrdered_int : Sl → Int → Int → Int → Heap → (Int → Heap → Prop) → Prop) (c_slices_partitionOrdered_int : Sl → Int → Int → Int → Heap → ((Int × (Bool × Unit)) → Heap → Prop) → Prop) (c_slices_pdqsortOrdered_int : Sl → Int → Int → Int → Heap → (Unit → Heap → Prop) → Prop) (data1 : Sl) (go8 : (Int × (Int × (Int × (Bool × (Bool × Unit))))) → Heap → Prop) (s6 : (Int × (Int × (Int × (Bool × (Bool × Unit)))))) (s13 : (Int × Unit)) (s17 : Den kapiEdge) (s19 : Unit) (h20 : Heap) : Prop :=
    (((decide ((0 : Int) < s6.1)) = true →
    (0 ≤ (w64 (s6.1 - 1)) ∧ (w64 (s6.1 - 1)) < (data1.len : Int)) ∧
    deref data1.a fun a33 =>
    (0 ≤ s17.1 ∧ s17.1 < (data1.len : Int)) ∧
    deref data1.a fun a34 =>
    ld ((.int .i64) : Kd) h20 (a33.add (((w64 (s6.1 - 1)) : Int).toNat * 1)) fun t35 =>
    ld ((.int .i64) : Kd) h20 (a34.add ((s17.1 : Int).toNat * 1)) fun t36 =>
    c_cmp_Less_int t35 t36 h20 fun r37 h38 =>
    slices_pdqsortOrdered_int.j2 c_slices_partitionEqualOrdered_int c_slices_partitionOrdered_int c_slices_pdqsortOrdered_int data1 go8 s6 s13 s17 ((!r37), ()) h38) ∧
    ((decide ((0 : Int) < s6.1)) = false →
    slices_pdqsortOrdered_int.j2 c_slices_partitionEqualOrdered_int c_slices_partitionOrdered_int c_slices_pdqsortOrdered_int data1 go8 s6 s13 s17 (false, ()) h20))
def slices_pdqsortOrdered_int.j4 (c_slices_partialInsertionSortOrdered_int : Sl → Int → Int → Heap → (Bool → Heap → Prop) → Prop) (c_cmp_Less_int : Int → Int → Heap → (Bool → Heap → Prop) → Prop) (c_slices_partitionEqualOrdered_int : Sl → Int → Int → Int → Heap → (Int → Heap → Prop) → Prop) (c_slices_partitionOrdered_int : Sl → Int → Int → Int → Heap → ((Int × (Bool × Unit)) → Heap → Prop) → Prop) (c_slices_pdqsortOrdered_int : Sl → Int → Int → Int → Heap → (Unit → Heap → Prop) → Prop) (data1 : Sl) (Q : Unit → Heap → Prop) (go8 : (Int × (Int × (Int × (Bool × (Bool × Unit))))) → Heap → Prop) (s6 : (Int × (Int × (Int × (Bool × (Bool × Unit)))))) (s13 : (Int × Unit)) (s17 : Den kapiEdge) (s39 : (Bool × Unit)) (h40 : Heap) : Prop :=
    ((s39.1 = true →
    c_slices_partialInsertionSortOrdered_int data1 s6.1 s6.2.1 h40 fun r41 h42 =>
    ((r41 = true →
    Q () h42) ∧
    (r41 = false →
    slices_pdqsortOrdered_int.j3 c_cmp_Less_int c_slices_partitionEqualOrdered_int c_slices_partitionOrdered_int c_slices_pdqsortOrdered_int data1 go8 s6 s13 s17 () h42))) ∧
    (s39.1 = false →
    slices_pdqsortOrdered_int.j3 c_cmp_Less_int c_slices_partitionEqualOrdered_int c_slices_partitionOrdered_int c_slices_pdqsortOrdered_int data1 go8 s6 s13 s17 () h40))
def slices_pdqsortOrdered_int.j5 (c_slices_partialInsertionSortOrdered_int : Sl → Int → Int → Heap → (Bool → Heap → Prop) → Prop) (c_cmp_Less_int : Int → Int → Heap → (Bool → Heap → Prop) → Prop) (c_slices_partitionEqualOrdered_int : Sl → Int → Int → Int → Heap → (Int → Heap → Prop) → Prop) (c_slices_partitionOrdered_int : Sl → Int → Int → Int → Heap → ((Int × (Bool × Unit)) → Heap → Prop) → Prop) (c_slices_pdqsortOrdered_int : Sl → Int → Int → Int → Heap → (Unit → Heap → Prop) → Prop) (data1 : Sl) (Q : Unit → Heap → Prop) (go8 : (Int × (Int × (Int × (Bool × (Bool × Unit))))) → Heap → Prop) (s6 : (Int × (Int × (Int × (Bool × (Bool × Unit)))))) (s13 : (Int × Unit)) (s17 : Den kapiEdge) (h18 : Heap) : Prop :=
    ((s6.2.2.2.1 = true →
    ((s6.2.2.2.2.1 = true →
    slices_pdqsortOrdered_int.j4 c_slices_partialInsertionSortOrdered_int c_cmp_Less_int c_slices_partitionEqualOrdered_int c_slices_partitionOrdered_int c_slices_pdqsortOrdered_int data1 Q go8 s6 s13 s17 ((decide (s17.2.1 = 1)), ()) h18) ∧
    (s6.2.2.2.2.1 = false →
    slices_pdqsortOrdered_int.j4 c_slices_partialInsertionSortOrdered_int c_cmp_Less_int c_slices_partitionEqualOrdered_int c_slices_partitionOrdered_int c_slices_pdqsortOrdered_int data1 Q go8 s6 s13 s17 (false, ()) h18))) ∧
    (s6.2.2.2.1 = false →
    slices_pdqsortOrdered_int.j4 c_slices_partialInsertionSortOrdered_int c_cmp_Less_int c_slices_partitionEqualOrdered_int c_slices_partitionOrdered_int c_slices_pdqsortOrdered_int data1 Q go8 s6 s13 s17 (false, ()) h18))
def slices_pdqsortOrdered_int.j6 (c_slices_choosePivotOrdered_int : Sl → Int → Int → Heap → (Den kapiEdge → Heap → Prop) → Prop) (c_slices_reverseRangeOrdered_int : Sl → Int → Int → Heap → (Unit → Heap → Prop) → Prop) (c_slices_partialInsertionSortOrdered_int : Sl → Int → Int → Heap → (Bool → Heap → Prop) → Prop) (c_cmp_Less_int : Int → Int → Heap → (Bool → Heap → Prop) → Prop) (c_slices_partitionEqualOrdered_int : Sl → Int → Int → Int → Heap → (Int → Heap → Prop) → Prop) (c_slices_partitionOrdered_int : Sl → Int → Int → Int → Heap → ((Int × (Bool × Unit)) → Heap → Prop) → Prop) (c_slices_pdqsortOrdered_int : Sl → Int → Int → Int → Heap → (Unit → Heap → Prop) → Prop) (data1 : Sl) (Q : Unit → Heap → Prop) (go8 : (Int × (Int × (Int × (Bool × (Bool × Unit))))) → Heap → Prop) (s6 : (Int × (Int × (Int × (Bool × (Bool × Unit)))))) (s13 : (Int × Unit)) (h14 : Heap) : Prop :=
    c_slices_choosePivotOrdered_int data1 s6.1 s6.2.1 h14 fun r15 h16 =>
    (((decide (r15.2.1 = 2)) = true →
    c_slices_reverseRangeOrdered_int data1 s6.1 s6.2.1 h16 fun r43 h44 =>
    slices_pdqsortOrdered_int.j5 c_slices_partialInsertionSortOrdered_int c_cmp_Less_int c_slices_partitionEqualOrdered_int c_slices_partitionOrdered_int c_slices_pdqsortOrdered_int data1 Q go8 s6 s13 ((w64 ((w64 (s6.2.1 - 1)) - (w64 (r15.1 - s6.1)))), 1, ()) h44) ∧
    ((decide (r15.2.1 = 2)) = false →
    slices_pdqsortOrdered_int.j5 c_slices_partialInsertionSortOrdered_int c_cmp_Less_int c_slices_partitionEqualOrdered_int c_slices_partitionOrdered_int c_slices_pdqsortOrdered_int data1 Q go8 s6 s13 (r15.1, r15.2.1, ()) h16))
def slices_pdqsortOrdered_int.l7 (c_slices_insertionSortOrdered_int : Sl → Int → Int → Heap → (Unit → Heap → Prop) → Prop) (c_slices_heapSortOrdered_int : Sl → Int → Int → Heap → (Unit → Heap → Prop) → Prop) (c_slices_breakPatternsOrdered_int : Sl → Int → Int → Heap → (Unit → Heap → Prop) → Prop) (c_slices_choosePivotOrdered_int : Sl → Int → Int → Heap → (Den kapiEdge → Heap → Prop) → Prop) (c_slices_reverseRangeOrdered_int : Sl → Int → Int → Heap → (Unit → Heap → Prop) → Prop) (c_slices_partialInsertionSortOrdered_int : Sl → Int → Int → Heap → (Bool → Heap → Prop) → Prop) (c_cmp_Less_int : Int → Int → Heap → (Bool → Heap → Prop) → Prop) (c_slices_partitionEqualOrdered_int : Sl → Int → Int → Int → Heap → (Int → Heap → Prop) → Prop) (c_slices_partitionOrdered_int : Sl → Int → Int → Int → Heap → ((Int × (Bool × Unit)) → Heap → Prop) → Prop) (c_slices_pdqsortOrdered_int : Sl → Int → Int → Int → Heap → (Unit → Heap → Prop) → Prop) (data1 : Sl) (Q : Unit → Heap → Prop) (go8 : (Int × (Int × (Int × (Bool × (Bool × Unit))))) → Heap → Prop) (s6 : (Int × (Int × (Int × (Bool × (Bool × Unit)))))) (h7 : Heap) : Prop :=
    (((decide ((w64 (s6.2.1 - s6.1)) ≤ 12)) = true →
    c_slices_insertionSortOrdered_int data1 s6.1 s6.2.1 h7 fun r9 h10 =>
    Q () h10) ∧
    ((decide ((w64 (s6.2.1 - s6.1)) ≤ 12)) = false →
    (((decide (s6.2.2.1 = 0)) = true →
    c_slices_heapSortOrdered_int data1 s6.1 s6.2.1 h7 fun r11 h12 =>
    Q () h12) ∧
    ((decide (s6.2.2.1 = 0)) = false →
    (((!s6.2.2.2.1) = true →
    c_slices_breakPatternsOrdered_int data1 s6.1 s6.2.1 h7 fun r45 h46 =>
    slices_pdqsortOrdered_int.j6 c_slices_choosePivotOrdered_int c_slices_reverseRangeOrdered_int c_slices_partialInsertionSortOrdered_int c_cmp_Less_int c_slices_partitionEqualOrdered_int c_slices_partitionOrdered_int c_slices_pdqsortOrdered_int data1 Q go8 s6 ((w64 (s6.2.2.1 - 1)), ()) h46) ∧
    ((!s6.2.2.2.1) = false →
    slices_pdqsortOrdered_int.j6 c_slices_choosePivotOrdered_int c_slices_reverseRangeOrdered_int c_slices_partialInsertionSortOrdered_int c_cmp_Less_int c_slices_partitionEqualOrdered_int c_slices_partitionOrdered_int c_slices_pdqsortOrdered_int data1 Q go8 s6 (s6.2.2.1, ()) h7))))))
def slices_pdqsortOrdered_int.M (c_slices_insertionSortOrdered_int : Sl → Int → Int → Heap → (Unit → Heap → Prop) → Prop) (c_slices_heapSortOrdered_int : Sl → Int → Int → Heap → (Unit → Heap → Prop) → Prop) (c_slices_breakPatternsOrdered_int : Sl → Int → Int → Heap → (Unit → Heap → Prop) → Prop) (c_slices_choosePivotOrdered_int : Sl → Int → Int → Heap → (Den kapiEdge → Heap → Prop) → Prop) (c_slices_reverseRangeOrdered_int : Sl → Int → Int → Heap → (Unit → Heap → Prop) → Prop) (c_slices_partialInsertionSortOrdered_int : Sl → Int → Int → Heap → (Bool → Heap → Prop) → Prop) (c_cmp_Less_int : Int → Int → Heap → (Bool → Heap → Prop) → Prop) (c_slices_partitionEqualOrdered_int : Sl → Int → Int → Int → Heap → (Int → Heap → Prop) → Prop) (c_slices_partitionOrdered_int : Sl → Int → Int → Int → Heap → ((Int × (Bool × Unit)) → Heap → Prop) → Prop) (c_slices_pdqsortOrdered_int : Sl → Int → Int → Int → Heap → (Unit → Heap → Prop) → Prop) (data1 : Sl) (a2 : Int) (b3 : Int) (limit4 : Int) (h5 : Heap) (Q : Unit → Heap → Prop) : Prop :=
    Loop (slices_pdqsortOrdered_int.l7 c_slices_insertionSortOrdered_int c_slices_heapSortOrdered_int c_slices_breakPatternsOrdered_int c_slices_choosePivotOrdered_int c_slices_reverseRangeOrdered_int c_slices_partialInsertionSortOrdered_int c_cmp_Less_int c_slices_partitionEqualOrdered_int c_slices_partitionOrdered_int c_slices_pdqsortOrdered_int data1 Q) (a2, b3, limit4, true, true, ()) h5
def slices_pdqsortOrdered_int.mk : Mk := (.s .d (.s .d (.b (.l [.slot 1 (.int .i64), .slot 2 (.int .i64), .slot 3 (.int .i64), .slot 8 .bool, .slot 9 .bool] (.b (.s .d (.s (.s .d (.c (.s .d .d) .d)) (.s (.s .d (.c (.s .d .d) .d)) (.j [.slot 3 (.int .i64)] (.s .d (.c (.s .d .d) .d)) (.s .d (.j [.slot 11 (.int .i64), .slot 12 (.int .i64)] (.s .d (.c (.s .d (.s .d .d)) .d)) (.j [] (.j [.slot 68 .bool] .d (.c (.s .d (.c .d .d)) .d)) (.j [.slot 1 (.int .i64)] (.j [.slot 87 .bool] (.q [] [] [.p 0, .p 1, .p 2, .p 3, .p 4, .p 5, .p 6, .p 8, .p 9, .p 10, .w 7 [7, 12, 13, 14], .w 11 [11, 12, 13, 14], .o 12, .p 13, .p 14]) (.c (.s .d (.s .d .d)) .d)) (.s .d (.s .d (.s .d (.s .d (.s .d (.c (.s .d (.s .d .d)) (.s .d (.s .d .d)))))))))))))))))))))

def math_bits_Len.M (c_math_bits_Len64 : Int → Heap → (Int → Heap → Prop) → Prop) (x1 : Int) (h2 : Heap) (Q : Int → Heap → Prop) : Prop :=
    c_math_bits_Len64 x1 h2 fun r3 h4 =>
    Q r3 h4
def math_bits_Len.mk : Mk := (.s .d (.s (.c (.s .d .d) .d) (.s .d .d)))

def maps_Clone_map_int_int_int_int.M (c_maps_clone : Value → Heap → (Value → Heap → Prop) → Prop) (m1 : Option Nat) (h2 : Heap) (Q : Option Nat → Heap → Prop) : Prop :=
    (((Option.isNone m1) = true →
    Q none h2) ∧
    ((Option.isNone m1) = false →
    c_maps_clone (Value.iface 121 (Kd.val (.map : Kd) m1)) h2 fun r3 h4 =>
    ∃ m5, r3 = Value.iface 121 (Value.map m5) ∧
    Q m5 h4))
def maps_Clone_map_int_int_int_int.mk : Mk := (.s .d (.s (.s .d (.c (.s .d .d) .d)) (.s .d .d)))

def explore_walk_act.M  (w1 : Option Addr) (who2 : Int) (h3 : Heap) (Q : Den kapiAct → Heap → Prop) : Prop :=
    deref w1 fun a4 =>
    deref w1 fun a5 =>
    ld (.sl : Kd) h3 ((a4.add 0).add 2) fun t6 =>
    (0 ≤ who2 ∧ who2 < (t6.len : Int)) ∧
    deref t6.a fun a7 =>
    ld (.sl : Kd) h3 (a7.add ((who2 : Int).toNat * 1)) fun t8 =>
    ld (.sl : Kd) h3 (a5.add 3) fun t9 =>
    (0 ≤ who2 ∧ who2 < (t9.len : Int)) ∧
    deref t9.a fun a10 =>
    ld ((.int .i64) : Kd) h3 (a10.add ((who2 : Int).toNat * 1)) fun t11 =>
    (0 ≤ t11 ∧ t11 < (t8.len : Int)) ∧
    deref t8.a fun a12 =>
    ld kapiAct h3 (a12.add ((t11 : Int).toNat * 5)) fun t13 =>
    Q (t13.1, (t13.2.1, (t13.2.2.1, (t13.2.2.2.1, (t13.2.2.2.2.1, ()))))) h3
def explore_walk_act.mk : Mk := (.s (.r [0]) (.s (.q [] [4] [.p 0, .p 1, .p 2, .p 3, .p 5, .p 8, .p 9, .p 10, .p 12, .w 4 [4, 6, 7, 15, 16, 17], .p 6, .w 7 [7, 15, 16, 17], .w 11 [11, 13, 14, 15, 16, 17], .p 13, .w 14 [14, 15, 16, 17], .p 15, .w 16 [16, 17], .o 17]) .d))

def slices_Clone_int_int.M  (s1 : Sl) (h2 : Heap) (Q : Sl → Heap → Prop) : Prop :=
    ((s1.a.isNone = true →
    Q ⟨none, 0, 0⟩ h2) ∧
    (s1.a.isNone = false →
    new h2 (([] : List (Den ((.int .i64) : Kd))).flatMap (Kd.cells ((.int .i64) : Kd))) fun p3 h4 =>
    appendM 1 8 h4 ⟨some p3, 0, 0⟩ s1 fun t5 h6 =>
    Q t5 h6))
def slices_Clone_int_int.mk : Mk := (.s .d (.s (.s .d (.c (.s .d .d) .d)) (.s .d .d)))

def cells_good.M  (size1 : Int) (h2 : Heap) (Q : Bool → Heap → Prop) : Prop :=
    (((decide ((0 : Int) ≤ size1)) = true →
    Q (decide (size1 ≤ 1048576)) h2) ∧
    ((decide ((0 : Int) ≤ size1)) = false →
    Q false h2))
def cells_good.mk : Mk := (.s .d (.s .d .d))

def cells_ledger_refuse.j1 (Q : Int → Heap → Prop) (s4 : Unit) (h5 : Heap) : Prop :=
    Q 0 h5
def cells_ledger_refuse.j2 (Q : Int → Heap → Prop) (s6 : (Bool × Unit)) (h7 : Heap) : Prop :=
    ((s6.1 = true →
    Q 22 h7) ∧
    (s6.1 = false →
    cells_ledger_refuse.j1 Q () h7))
def cells_ledger_refuse.M  (l1 : Option Addr) (n2 : Int) (h3 : Heap) (Q : Int → Heap → Prop) : Prop :=
    (((decide (n2 < 1)) = true →
    Q 21 h3) ∧
    ((decide (n2 < 1)) = false →
    (((Option.isNone l1) = true →
    cells_ledger_refuse.j2 Q (true, ()) h3) ∧
    ((Option.isNone l1) = false →
    deref l1 fun a8 =>
    deref l1 fun a9 =>
    ld ((.int .i64) : Kd) h3 (a8.add 0) fun t10 =>
    ld ((.int .i64) : Kd) h3 (a9.add 1) fun t11 =>
    cells_ledger_refuse.j2 Q ((decide ((w64 (t10 - t11)) < n2)), ()) h3))))
def cells_ledger_refuse.mk : Mk := (.s .d (.s (.s .d (.c (.s .d .d) .d)) (.j [] (.j [.slot 21 .bool] (.q [] [] [.p 0, .p 1, .p 2, .p 3, .p 4, .p 5, .p 6, .p 8, .p 9, .p 10, .w 7 [7, 12, 13, 14], .w 11 [11, 12, 13, 14], .p 12, .p 13, .p 14]) (.c (.s .d .d) .d)) (.s .d .d))))

def cells_ledger_take.M  (l1 : Option Addr) (n2 : Int) (h3 : Heap) (Q : Int → Heap → Prop) : Prop :=
    deref l1 fun a4 =>
    ld ((.int .i64) : Kd) h3 (a4.add 1) fun t5 =>
    deref l1 fun a6 =>
    ld ((.int .i64) : Kd) h3 (a6.add 1) fun t7 =>
    deref l1 fun a8 =>
    st ((.int .i64) : Kd) h3 (a8.add 1) (w64 (t7 + n2)) fun h9 =>
    Q t5 h9
def cells_ledger_take.mk : Mk := (.s .d (.s .d (.s .d (.s .d .d))))

def cells_Arena_note.M  (a1 : Option Addr) (kind2 : Int) (addr3 : Int) (x4 : Int) (y5 : Int) (ok6 : Bool) (h7 : Heap) (Q : Unit → Heap → Prop) : Prop :=
    deref a1 fun a8 =>
    ld (.bool : Kd) h7 (a8.add 5) fun t9 =>
    ((t9 = true →
    deref a1 fun a10 =>
    deref a1 fun a11 =>
    ld (.sl : Kd) h7 (a10.add 3) fun t12 =>
    ld ((.int .i64) : Kd) h7 (a11.add 4) fun t13 =>
    new h7 (([(t13, (kind2, (addr3, (x4, (y5, (ok6, ()))))))] : List (Den kapiAccess)).flatMap (Kd.cells kapiAccess)) fun p14 h15 =>
    appendM 6 48 h15 t12 ⟨some p14, 1, 1⟩ fun t16 h17 =>
    deref a1 fun a18 =>
    st (.sl : Kd) h17 (a18.add 3) t16 fun h19 =>
    Q () h19) ∧
    (t9 = false →
    Q () h7))
def cells_Arena_note.mk : Mk := (.s .d (.c (.q [] [] [.p 0, .p 1, .p 2, .p 3, .p 5, .p 6, .p 7, .p 9, .p 10, .p 11, .p 12, .p 13, .w 4 [4, 16, 17, 18, 19], .w 8 [8, 14, 15, 16, 17, 18, 19], .p 14, .o 15, .o 16, .p 17, .p 18, .o 19]) .d))

def cells_Arena_outside.M (c_cells_ledger_has : Option Addr → Int → Heap → (Bool → Heap → Prop) → Prop) (a1 : Option Addr) (addr2 : Int) (h3 : Heap) (Q : Bool → Heap → Prop) : Prop :=
    (((Option.isNone a1) = true →
    Q true h3) ∧
    ((Option.isNone a1) = false →
    deref a1 fun a4 =>
    c_cells_ledger_has (some (a4.add 0)) addr2 h3 fun r5 h6 =>
    Q (!r5) h6))
def cells_Arena_outside.mk : Mk := (.s .d (.s .d .d))

def cells_Arena_Load.M (c_cells_Arena_outside : Option Addr → Int → Heap → (Bool → Heap → Prop) → Prop) (c_cells_Arena_note : Option Addr → Int → Int → Int → Int → Bool → Heap → (Unit → Heap → Prop) → Prop) (a1 : Option Addr) (addr2 : Int) (h3 : Heap) (Q : Den kapiEdge → Heap → Prop) : Prop :=
    c_cells_Arena_outside a1 addr2 h3 fun r4 h5 =>
    ((r4 = true →
    Q (0, 20, ()) h5) ∧
    (r4 = false →
    deref a1 fun a6 =>
    ld (.sl : Kd) h5 (a6.add 2) fun t7 =>
    (0 ≤ addr2 ∧ addr2 < (t7.len : Int)) ∧
    deref t7.a fun a8 =>
    ld ((.int .i64) : Kd) h5 (a8.add ((addr2 : Int).toNat * 1)) fun t9 =>
    c_cells_Arena_note a1 0 addr2 t9 0 true h5 fun r10 h11 =>
    Q (t9, 0, ()) h11))
def cells_Arena_Load.mk : Mk := (.s .d (.s (.s .d (.c (.s .d .d) .d)) (.s .d (.s .d (.s .d .d)))))

def cells_Arena_CAS.j1 (c_cells_Arena_note : Option Addr → Int → Int → Int → Int → Bool → Heap → (Unit → Heap → Prop) → Prop) (a1 : Option Addr) (addr2 : Int) (old3 : Int) (next4 : Int) (Q : (Bool × (Int × Unit)) → Heap → Prop) (t11 : Int) (s12 : Unit) (h13 : Heap) : Prop :=
    c_cells_Arena_note a1 2 addr2 old3 next4 (decide (t11 = old3)) h13 fun r14 h15 =>
    Q ((decide (t11 = old3)), 0, ()) h15
def cells_Arena_CAS.M (c_cells_Arena_outside : Option Addr → Int → Heap → (Bool → Heap → Prop) → Prop) (c_cells_Arena_note : Option Addr → Int → Int → Int → Int → Bool → Heap → (Unit → Heap → Prop) → Prop) (a1 : Option Addr) (addr2 : Int) (old3 : Int) (next4 : Int) (h5 : Heap) (Q : (Bool × (Int × Unit)) → Heap → Prop) : Prop :=
    c_cells_Arena_outside a1 addr2 h5 fun r6 h7 =>
    ((r6 = true →
    Q (false, 20, ()) h7) ∧
    (r6 = false →
    deref a1 fun a8 =>
    ld (.sl : Kd) h7 (a8.add 2) fun t9 =>
    (0 ≤ addr2 ∧ addr2 < (t9.len : Int)) ∧
    deref t9.a fun a10 =>
    ld ((.int .i64) : Kd) h7 (a10.add ((addr2 : Int).toNat * 1)) fun t11 =>
    (((decide (t11 = old3)) = true →
    deref a1 fun a16 =>
    ld (.sl : Kd) h7 (a16.add 2) fun t17 =>
    (0 ≤ addr2 ∧ addr2 < (t17.len : Int)) ∧
    deref t17.a fun a18 =>
    st ((.int .i64) : Kd) h7 (a18.add ((addr2 : Int).toNat * 1)) next4 fun h19 =>
    cells_Arena_CAS.j1 c_cells_Arena_note a1 addr2 old3 next4 Q t11 () h19) ∧
    ((decide (t11 = old3)) = false →
    cells_Arena_CAS.j1 c_cells_Arena_note a1 addr2 old3 next4 Q t11 () h7))))
def cells_Arena_CAS.mk : Mk := (.s .d (.s (.s .d (.c (.s .d .d) .d)) (.s .d (.j [] (.s .d (.c .d .d)) (.s .d (.s .d .d))))))

def cells_Arena_Add.M (c_cells_Arena_outside : Option Addr → Int → Heap → (Bool → Heap → Prop) → Prop) (c_cells_Arena_note : Option Addr → Int → Int → Int → Int → Bool → Heap → (Unit → Heap → Prop) → Prop) (a1 : Option Addr) (addr2 : Int) (d3 : Int) (h4 : Heap) (Q : Den kapiEdge → Heap → Prop) : Prop :=
    c_cells_Arena_outside a1 addr2 h4 fun r5 h6 =>
    ((r5 = true →
    Q (0, 20, ()) h6) ∧
    (r5 = false →
    deref a1 fun a7 =>
    ld (.sl : Kd) h6 (a7.add 2) fun t8 =>
    (0 ≤ addr2 ∧ addr2 < (t8.len : Int)) ∧
    deref t8.a fun a9 =>
    ld ((.int .i64) : Kd) h6 (a9.add ((addr2 : Int).toNat * 1)) fun t10 =>
    (0 ≤ addr2 ∧ addr2 < (t8.len : Int)) ∧
    deref t8.a fun a11 =>
    st ((.int .i64) : Kd) h6 (a11.add ((addr2 : Int).toNat * 1)) (w64 (t10 + d3)) fun h12 =>
    deref a1 fun a13 =>
    ld (.sl : Kd) h12 (a13.add 2) fun t14 =>
    (0 ≤ addr2 ∧ addr2 < (t14.len : Int)) ∧
    deref t14.a fun a15 =>
    ld ((.int .i64) : Kd) h12 (a15.add ((addr2 : Int).toNat * 1)) fun t16 =>
    c_cells_Arena_note a1 3 addr2 d3 t16 true h12 fun r17 h18 =>
    deref a1 fun a19 =>
    ld (.sl : Kd) h18 (a19.add 2) fun t20 =>
    (0 ≤ addr2 ∧ addr2 < (t20.len : Int)) ∧
    deref t20.a fun a21 =>
    ld ((.int .i64) : Kd) h18 (a21.add ((addr2 : Int).toNat * 1)) fun t22 =>
    Q (t22, 0, ()) h18))
def cells_Arena_Add.mk : Mk := (.s .d (.s (.s .d (.c (.s .d .d) .d)) (.s .d (.s .d (.s .d .d)))))

def cmp_isNaN_int.M  (x1 : Int) (h2 : Heap) (Q : Bool → Heap → Prop) : Prop :=
    Q (decide (x1 ≠ x1)) h2
def cmp_isNaN_int.mk : Mk := (.s .d (.s .d .d))

def cmp_Compare_int64.M (c_cmp_isNaN_int64 : Int → Heap → (Bool → Heap → Prop) → Prop) (x1 : Int) (y2 : Int) (h3 : Heap) (Q : Int → Heap → Prop) : Prop :=
    c_cmp_isNaN_int64 x1 h3 fun r4 h5 =>
    c_cmp_isNaN_int64 y2 h5 fun r6 h7 =>
    ((r4 = true →
    ((r6 = true →
    Q 0 h7) ∧
    (r6 = false →
    Q (-1) h7))) ∧
    (r4 = false →
    ((r6 = true →
    Q 1 h7) ∧
    (r6 = false →
    (((decide (x1 < y2)) = true →
    Q (-1) h7) ∧
    ((decide (x1 < y2)) = false →
    (((decide (y2 < x1)) = true →
    Q 1 h7) ∧
    ((decide (y2 < x1)) = false →
    Q 0 h7))))))))
def cmp_Compare_int64.mk : Mk := (.s .d (.s .d (.s .d (.s (.s .d (.c (.s (.s .d (.c (.s .d .d) .d)) (.s .d .d)) .d)) (.s (.s .d (.c (.s .d .d) .d)) (.s (.s .d (.c (.s .d .d) .d)) (.s (.s .d (.c (.s .d .d) .d)) (.s .d .d))))))))

def slices_rotateLeft_int64.M (c_slices_Reverse_int64_int64 : Sl → Heap → (Unit → Heap → Prop) → Prop) (s1 : Sl) (r2 : Int) (h3 : Heap) (Q : Unit → Heap → Prop) : Prop :=
    (0 ≤ r2 ∧ r2 ≤ (s1.cap : Int)) ∧
    c_slices_Reverse_int64_int64 (s1.cut 0 ((r2 : Int).toNat) 1) h3 fun r4 h5 =>
    (0 ≤ r2 ∧ r2 ≤ (s1.len : Int)) ∧
    c_slices_Reverse_int64_int64 (s1.cut ((r2 : Int).toNat) s1.len 1) h5 fun r6 h7 =>
    c_slices_Reverse_int64_int64 s1 h7 fun r8 h9 =>
    Q () h9
def slices_rotateLeft_int64.mk : Mk := (.s .d (.s .d .d))

def slices_IndexFunc_int_int.l1 (c_fn : Value → Int → Heap → (Bool → Heap → Prop) → Prop) (s1 : Sl) (f2 : Value) (Q : Int → Heap → Prop) (go6 : (Int × Unit) → Heap → Prop) (s4 : (Int × Unit)) (h5 : Heap) : Prop :=
    (((decide (s4.1 < (s1.len : Int))) = true →
    (0 ≤ s4.1 ∧ s4.1 < (s1.len : Int)) ∧
    deref s1.a fun a7 =>
    ld ((.int .i64) : Kd) h5 (a7.add ((s4.1 : Int).toNat * 1)) fun t8 =>
    c_fn f2 t8 h5 fun r9 h10 =>
    ((r9 = true →
    Q s4.1 h10) ∧
    (r9 = false →
    go6 ((w64 (s4.1 + 1)), ()) h10))) ∧
    ((decide (s4.1 < (s1.len : Int))) = false →
    Q (-1) h5))
def slices_IndexFunc_int_int.M (c_fn : Value → Int → Heap → (Bool → Heap → Prop) → Prop) (s1 : Sl) (f2 : Value) (h3 : Heap) (Q : Int → Heap → Prop) : Prop :=
    Loop (slices_IndexFunc_int_int.l1 c_fn s1 f2 Q) (0, ()) h3
def slices_IndexFunc_int_int.mk : Mk := (.s .d (.s (.s .d (.b (.l [.slot 8 (.int .i64)] (.s .d (.s (.c .d .d) (.s (.b (.s .d (.s .d (.c (.s .d .d) .d)))) .d)))))) (.s .d .d)))

def slices_insertionSortOrdered_int.j1 (go7 : (Int × Unit) → Heap → Prop) (s5 : (Int × Unit)) (s8 : Unit) (h9 : Heap) : Prop :=
    go7 ((w64 (s5.1 + 1)), ()) h9
def slices_insertionSortOrdered_int.j2 (data1 : Sl) (go12 : (Int × Unit) → Heap → Prop) (s10 : (Int × Unit)) (s13 : Unit) (h14 : Heap) : Prop :=
    (0 ≤ (w64 (s10.1 - 1)) ∧ (w64 (s10.1 - 1)) < (data1.len : Int)) ∧
    deref data1.a fun a15 =>
    (0 ≤ s10.1 ∧ s10.1 < (data1.len : Int)) ∧
    deref data1.a fun a16 =>
    ld ((.int .i64) : Kd) h14 (a15.add (((w64 (s10.1 - 1)) : Int).toNat * 1)) fun t17 =>
    ld ((.int .i64) : Kd) h14 (a16.add ((s10.1 : Int).toNat * 1)) fun t18 =>
    (0 ≤ s10.1 ∧ s10.1 < (data1.len : Int)) ∧
    deref data1.a fun a19 =>
    st ((.int .i64) : Kd) h14 (a19.add ((s10.1 : Int).toNat * 1)) t17 fun h20 =>
    (0 ≤ (w64 (s10.1 - 1)) ∧ (w64 (s10.1 - 1)) < (data1.len : Int)) ∧
    deref data1.a fun a21 =>
    st ((.int .i64) : Kd) h20 (a21.add (((w64 (s10.1 - 1)) : Int).toNat * 1)) t18 fun h22 =>
    go12 ((w64 (s10.1 - 1)), ()) h22
def slices_insertionSortOrdered_int.j3 (data1 : Sl) (go7 : (Int × Unit) → Heap → Prop) (s5 : (Int × Unit)) (go12 : (Int × Unit) → Heap → Prop) (s10 : (Int × Unit)) (s23 : (Bool × Unit)) (h24 : Heap) : Prop :=
    ((s23.1 = true →
    slices_insertionSortOrdered_int.j2 data1 go12 s10 () h24) ∧
    (s23.1 = false →
    slices_insertionSortOrdered_int.j1 go7 s5 () h24))
def slices_insertionSortOrdered_int.l4 (c_cmp_Less_int : Int → Int → Heap → (Bool → Heap → Prop) → Prop) (data1 : Sl) (a2 : Int) (go7 : (Int × Unit) → Heap → Prop) (s5 : (Int × Unit)) (go12 : (Int × Unit) → Heap → Prop) (s10 : (Int × Unit)) (h11 : Heap) : Prop :=
    (((decide (a2 < s10.1)) = true →
    (0 ≤ s10.1 ∧ s10.1 < (data1.len : Int)) ∧
    deref data1.a fun a25 =>
    (0 ≤ (w64 (s10.1 - 1)) ∧ (w64 (s10.1 - 1)) < (data1.len : Int)) ∧
    deref data1.a fun a26 =>
    ld ((.int .i64) : Kd) h11 (a25.add ((s10.1 : Int).toNat * 1)) fun t27 =>
    ld ((.int .i64) : Kd) h11 (a26.add (((w64 (s10.1 - 1)) : Int).toNat * 1)) fun t28 =>
    c_cmp_Less_int t27 t28 h11 fun r29 h30 =>
    slices_insertionSortOrdered_int.j3 data1 go7 s5 go12 s10 (r29, ()) h30) ∧
    ((decide (a2 < s10.1)) = false →
    slices_insertionSortOrdered_int.j3 data1 go7 s5 go12 s10 (false, ()) h11))
def slices_insertionSortOrdered_int.l5 (c_cmp_Less_int : Int → Int → Heap → (Bool → Heap → Prop) → Prop) (data1 : Sl) (a2 : Int) (b3 : Int) (Q : Unit → Heap → Prop) (go7 : (Int × Unit) → Heap → Prop) (s5 : (Int × Unit)) (h6 : Heap) : Prop :=
    (((decide (s5.1 < b3)) = true →
    Loop (slices_insertionSortOrdered_int.l4 c_cmp_Less_int data1 a2 go7 s5) (s5.1, ()) h6) ∧
    ((decide (s5.1 < b3)) = false →
    Q () h6))
def slices_insertionSortOrdered_int.M (c_cmp_Less_int : Int → Int → Heap → (Bool → Heap → Prop) → Prop) (data1 : Sl) (a2 : Int) (b3 : Int) (h4 : Heap) (Q : Unit → Heap → Prop) : Prop :=
    Loop (slices_insertionSortOrdered_int.l5 c_cmp_Less_int data1 a2 b3 Q) ((w64 (a2 + 1)), ()) h4
def slices_insertionSortOrdered_int.mk : Mk := (.s .d (.b (.l [.slot 6 (.int .i64)] (.s (.s .d (.c .d .d)) (.j [] (.b (.s .d (.b (.l [.slot 7 (.int .i64)] (.j [] (.j [.slot 30 .bool] (.q [] [] [.p 0, .p 1, .p 2, .p 3, .p 4, .p 5, .p 6, .p 8, .p 9, .p 10, .p 11, .w 7 [7, 13, 14], .w 12 [12, 13, 14], .o 13, .p 14]) (.c .d .d)) (.s (.b (.q [] [] [.p 0, .p 1, .p 2, .p 3, .p 4, .p 5, .p 6, .p 7, .p 8, .p 10, .p 11, .p 12, .w 9 [9, 14, 15, 16, 17], .w 13 [13, 14, 15, 16, 17], .p 14, .o 15, .p 16, .o 17])) .d)))))) .d)))))

def slices_heapSortOrdered_int.l1 (c_slices_siftDownOrdered_int : Sl → Int → Int → Int → Heap → (Unit → Heap → Prop) → Prop) (data1 : Sl) (a2 : Int) (Q : Unit → Heap → Prop) (go12 : (Int × Unit) → Heap → Prop) (s10 : (Int × Unit)) (h11 : Heap) : Prop :=
    (((decide ((0 : Int) ≤ s10.1)) = true →
    (0 ≤ (w64 (a2 + s10.1)) ∧ (w64 (a2 + s10.1)) < (data1.len : Int)) ∧
    deref data1.a fun a13 =>
    (0 ≤ a2 ∧ a2 < (data1.len : Int)) ∧
    deref data1.a fun a14 =>
    ld ((.int .i64) : Kd) h11 (a13.add (((w64 (a2 + s10.1)) : Int).toNat * 1)) fun t15 =>
    ld ((.int .i64) : Kd) h11 (a14.add ((a2 : Int).toNat * 1)) fun t16 =>
    (0 ≤ a2 ∧ a2 < (data1.len : Int)) ∧
    deref data1.a fun a17 =>
    st ((.int .i64) : Kd) h11 (a17.add ((a2 : Int).toNat * 1)) t15 fun h18 =>
    (0 ≤ (w64 (a2 + s10.1)) ∧ (w64 (a2 + s10.1)) < (data1.len : Int)) ∧
    deref data1.a fun a19 =>
    st ((.int .i64) : Kd) h18 (a19.add (((w64 (a2 + s10.1)) : Int).toNat * 1)) t16 fun h20 =>
    c_slices_siftDownOrdered_int data1 0 s10.1 a2 h20 fun r21 h22 =>
    go12 ((w64 (s10.1 - 1)), ()) h22) ∧
    ((decide ((0 : Int) ≤ s10.1)) = false →
    Q () h11))
def slices_heapSortOrdered_int.l2 (c_slices_siftDownOrdered_int : Sl → Int → Int → Int → Heap → (Unit → Heap → Prop) → Prop) (data1 : Sl) (a2 : Int) (b3 : Int) (Q : Unit → Heap → Prop) (go7 : (Int × Unit) → Heap → Prop) (s5 : (Int × Unit)) (h6 : Heap) : Prop :=
    (((decide ((0 : Int) ≤ s5.1)) = true →
    c_slices_siftDownOrdered_int data1 s5.1 (w64 (b3 - a2)) a2 h6 fun r8 h9 =>
    go7 ((w64 (s5.1 - 1)), ()) h9) ∧
    ((decide ((0 : Int) ≤ s5.1)) = false →
    Loop (slices_heapSortOrdered_int.l1 c_slices_siftDownOrdered_int data1 a2 Q) ((w64 ((w64 (b3 - a2)) - 1)), ()) h6))
def slices_heapSortOrdered_int.M (c_slices_siftDownOrdered_int : Sl → Int → Int → Int → Heap → (Unit → Heap → Prop) → Prop) (data1 : Sl) (a2 : Int) (b3 : Int) (h4 : Heap) (Q : Unit → Heap → Prop) : Prop :=
    (2 : Int) ≠ 0 ∧
    Loop (slices_heapSortOrdered_int.l2 c_slices_siftDownOrdered_int data1 a2 b3 Q) ((w64 (Int.tdiv (w64 ((w64 (b3 - a2)) - 1)) 2)), ()) h4
def slices_heapSortOrdered_int.mk : Mk := (.s .d (.s .d (.s .d (.s (.s .d (.b (.l [.slot 9 (.int .i64)] (.s (.s .d (.c .d .d)) (.s (.b .d) .d))))) (.s .d (.b (.l [.slot 10 (.int .i64)] (.s (.s .d (.c .d .d)) (.s (.b (.s (.q [] [] [.p 0, .p 1, .p 2, .p 3, .p 4, .p 5, .p 6, .p 7, .p 8, .p 9, .p 10, .p 12, .p 13, .p 14, .w 11 [11, 16, 17, 18, 19], .w 15 [15, 16, 17, 18, 19], .p 16, .o 17, .p 18, .o 19]) .d)) .d)))))))))

def slices_choosePivotOrdered_int.j1 (Q : Den kapiEdge → Heap → Prop) (p5 : Addr) (s7 : (Int × Unit)) (h8 : Heap) : Prop :=
    ld ((.int .i64) : Kd) h8 p5 fun t9 =>
    (((decide (t9 = 0)) = true →
    Q (s7.1, 1, ()) h8) ∧
    ((decide (t9 = 0)) = false →
    (((decide (t9 = 12)) = true →
    Q (s7.1, 2, ()) h8) ∧
    ((decide (t9 = 12)) = false →
    Q (s7.1, 0, ()) h8))))
def slices_choosePivotOrdered_int.j2 (c_slices_medianOrdered_int : Sl → Int → Int → Int → Option Addr → Heap → (Int → Heap → Prop) → Prop) (data1 : Sl) (Q : Den kapiEdge → Heap → Prop) (p5 : Addr) (s10 : (Int × Den kapiEdge)) (h11 : Heap) : Prop :=
    c_slices_medianOrdered_int data1 s10.1 s10.2.1 s10.2.2.1 (some p5) h11 fun r12 h13 =>
    slices_choosePivotOrdered_int.j1 Q p5 (r12, ()) h13
def slices_choosePivotOrdered_int.M (c_slices_medianAdjacentOrdered_int : Sl → Int → Option Addr → Heap → (Int → Heap → Prop) → Prop) (c_slices_medianOrdered_int : Sl → Int → Int → Int → Option Addr → Heap → (Int → Heap → Prop) → Prop) (data1 : Sl) (a2 : Int) (b3 : Int) (h4 : Heap) (Q : Den kapiEdge → Heap → Prop) : Prop :=
    new h4 (((.int .i64) : Kd).cells (((.int .i64) : Kd).zero)) fun p5 h6 =>
    (4 : Int) ≠ 0 ∧
    (4 : Int) ≠ 0 ∧
    (4 : Int) ≠ 0 ∧
    (((decide ((8 : Int) ≤ (w64 (b3 - a2)))) = true →
    (((decide ((50 : Int) ≤ (w64 (b3 - a2)))) = true →
    c_slices_medianAdjacentOrdered_int data1 (w64 (a2 + (w64 ((w64 (Int.tdiv (w64 (b3 - a2)) 4)) * 1)))) (some p5) h6 fun r14 h15 =>
    c_slices_medianAdjacentOrdered_int data1 (w64 (a2 + (w64 ((w64 (Int.tdiv (w64 (b3 - a2)) 4)) * 2)))) (some p5) h15 fun r16 h17 =>
    c_slices_medianAdjacentOrdered_int data1 (w64 (a2 + (w64 ((w64 (Int.tdiv (w64 (b3 - a2)) 4)) * 3)))) (some p5) h17 fun r18 h19 =>
    slices_choosePivotOrdered_int.j2 c_slices_medianOrdered_int data1 Q p5 (r14, r16, r18, ()) h19) ∧
    ((decide ((50 : Int) ≤ (w64 (b3 - a2)))) = false →
    slices_choosePivotOrdered_int.j2 c_slices_medianOrdered_int data1 Q p5 ((w64 (a2 + (w64 ((w64 (Int.tdiv (w64 (b3 - a2)) 4)) * 1)))), (w64 (a2 + (w64 ((w64 (Int.tdiv (w64 (b3 - a2)) 4)) * 2)))), (w64 (a2 + (w64 ((w64 (Int.tdiv (w64 (b3 - a2)) 4)) * 3)))), ()) h6))) ∧
    ((decide ((8 : Int) ≤ (w64 (b3 - a2)))) = false →
    slices_choosePivotOrdered_int.j1 Q p5 ((w64 (a2 + (w64 ((w64 (Int.tdiv (w64 (b3 - a2)) 4)) * 2)))), ()) h6))
def slices_choosePivotOrdered_int.mk : Mk := (.s .d (.s .d (.s .d (.s .d (.s .d (.s .d (.j [.slot 11 (.int .i64)] (.s .d (.c (.j [.slot 10 (.int .i64), .slot 11 (.int .i64), .slot 12 (.int .i64)] (.s .d (.c (.s .d (.s .d .d)) .d)) .d) .d)) (.s .d (.b (.s .d (.c (.s .d .d) (.s .d (.c (.s .d .d) (.s .d .d))))))))))))))

def slices_reverseRangeOrdered_int.l1 (data1 : Sl) (Q : Unit → Heap → Prop) (go7 : Den kapiEdge → Heap → Prop) (s5 : Den kapiEdge) (h6 : Heap) : Prop :=
    (((decide (s5.1 < s5.2.1)) = true →
    (0 ≤ s5.2.1 ∧ s5.2.1 < (data1.len : Int)) ∧
    deref data1.a fun a8 =>
    (0 ≤ s5.1 ∧ s5.1 < (data1.len : Int)) ∧
    deref data1.a fun a9 =>
    ld ((.int .i64) : Kd) h6 (a8.add ((s5.2.1 : Int).toNat * 1)) fun t10 =>
    ld ((.int .i64) : Kd) h6 (a9.add ((s5.1 : Int).toNat * 1)) fun t11 =>
    (0 ≤ s5.1 ∧ s5.1 < (data1.len : Int)) ∧
    deref data1.a fun a12 =>
    st ((.int .i64) : Kd) h6 (a12.add ((s5.1 : Int).toNat * 1)) t10 fun h13 =>
    (0 ≤ s5.2.1 ∧ s5.2.1 < (data1.len : Int)) ∧
    deref data1.a fun a14 =>
    st ((.int .i64) : Kd) h13 (a14.add ((s5.2.1 : Int).toNat * 1)) t11 fun h15 =>
    go7 ((w64 (s5.1 + 1)), (w64 (s5.2.1 - 1)), ()) h15) ∧
    ((decide (s5.1 < s5.2.1)) = false →
    Q () h6))
def slices_reverseRangeOrdered_int.M  (data1 : Sl) (a2 : Int) (b3 : Int) (h4 : Heap) (Q : Unit → Heap → Prop) : Prop :=
    Loop (slices_reverseRangeOrdered_int.l1 data1 Q) (a2, (w64 (b3 - 1)), ()) h4
def slices_reverseRangeOrdered_int.mk : Mk := (.s .d (.s .d (.b (.l [.slot 6 (.int .i64), .slot 7 (.int .i64)] (.s (.s .d (.c .d .d)) (.b (.s (.q [] [] [.p 0, .p 1, .p 2, .p 3, .p 4, .p 5, .p 6, .p 8, .p 9, .p 10, .w 7 [7, 12, 13, 14, 15], .w 11 [11, 12, 13, 14, 15], .p 12, .o 13, .p 14, .o 15]) (.s .d .d))))))))

def slices_partialInsertionSortOrdered_int.j1 (go7 : Den kapiEdge → Heap → Prop) (s5 : Den kapiEdge) (s8 : (Int × Unit)) (h9 : Heap) : Prop :=
    go7 (s8.1, (w64 (s5.2.1 + 1)), ()) h9
def slices_partialInsertionSortOrdered_int.l2 (c_cmp_Less_int : Int → Int → Heap → (Bool → Heap → Prop) → Prop) (data1 : Sl) (b3 : Int) (go7 : Den kapiEdge → Heap → Prop) (s5 : Den kapiEdge) (s10 : (Int × Unit)) (go24 : (Int × Unit) → Heap → Prop) (s22 : (Int × Unit)) (h23 : Heap) : Prop :=
    (((decide (s22.1 < b3)) = true →
    (0 ≤ s22.1 ∧ s22.1 < (data1.len : Int)) ∧
    deref data1.a fun a25 =>
    (0 ≤ (w64 (s22.1 - 1)) ∧ (w64 (s22.1 - 1)) < (data1.len : Int)) ∧
    deref data1.a fun a26 =>
    ld ((.int .i64) : Kd) h23 (a25.add ((s22.1 : Int).toNat * 1)) fun t27 =>
    ld ((.int .i64) : Kd) h23 (a26.add (((w64 (s22.1 - 1)) : Int).toNat * 1)) fun t28 =>
    c_cmp_Less_int t27 t28 h23 fun r29 h30 =>
    (((!r29) = true →
    slices_partialInsertionSortOrdered_int.j1 go7 s5 (s10.1, ()) h30) ∧
    ((!r29) = false →
    (0 ≤ (w64 (s22.1 - 1)) ∧ (w64 (s22.1 - 1)) < (data1.len : Int)) ∧
    deref data1.a fun a31 =>
    (0 ≤ s22.1 ∧ s22.1 < (data1.len : Int)) ∧
    deref data1.a fun a32 =>
    ld ((.int .i64) : Kd) h30 (a31.add (((w64 (s22.1 - 1)) : Int).toNat * 1)) fun t33 =>
    ld ((.int .i64) : Kd) h30 (a32.add ((s22.1 : Int).toNat * 1)) fun t34 =>
    (0 ≤ s22.1 ∧ s22.1 < (data1.len : Int)) ∧
    deref data1.a fun a35 =>
    st ((.int .i64) : Kd) h30 (a35.add ((s22.1 : Int).toNat * 1)) t33 fun h36 =>
    (0 ≤ (w64 (s22.1 - 1)) ∧ (w64 (s22.1 - 1)) < (data1.len : Int)) ∧
    deref data1.a fun a37 =>
    st ((.int .i64) : Kd) h36 (a37.add (((w64 (s22.1 - 1)) : Int).toNat * 1)) t34 fun h38 =>
    go24 ((w64 (s22.1 + 1)), ()) h38))) ∧
    ((decide (s22.1 < b3)) = false →
    slices_partialInsertionSortOrdered_int.j1 go7 s5 (s10.1, ()) h23))
def slices_partialInsertionSortOrdered_int.j3 (c_cmp_Less_int : Int → Int → Heap → (Bool → Heap → Prop) → Prop) (data1 : Sl) (b3 : Int) (go7 : Den kapiEdge → Heap → Prop) (s5 : Den kapiEdge) (s10 : (Int × Unit)) (s20 : Unit) (h21 : Heap) : Prop :=
    (((decide ((2 : Int) ≤ (w64 (b3 - s10.1)))) = true →
    Loop (slices_partialInsertionSortOrdered_int.l2 c_cmp_Less_int data1 b3 go7 s5 s10) ((w64 (s10.1 + 1)), ()) h21) ∧
    ((decide ((2 : Int) ≤ (w64 (b3 - s10.1)))) = false →
    slices_partialInsertionSortOrdered_int.j1 go7 s5 (s10.1, ()) h21))
def slices_partialInsertionSortOrdered_int.l4 (c_cmp_Less_int : Int → Int → Heap → (Bool → Heap → Prop) → Prop) (data1 : Sl) (b3 : Int) (go7 : Den kapiEdge → Heap → Prop) (s5 : Den kapiEdge) (s10 : (Int × Unit)) (go41 : (Int × Unit) → Heap → Prop) (s39 : (Int × Unit)) (h40 : Heap) : Prop :=
    (((decide ((1 : Int) ≤ s39.1)) = true →
    (0 ≤ s39.1 ∧ s39.1 < (data1.len : Int)) ∧
    deref data1.a fun a42 =>
    (0 ≤ (w64 (s39.1 - 1)) ∧ (w64 (s39.1 - 1)) < (data1.len : Int)) ∧
    deref data1.a fun a43 =>
    ld ((.int .i64) : Kd) h40 (a42.add ((s39.1 : Int).toNat * 1)) fun t44 =>
    ld ((.int .i64) : Kd) h40 (a43.add (((w64 (s39.1 - 1)) : Int).toNat * 1)) fun t45 =>
    c_cmp_Less_int t44 t45 h40 fun r46 h47 =>
    (((!r46) = true →
    slices_partialInsertionSortOrdered_int.j3 c_cmp_Less_int data1 b3 go7 s5 s10 () h47) ∧
    ((!r46) = false →
    (0 ≤ (w64 (s39.1 - 1)) ∧ (w64 (s39.1 - 1)) < (data1.len : Int)) ∧
    deref data1.a fun a48 =>
    (0 ≤ s39.1 ∧ s39.1 < (data1.len : Int)) ∧
    deref data1.a fun a49 =>
    ld ((.int .i64) : Kd) h47 (a48.add (((w64 (s39.1 - 1)) : Int).toNat * 1)) fun t50 =>
    ld ((.int .i64) : Kd) h47 (a49.add ((s39.1 : Int).toNat * 1)) fun t51 =>
    (0 ≤ s39.1 ∧ s39.1 < (data1.len : Int)) ∧
    deref data1.a fun a52 =>
    st ((.int .i64) : Kd) h47 (a52.add ((s39.1 : Int).toNat * 1)) t50 fun h53 =>
    (0 ≤ (w64 (s39.1 - 1)) ∧ (w64 (s39.1 - 1)) < (data1.len : Int)) ∧
    deref data1.a fun a54 =>
    st ((.int .i64) : Kd) h53 (a54.add (((w64 (s39.1 - 1)) : Int).toNat * 1)) t51 fun h55 =>
    go41 ((w64 (s39.1 - 1)), ()) h55))) ∧
    ((decide ((1 : Int) ≤ s39.1)) = false →
    slices_partialInsertionSortOrdered_int.j3 c_cmp_Less_int data1 b3 go7 s5 s10 () h40))
def slices_partialInsertionSortOrdered_int.j5 (c_cmp_Less_int : Int → Int → Heap → (Bool → Heap → Prop) → Prop) (data1 : Sl) (a2 : Int) (b3 : Int) (Q : Bool → Heap → Prop) (go7 : Den kapiEdge → Heap → Prop) (s5 : Den kapiEdge) (s10 : (Int × Unit)) (h11 : Heap) : Prop :=
    (((decide (s10.1 = b3)) = true →
    Q true h11) ∧
    ((decide (s10.1 = b3)) = false →
    (((decide ((w64 (b3 - a2)) < 50)) = true →
    Q false h11) ∧
    ((decide ((w64 (b3 - a2)) < 50)) = false →
    (0 ≤ (w64 (s10.1 - 1)) ∧ (w64 (s10.1 - 1)) < (data1.len : Int)) ∧
    deref data1.a fun a12 =>
    (0 ≤ s10.1 ∧ s10.1 < (data1.len : Int)) ∧
    deref data1.a fun a13 =>
    ld ((.int .i64) : Kd) h11 (a12.add (((w64 (s10.1 - 1)) : Int).toNat * 1)) fun t14 =>
    ld ((.int .i64) : Kd) h11 (a13.add ((s10.1 : Int).toNat * 1)) fun t15 =>
    (0 ≤ s10.1 ∧ s10.1 < (data1.len : Int)) ∧
    deref data1.a fun a16 =>
    st ((.int .i64) : Kd) h11 (a16.add ((s10.1 : Int).toNat * 1)) t14 fun h17 =>
    (0 ≤ (w64 (s10.1 - 1)) ∧ (w64 (s10.1 - 1)) < (data1.len : Int)) ∧
    deref data1.a fun a18 =>
    st ((.int .i64) : Kd) h17 (a18.add (((w64 (s10.1 - 1)) : Int).toNat * 1)) t15 fun h19 =>
    (((decide ((2 : Int) ≤ (w64 (s10.1 - a2)))) = true →
    Loop (slices_partialInsertionSortOrdered_int.l4 c_cmp_Less_int data1 b3 go7 s5 s10) ((w64 (s10.1 - 1)), ()) h19) ∧
    ((decide ((2 : Int) ≤ (w64 (s10.1 - a2)))) = false →
    slices_partialInsertionSortOrdered_int.j3 c_cmp_Less_int data1 b3 go7 s5 s10 () h19))))))
def slices_partialInsertionSortOrdered_int.j6 (go58 : (Int × Unit) → Heap → Prop) (s56 : (Int × Unit)) (s59 : Unit) (h60 : Heap) : Prop :=
    go58 ((w64 (s56.1 + 1)), ()) h60
def slices_partialInsertionSortOrdered_int.j7 (c_cmp_Less_int : Int → Int → Heap → (Bool → Heap → Prop) → Prop) (data1 : Sl) (a2 : Int) (b3 : Int) (Q : Bool → Heap → Prop) (go7 : Den kapiEdge → Heap → Prop) (s5 : Den kapiEdge) (go58 : (Int × Unit) → Heap → Prop) (s56 : (Int × Unit)) (s61 : (Bool × Unit)) (h62 : Heap) : Prop :=
    ((s61.1 = true →
    slices_partialInsertionSortOrdered_int.j6 go58 s56 () h62) ∧
    (s61.1 = false →
    slices_partialInsertionSortOrdered_int.j5 c_cmp_Less_int data1 a2 b3 Q go7 s5 (s56.1, ()) h62))
def slices_partialInsertionSortOrdered_int.l8 (c_cmp_Less_int : Int → Int → Heap → (Bool → Heap → Prop) → Prop) (data1 : Sl) (a2 : Int) (b3 : Int) (Q : Bool → Heap → Prop) (go7 : Den kapiEdge → Heap → Prop) (s5 : Den kapiEdge) (go58 : (Int × Unit) → Heap → Prop) (s56 : (Int × Unit)) (h57 : Heap) : Prop :=
    (((decide (s56.1 < b3)) = true →
    (0 ≤ s56.1 ∧ s56.1 < (data1.len : Int)) ∧
    deref data1.a fun a63 =>
    (0 ≤ (w64 (s56.1 - 1)) ∧ (w64 (s56.1 - 1)) < (data1.len : Int)) ∧
    deref data1.a fun a64 =>
    ld ((.int .i64) : Kd) h57 (a63.add ((s56.1 : Int).toNat * 1)) fun t65 =>
    ld ((.int .i64) : Kd) h57 (a64.add (((w64 (s56.1 - 1)) : Int).toNat * 1)) fun t66 =>
    c_cmp_Less_int t65 t66 h57 fun r67 h68 =>
    slices_partialInsertionSortOrdered_int.j7 c_cmp_Less_int data1 a2 b3 Q go7 s5 go58 s56 ((!r67), ()) h68) ∧
    ((decide (s56.1 < b3)) = false →
    slices_partialInsertionSortOrdered_int.j7 c_cmp_Less_int data1 a2 b3 Q go7 s5 go58 s56 (false, ()) h57))
def slices_partialInsertionSortOrdered_int.l9 (c_cmp_Less_int : Int → Int → Heap → (Bool → Heap → Prop) → Prop) (data1 : Sl) (a2 : Int) (b3 : Int) (Q : Bool → Heap → Prop) (go7 : Den kapiEdge → Heap → Prop) (s5 : Den kapiEdge) (h6 : Heap) : Prop :=
    (((decide (s5.2.1 < 5)) = true →
    Loop (slices_partialInsertionSortOrdered_int.l8 c_cmp_Less_int data1 a2 b3 Q go7 s5) (s5.1, ()) h6) ∧
    ((decide (s5.2.1 < 5)) = false →
    Q false h6))
def slices_partialInsertionSortOrdered_int.M (c_cmp_Less_int : Int → Int → Heap → (Bool → Heap → Prop) → Prop) (data1 : Sl) (a2 : Int) (b3 : Int) (h4 : Heap) (Q : Bool → Heap → Prop) : Prop :=
    Loop (slices_partialInsertionSortOrdered_int.l9 c_cmp_Less_int data1 a2 b3 Q) ((w64 (a2 + 1)), 0, ()) h4
def slices_partialInsertionSortOrdered_int.mk : Mk := (.s .d (.s .d (.s (.s .d (.b (.l [.slot 7 (.int .i64), .slot 8 (.int .i64)] (.s (.s .d (.c .d .d)) (.j [.slot 7 (.int .i64)] (.b (.j [.slot 7 (.int .i64)] (.b (.l [.slot 7 (.int .i64)] (.j [] (.j [.slot 32 .bool] (.q [] [] [.p 0, .p 1, .p 2, .p 3, .p 4, .p 5, .p 6, .p 8, .p 9, .p 10, .p 11, .w 7 [7, 13, 14, 15], .w 12 [12, 13, 14, 15], .o 13, .p 14, .p 15]) (.c .d .d)) (.b .d)))) (.s (.s .d (.c (.s .d .d) .d)) (.s (.s .d (.c (.s .d .d) .d)) (.s (.q [] [] [.p 0, .p 1, .p 2, .p 3, .p 4, .p 5, .p 6, .p 7, .p 8, .p 10, .p 11, .p 12, .w 9 [9, 14, 15, 16, 17], .w 13 [13, 14, 15, 16, 17], .p 14, .o 15, .p 16, .o 17]) (.j [] (.s .d (.c (.s .d (.b (.l [.slot 9 (.int .i64)] (.s (.s .d (.c .d .d)) (.s (.b (.s (.s (.q [] [] [.p 0, .p 1, .p 2, .p 4, .p 5, .p 6, .p 7, .w 3 [3, 9, 10], .w 8 [8, 9, 10], .o 9, .p 10]) (.c .d .d)) (.q [] [] [.p 0, .p 1, .p 2, .p 3, .p 4, .p 5, .p 6, .p 7, .p 8, .p 10, .p 11, .p 12, .w 9 [9, 14, 15, 16, 17], .w 13 [13, 14, 15, 16, 17], .p 14, .o 15, .p 16, .o 17]))) .d))))) .d)) (.s .d (.c (.s .d (.b (.l [.slot 10 (.int .i64)] (.s (.s .d (.c .d .d)) (.s (.b (.s (.s (.q [] [] [.p 0, .p 1, .p 2, .p 4, .p 5, .p 6, .p 7, .w 3 [3, 9, 10], .w 8 [8, 9, 10], .o 9, .p 10]) (.c .d .d)) (.q [] [] [.p 0, .p 1, .p 2, .p 3, .p 4, .p 5, .p 6, .p 7, .p 8, .p 10, .p 11, .p 12, .w 9 [9, 14, 15, 16, 17], .w 13 [13, 14, 15, 16, 17], .p 14, .o 15, .p 16, .o 17]))) .d))))) .d)))))))) .d))))) (.s .d .d))))

def cmp_Less_int.M (c_cmp_isNaN_int : Int → Heap → (Bool → Heap → Prop) → Prop) (x1 : Int) (y2 : Int) (h3 : Heap) (Q : Bool → Heap → Prop) : Prop :=
    c_cmp_isNaN_int x1 h3 fun r4 h5 =>
    ((r4 = true →
    c_cmp_isNaN_int y2 h5 fun r6 h7 =>
    (((!r6) = true →
    Q true h7) ∧
    ((!r6) = false →
    Q (decide (x1 < y2)) h7))) ∧
    (r4 = false →
    Q (decide (x1 < y2)) h5))
def cmp_Less_int.mk : Mk := (.s .d (.s .d .d))

def slices_partitionEqualOrdered_int.j1 (Q : Int → Heap → Prop) (s14 : (Int × Unit)) (h15 : Heap) : Prop :=
    Q s14.1 h15
def slices_partitionEqualOrdered_int.j2 (data1 : Sl) (Q : Int → Heap → Prop) (go18 : Den kapiEdge → Heap → Prop) (s19 : (Int × Unit)) (s21 : (Int × Unit)) (h22 : Heap) : Prop :=
    (((decide (s21.1 < s19.1)) = true →
    slices_partitionEqualOrdered_int.j1 Q (s19.1, ()) h22) ∧
    ((decide (s21.1 < s19.1)) = false →
    (0 ≤ s21.1 ∧ s21.1 < (data1.len : Int)) ∧
    deref data1.a fun a23 =>
    (0 ≤ s19.1 ∧ s19.1 < (data1.len : Int)) ∧
    deref data1.a fun a24 =>
    ld ((.int .i64) : Kd) h22 (a23.add ((s21.1 : Int).toNat * 1)) fun t25 =>
    ld ((.int .i64) : Kd) h22 (a24.add ((s19.1 : Int).toNat * 1)) fun t26 =>
    (0 ≤ s19.1 ∧ s19.1 < (data1.len : Int)) ∧
    deref data1.a fun a27 =>
    st ((.int .i64) : Kd) h22 (a27.add ((s19.1 : Int).toNat * 1)) t25 fun h28 =>
    (0 ≤ s21.1 ∧ s21.1 < (data1.len : Int)) ∧
    deref data1.a fun a29 =>
    st ((.int .i64) : Kd) h28 (a29.add ((s21.1 : Int).toNat * 1)) t26 fun h30 =>
    go18 ((w64 (s19.1 + 1)), (w64 (s21.1 - 1)), ()) h30))
def slices_partitionEqualOrdered_int.j3 (go33 : (Int × Unit) → Heap → Prop) (s31 : (Int × Unit)) (s34 : Unit) (h35 : Heap) : Prop :=
    go33 ((w64 (s31.1 - 1)), ()) h35
def slices_partitionEqualOrdered_int.j4 (data1 : Sl) (Q : Int → Heap → Prop) (go18 : Den kapiEdge → Heap → Prop) (s19 : (Int × Unit)) (go33 : (Int × Unit) → Heap → Prop) (s31 : (Int × Unit)) (s36 : (Bool × Unit)) (h37 : Heap) : Prop :=
    ((s36.1 = true →
    slices_partitionEqualOrdered_int.j3 go33 s31 () h37) ∧
    (s36.1 = false →
    slices_partitionEqualOrdered_int.j2 data1 Q go18 s19 (s31.1, ()) h37))
def slices_partitionEqualOrdered_int.l5 (c_cmp_Less_int : Int → Int → Heap → (Bool → Heap → Prop) → Prop) (data1 : Sl) (a2 : Int) (Q : Int → Heap → Prop) (go18 : Den kapiEdge → Heap → Prop) (s19 : (Int × Unit)) (go33 : (Int × Unit) → Heap → Prop) (s31 : (Int × Unit)) (h32 : Heap) : Prop :=
    (((decide (s19.1 ≤ s31.1)) = true →
    (0 ≤ a2 ∧ a2 < (data1.len : Int)) ∧
    deref data1.a fun a38 =>
    (0 ≤ s31.1 ∧ s31.1 < (data1.len : Int)) ∧
    deref data1.a fun a39 =>
    ld ((.int .i64) : Kd) h32 (a38.add ((a2 : Int).toNat * 1)) fun t40 =>
    ld ((.int .i64) : Kd) h32 (a39.add ((s31.1 : Int).toNat * 1)) fun t41 =>
    c_cmp_Less_int t40 t41 h32 fun r42 h43 =>
    slices_partitionEqualOrdered_int.j4 data1 Q go18 s19 go33 s31 (r42, ()) h43) ∧
    ((decide (s19.1 ≤ s31.1)) = false →
    slices_partitionEqualOrdered_int.j4 data1 Q go18 s19 go33 s31 (false, ()) h32))
def slices_partitionEqualOrdered_int.j6 (c_cmp_Less_int : Int → Int → Heap → (Bool → Heap → Prop) → Prop) (data1 : Sl) (a2 : Int) (Q : Int → Heap → Prop) (go18 : Den kapiEdge → Heap → Prop) (s16 : Den kapiEdge) (s19 : (Int × Unit)) (h20 : Heap) : Prop :=
    Loop (slices_partitionEqualOrdered_int.l5 c_cmp_Less_int data1 a2 Q go18 s19) (s16.2.1, ()) h20
def slices_partitionEqualOrdered_int.j7 (go46 : (Int × Unit) → Heap → Prop) (s44 : (Int × Unit)) (s47 : Unit) (h48 : Heap) : Prop :=
    go46 ((w64 (s44.1 + 1)), ()) h48
def slices_partitionEqualOrdered_int.j8 (c_cmp_Less_int : Int → Int → Heap → (Bool → Heap → Prop) → Prop) (data1 : Sl) (a2 : Int) (Q : Int → Heap → Prop) (go18 : Den kapiEdge → Heap → Prop) (s16 : Den kapiEdge) (go46 : (Int × Unit) → Heap → Prop) (s44 : (Int × Unit)) (s49 : (Bool × Unit)) (h50 : Heap) : Prop :=
    ((s49.1 = true →
    slices_partitionEqualOrdered_int.j7 go46 s44 () h50) ∧
    (s49.1 = false →
    slices_partitionEqualOrdered_int.j6 c_cmp_Less_int data1 a2 Q go18 s16 (s44.1, ()) h50))
def slices_partitionEqualOrdered_int.l9 (c_cmp_Less_int : Int → Int → Heap → (Bool → Heap → Prop) → Prop) (data1 : Sl) (a2 : Int) (Q : Int → Heap → Prop) (go18 : Den kapiEdge → Heap → Prop) (s16 : Den kapiEdge) (go46 : (Int × Unit) → Heap → Prop) (s44 : (Int × Unit)) (h45 : Heap) : Prop :=
    (((decide (s44.1 ≤ s16.2.1)) = true →
    (0 ≤ a2 ∧ a2 < (data1.len : Int)) ∧
    deref data1.a fun a51 =>
    (0 ≤ s44.1 ∧ s44.1 < (data1.len : Int)) ∧
    deref data1.a fun a52 =>
    ld ((.int .i64) : Kd) h45 (a51.add ((a2 : Int).toNat * 1)) fun t53 =>
    ld ((.int .i64) : Kd) h45 (a52.add ((s44.1 : Int).toNat * 1)) fun t54 =>
    c_cmp_Less_int t53 t54 h45 fun r55 h56 =>
    slices_partitionEqualOrdered_int.j8 c_cmp_Less_int data1 a2 Q go18 s16 go46 s44 ((!r55), ()) h56) ∧
    ((decide (s44.1 ≤ s16.2.1)) = false →
    slices_partitionEqualOrdered_int.j8 c_cmp_Less_int data1 a2 Q go18 s16 go46 s44 (false, ()) h45))
def slices_partitionEqualOrdered_int.l10 (c_cmp_Less_int : Int → Int → Heap → (Bool → Heap → Prop) → Prop) (data1 : Sl) (a2 : Int) (Q : Int → Heap → Prop) (go18 : Den kapiEdge → Heap → Prop) (s16 : Den kapiEdge) (h17 : Heap) : Prop :=
    Loop (slices_partitionEqualOrdered_int.l9 c_cmp_Less_int data1 a2 Q go18 s16) (s16.1, ()) h17
def slices_partitionEqualOrdered_int.M (c_cmp_Less_int : Int → Int → Heap → (Bool → Heap → Prop) → Prop) (data1 : Sl) (a2 : Int) (b3 : Int) (pivot4 : Int) (h5 : Heap) (Q : Int → Heap → Prop) : Prop :=
    (0 ≤ pivot4 ∧ pivot4 < (data1.len : Int)) ∧
    deref data1.a fun a6 =>
    (0 ≤ a2 ∧ a2 < (data1.len : Int)) ∧
    deref data1.a fun a7 =>
    ld ((.int .i64) : Kd) h5 (a6.add ((pivot4 : Int).toNat * 1)) fun t8 =>
    ld ((.int .i64) : Kd) h5 (a7.add ((a2 : Int).toNat * 1)) fun t9 =>
    (0 ≤ a2 ∧ a2 < (data1.len : Int)) ∧
    deref data1.a fun a10 =>
    st ((.int .i64) : Kd) h5 (a10.add ((a2 : Int).toNat * 1)) t8 fun h11 =>
    (0 ≤ pivot4 ∧ pivot4 < (data1.len : Int)) ∧
    deref data1.a fun a12 =>
    st ((.int .i64) : Kd) h11 (a12.add ((pivot4 : Int).toNat * 1)) t9 fun h13 =>
    Loop (slices_partitionEqualOrdered_int.l10 c_cmp_Less_int data1 a2 Q) ((w64 (a2 + 1)), (w64 (b3 - 1)), ()) h13
def slices_partitionEqualOrdered_int.mk : Mk := (.s .d (.s (.q [] [] [.p 0, .p 1, .p 2, .p 3, .p 4, .p 5, .p 6, .p 8, .p 9, .p 10, .w 7 [7, 12, 13, 14, 15], .w 11 [11, 12, 13, 14, 15], .p 12, .o 13, .p 14, .o 15]) (.s .d (.j [.slot 9 (.int .i64)] (.b (.l [.slot 9 (.int .i64), .slot 10 (.int .i64)] (.b (.j [.slot 9 (.int .i64)] (.b (.l [.slot 9 (.int .i64)] (.j [] (.j [.slot 43 .bool] (.q [] [] [.p 0, .p 1, .p 2, .p 3, .p 4, .p 5, .p 6, .p 8, .p 9, .p 10, .w 7 [7, 12, 13, 14], .w 11 [11, 12, 13, 14], .o 12, .p 13, .p 14]) (.c .d .d)) (.b .d)))) (.j [.slot 10 (.int .i64)] (.b (.l [.slot 10 (.int .i64)] (.j [] (.j [.slot 59 .bool] (.q [] [] [.p 0, .p 1, .p 2, .p 3, .p 4, .p 5, .p 6, .p 8, .p 9, .p 10, .w 7 [7, 12, 13], .w 11 [11, 12, 13], .o 12, .p 13]) (.c .d .d)) (.b .d)))) (.s (.s .d (.c .d .d)) (.s (.q [] [] [.p 0, .p 1, .p 2, .p 3, .p 4, .p 5, .p 6, .p 8, .p 9, .p 10, .w 7 [7, 12, 13, 14, 15], .w 11 [11, 12, 13, 14, 15], .p 12, .o 13, .p 14, .o 15]) (.s .d .d)))))))) (.s .d .d)))))

def slices_partitionOrdered_int.j1 (data1 : Sl) (a2 : Int) (Q : (Int × (Bool × Unit)) → Heap → Prop) (s34 : (Int × Unit)) (h35 : Heap) : Prop :=
    (0 ≤ a2 ∧ a2 < (data1.len : Int)) ∧
    deref data1.a fun a36 =>
    (0 ≤ s34.1 ∧ s34.1 < (data1.len : Int)) ∧
    deref data1.a fun a37 =>
    ld ((.int .i64) : Kd) h35 (a36.add ((a2 : Int).toNat * 1)) fun t38 =>
    ld ((.int .i64) : Kd) h35 (a37.add ((s34.1 : Int).toNat * 1)) fun t39 =>
    (0 ≤ s34.1 ∧ s34.1 < (data1.len : Int)) ∧
    deref data1.a fun a40 =>
    st ((.int .i64) : Kd) h35 (a40.add ((s34.1 : Int).toNat * 1)) t38 fun h41 =>
    (0 ≤ a2 ∧ a2 < (data1.len : Int)) ∧
    deref data1.a fun a42 =>
    st ((.int .i64) : Kd) h41 (a42.add ((a2 : Int).toNat * 1)) t39 fun h43 =>
    Q (s34.1, false, ()) h43
def slices_partitionOrdered_int.j2 (data1 : Sl) (a2 : Int) (Q : (Int × (Bool × Unit)) → Heap → Prop) (go46 : Den kapiEdge → Heap → Prop) (s47 : (Int × Unit)) (s49 : (Int × Unit)) (h50 : Heap) : Prop :=
    (((decide (s49.1 < s47.1)) = true →
    slices_partitionOrdered_int.j1 data1 a2 Q (s49.1, ()) h50) ∧
    ((decide (s49.1 < s47.1)) = false →
    (0 ≤ s49.1 ∧ s49.1 < (data1.len : Int)) ∧
    deref data1.a fun a51 =>
    (0 ≤ s47.1 ∧ s47.1 < (data1.len : Int)) ∧
    deref data1.a fun a52 =>
    ld ((.int .i64) : Kd) h50 (a51.add ((s49.1 : Int).toNat * 1)) fun t53 =>
    ld ((.int .i64) : Kd) h50 (a52.add ((s47.1 : Int).toNat * 1)) fun t54 =>
    (0 ≤ s47.1 ∧ s47.1 < (data1.len : Int)) ∧
    deref data1.a fun a55 =>
    st ((.int .i64) : Kd) h50 (a55.add ((s47.1 : Int).toNat * 1)) t53 fun h56 =>
    (0 ≤ s49.1 ∧ s49.1 < (data1.len : Int)) ∧
    deref data1.a fun a57 =>
    st ((.int .i64) : Kd) h56 (a57.add ((s49.1 : Int).toNat * 1)) t54 fun h58 =>
    go46 ((w64 (s47.1 + 1)), (w64 (s49.1 - 1)), ()) h58))
def slices_partitionOrdered_int.j3 (go61 : (Int × Unit) → Heap → Prop) (s59 : (Int × Unit)) (s62 : Unit) (h63 : Heap) : Prop :=
    go61 ((w64 (s59.1 - 1)), ()) h63
def slices_partitionOrdered_int.j4 (data1 : Sl) (a2 : Int) (Q : (Int × (Bool × Unit)) → Heap → Prop) (go46 : Den kapiEdge → Heap → Prop) (s47 : (Int × Unit)) (go61 : (Int × Unit) → Heap → Prop) (s59 : (Int × Unit)) (s64 : (Bool × Unit)) (h65 : Heap) : Prop :=
    ((s64.1 = true →
    slices_partitionOrdered_int.j3 go61 s59 () h65) ∧
    (s64.1 = false →
    slices_partitionOrdered_int.j2 data1 a2 Q go46 s47 (s59.1, ()) h65))
def slices_partitionOrdered_int.l5 (c_cmp_Less_int : Int → Int → Heap → (Bool → Heap → Prop) → Prop) (data1 : Sl) (a2 : Int) (Q : (Int × (Bool × Unit)) → Heap → Prop) (go46 : Den kapiEdge → Heap → Prop) (s47 : (Int × Unit)) (go61 : (Int × Unit) → Heap → Prop) (s59 : (Int × Unit)) (h60 : Heap) : Prop :=
    (((decide (s47.1 ≤ s59.1)) = true →
    (0 ≤ s59.1 ∧ s59.1 < (data1.len : Int)) ∧
    deref data1.a fun a66 =>
    (0 ≤ a2 ∧ a2 < (data1.len : Int)) ∧
    deref data1.a fun a67 =>
    ld ((.int .i64) : Kd) h60 (a66.add ((s59.1 : Int).toNat * 1)) fun t68 =>
    ld ((.int .i64) : Kd) h60 (a67.add ((a2 : Int).toNat * 1)) fun t69 =>
    c_cmp_Less_int t68 t69 h60 fun r70 h71 =>
    slices_partitionOrdered_int.j4 data1 a2 Q go46 s47 go61 s59 ((!r70), ()) h71) ∧
    ((decide (s47.1 ≤ s59.1)) = false →
    slices_partitionOrdered_int.j4 data1 a2 Q go46 s47 go61 s59 (false, ()) h60))
def slices_partitionOrdered_int.j6 (c_cmp_Less_int : Int → Int → Heap → (Bool → Heap → Prop) → Prop) (data1 : Sl) (a2 : Int) (Q : (Int × (Bool × Unit)) → Heap → Prop) (go46 : Den kapiEdge → Heap → Prop) (s44 : Den kapiEdge) (s47 : (Int × Unit)) (h48 : Heap) : Prop :=
    Loop (slices_partitionOrdered_int.l5 c_cmp_Less_int data1 a2 Q go46 s47) (s44.2.1, ()) h48
def slices_partitionOrdered_int.j7 (go74 : (Int × Unit) → Heap → Prop) (s72 : (Int × Unit)) (s75 : Unit) (h76 : Heap) : Prop :=
    go74 ((w64 (s72.1 + 1)), ()) h76
def slices_partitionOrdered_int.j8 (c_cmp_Less_int : Int → Int → Heap → (Bool → Heap → Prop) → Prop) (data1 : Sl) (a2 : Int) (Q : (Int × (Bool × Unit)) → Heap → Prop) (go46 : Den kapiEdge → Heap → Prop) (s44 : Den kapiEdge) (go74 : (Int × Unit) → Heap → Prop) (s72 : (Int × Unit)) (s77 : (Bool × Unit)) (h78 : Heap) : Prop :=
    ((s77.1 = true →
    slices_partitionOrdered_int.j7 go74 s72 () h78) ∧
    (s77.1 = false →
    slices_partitionOrdered_int.j6 c_cmp_Less_int data1 a2 Q go46 s44 (s72.1, ()) h78))
def slices_partitionOrdered_int.l9 (c_cmp_Less_int : Int → Int → Heap → (Bool → Heap → Prop) → Prop) (data1 : Sl) (a2 : Int) (Q : (Int × (Bool × Unit)) → Heap → Prop) (go46 : Den kapiEdge → Heap → Prop) (s44 : Den kapiEdge) (go74 : (Int × Unit) → Heap → Prop) (s72 : (Int × Unit)) (h73 : Heap) : Prop :=
    (((decide (s72.1 ≤ s44.2.1)) = true →
    (0 ≤ s72.1 ∧ s72.1 < (data1.len : Int)) ∧
    deref data1.a fun a79 =>
    (0 ≤ a2 ∧ a2 < (data1.len : Int)) ∧
    deref data1.a fun a80 =>
    ld ((.int .i64) : Kd) h73 (a79.add ((s72.1 : Int).toNat * 1)) fun t81 =>
    ld ((.int .i64) : Kd) h73 (a80.add ((a2 : Int).toNat * 1)) fun t82 =>
    c_cmp_Less_int t81 t82 h73 fun r83 h84 =>
    slices_partitionOrdered_int.j8 c_cmp_Less_int data1 a2 Q go46 s44 go74 s72 (r83, ()) h84) ∧
    ((decide (s72.1 ≤ s44.2.1)) = false →
    slices_partitionOrdered_int.j8 c_cmp_Less_int data1 a2 Q go46 s44 go74 s72 (false, ()) h73))
def slices_partitionOrdered_int.l10 (c_cmp_Less_int : Int → Int → Heap → (Bool → Heap → Prop) → Prop) (data1 : Sl) (a2 : Int) (Q : (Int × (Bool × Unit)) → Heap → Prop) (go46 : Den kapiEdge → Heap → Prop) (s44 : Den kapiEdge) (h45 : Heap) : Prop :=
    Loop (slices_partitionOrdered_int.l9 c_cmp_Less_int data1 a2 Q go46 s44) (s44.1, ()) h45
def slices_partitionOrdered_int.j11 (c_cmp_Less_int : Int → Int → Heap → (Bool → Heap → Prop) → Prop) (data1 : Sl) (a2 : Int) (Q : (Int × (Bool × Unit)) → Heap → Prop) (s14 : (Int × Unit)) (s16 : (Int × Unit)) (h17 : Heap) : Prop :=
    (((decide (s16.1 < s14.1)) = true →
    (0 ≤ a2 ∧ a2 < (data1.len : Int)) ∧
    deref data1.a fun a18 =>
    (0 ≤ s16.1 ∧ s16.1 < (data1.len : Int)) ∧
    deref data1.a fun a19 =>
    ld ((.int .i64) : Kd) h17 (a18.add ((a2 : Int).toNat * 1)) fun t20 =>
    ld ((.int .i64) : Kd) h17 (a19.add ((s16.1 : Int).toNat * 1)) fun t21 =>
    (0 ≤ s16.1 ∧ s16.1 < (data1.len : Int)) ∧
    deref data1.a fun a22 =>
    st ((.int .i64) : Kd) h17 (a22.add ((s16.1 : Int).toNat * 1)) t20 fun h23 =>
    (0 ≤ a2 ∧ a2 < (data1.len : Int)) ∧
    deref data1.a fun a24 =>
    st ((.int .i64) : Kd) h23 (a24.add ((a2 : Int).toNat * 1)) t21 fun h25 =>
    Q (s16.1, true, ()) h25) ∧
    ((decide (s16.1 < s14.1)) = false →
    (0 ≤ s16.1 ∧ s16.1 < (data1.len : Int)) ∧
    deref data1.a fun a26 =>
    (0 ≤ s14.1 ∧ s14.1 < (data1.len : Int)) ∧
    deref data1.a fun a27 =>
    ld ((.int .i64) : Kd) h17 (a26.add ((s16.1 : Int).toNat * 1)) fun t28 =>
    ld ((.int .i64) : Kd) h17 (a27.add ((s14.1 : Int).toNat * 1)) fun t29 =>
    (0 ≤ s14.1 ∧ s14.1 < (data1.len : Int)) ∧
    deref data1.a fun a30 =>
    st ((.int .i64) : Kd) h17 (a30.add ((s14.1 : Int).toNat * 1)) t28 fun h31 =>
    (0 ≤ s16.1 ∧ s16.1 < (data1.len : Int)) ∧
    deref data1.a fun a32 =>
    st ((.int .i64) : Kd) h31 (a32.add ((s16.1 : Int).toNat * 1)) t29 fun h33 =>
    Loop (slices_partitionOrdered_int.l10 c_cmp_Less_int data1 a2 Q) ((w64 (s14.1 + 1)), (w64 (s16.1 - 1)), ()) h33))
def slices_partitionOrdered_int.j12 (go87 : (Int × Unit) → Heap → Prop) (s85 : (Int × Unit)) (s88 : Unit) (h89 : Heap) : Prop :=
    go87 ((w64 (s85.1 - 1)), ()) h89
def slices_partitionOrdered_int.j13 (c_cmp_Less_int : Int → Int → Heap → (Bool → Heap → Prop) → Prop) (data1 : Sl) (a2 : Int) (Q : (Int × (Bool × Unit)) → Heap → Prop) (s14 : (Int × Unit)) (go87 : (Int × Unit) → Heap → Prop) (s85 : (Int × Unit)) (s90 : (Bool × Unit)) (h91 : Heap) : Prop :=
    ((s90.1 = true →
    slices_partitionOrdered_int.j12 go87 s85 () h91) ∧
    (s90.1 = false →
    slices_partitionOrdered_int.j11 c_cmp_Less_int data1 a2 Q s14 (s85.1, ()) h91))
def slices_partitionOrdered_int.l14 (c_cmp_Less_int : Int → Int → Heap → (Bool → Heap → Prop) → Prop) (data1 : Sl) (a2 : Int) (Q : (Int × (Bool × Unit)) → Heap → Prop) (s14 : (Int × Unit)) (go87 : (Int × Unit) → Heap → Prop) (s85 : (Int × Unit)) (h86 : Heap) : Prop :=
    (((decide (s14.1 ≤ s85.1)) = true →
    (0 ≤ s85.1 ∧ s85.1 < (data1.len : Int)) ∧
    deref data1.a fun a92 =>
    (0 ≤ a2 ∧ a2 < (data1.len : Int)) ∧
    deref data1.a fun a93 =>
    ld ((.int .i64) : Kd) h86 (a92.add ((s85.1 : Int).toNat * 1)) fun t94 =>
    ld ((.int .i64) : Kd) h86 (a93.add ((a2 : Int).toNat * 1)) fun t95 =>
    c_cmp_Less_int t94 t95 h86 fun r96 h97 =>
    slices_partitionOrdered_int.j13 c_cmp_Less_int data1 a2 Q s14 go87 s85 ((!r96), ()) h97) ∧
    ((decide (s14.1 ≤ s85.1)) = false →
    slices_partitionOrdered_int.j13 c_cmp_Less_int data1 a2 Q s14 go87 s85 (false, ()) h86))
def slices_partitionOrdered_int.j15 (c_cmp_Less_int : Int → Int → Heap → (Bool → Heap → Prop) → Prop) (data1 : Sl) (a2 : Int) (b3 : Int) (Q : (Int × (Bool × Unit)) → Heap → Prop) (s14 : (Int × Unit)) (h15 : Heap) : Prop :=
    Loop (slices_partitionOrdered_int.l14 c_cmp_Less_int data1 a2 Q s14) ((w64 (b3 - 1)), ()) h15
def slices_partitionOrdered_int.j16 (go100 : (Int × Unit) → Heap → Prop) (s98 : (Int × Unit)) (s101 : Unit) (h102 : Heap) : Prop :=
    go100 ((w64 (s98.1 + 1)), ()) h102
def slices_partitionOrdered_int.j17 (c_cmp_Less_int : Int → Int → Heap → (Bool → Heap → Prop) → Prop) (data1 : Sl) (a2 : Int) (b3 : Int) (Q : (Int × (Bool × Unit)) → Heap → Prop) (go100 : (Int × Unit) → Heap → Prop) (s98 : (Int × Unit)) (s103 : (Bool × Unit)) (h104 : Heap) : Prop :=
    ((s103.1 = true →
    slices_partitionOrdered_int.j16 go100 s98 () h104) ∧
    (s103.1 = false →
    slices_partitionOrdered_int.j15 c_cmp_Less_int data1 a2 b3 Q (s98.1, ()) h104))
def slices_partitionOrdered_int.l18 (c_cmp_Less_int : Int → Int → Heap → (Bool → Heap → Prop) → Prop) (data1 : Sl) (a2 : Int) (b3 : Int) (Q : (Int × (Bool × Unit)) → Heap → Prop) (go100 : (Int × Unit) → Heap → Prop) (s98 : (Int × Unit)) (h99 : Heap) : Prop :=
    (((decide (s98.1 ≤ (w64 (b3 - 1)))) = true →
    (0 ≤ s98.1 ∧ s98.1 < (data1.len : Int)) ∧
    deref data1.a fun a105 =>
    (0 ≤ a2 ∧ a2 < (data1.len : Int)) ∧
    deref data1.a fun a106 =>
    ld ((.int .i64) : Kd) h99 (a105.add ((s98.1 : Int).toNat * 1)) fun t107 =>
    ld ((.int .i64) : Kd) h99 (a106.add ((a2 : Int).toNat * 1)) fun t108 =>
    c_cmp_Less_int t107 t108 h99 fun r109 h110 =>
    slices_partitionOrdered_int.j17 c_cmp_Less_int data1 a2 b3 Q go100 s98 (r109, ()) h110) ∧
    ((decide (s98.1 ≤ (w64 (b3 - 1)))) = false →
    slices_partitionOrdered_int.j17 c_cmp_Less_int data1 a2 b3 Q go100 s98 (false, ()) h99))
def slices_partitionOrdered_int.M (c_cmp_Less_int : Int → Int → Heap → (Bool → Heap → Prop) → Prop) (data1 : Sl) (a2 : Int) (b3 : Int) (pivot4 : Int) (h5 : Heap) (Q : (Int × (Bool × Unit)) → Heap → Prop) : Prop :=
    (0 ≤ pivot4 ∧ pivot4 < (data1.len : Int)) ∧
    deref data1.a fun a6 =>
    (0 ≤ a2 ∧ a2 < (data1.len : Int)) ∧
    deref data1.a fun a7 =>
    ld ((.int .i64) : Kd) h5 (a6.add ((pivot4 : Int).toNat * 1)) fun t8 =>
    ld ((.int .i64) : Kd) h5 (a7.add ((a2 : Int).toNat * 1)) fun t9 =>
    (0 ≤ a2 ∧ a2 < (data1.len : Int)) ∧
    deref data1.a fun a10 =>
    st ((.int .i64) : Kd) h5 (a10.add ((a2 : Int).toNat * 1)) t8 fun h11 =>
    (0 ≤ pivot4 ∧ pivot4 < (data1.len : Int)) ∧
    deref data1.a fun a12 =>
    st ((.int .i64) : Kd) h11 (a12.add ((pivot4 : Int).toNat * 1)) t9 fun h13 =>
    Loop (slices_partitionOrdered_int.l18 c_cmp_Less_int data1 a2 b3 Q) ((w64 (a2 + 1)), ()) h13
def slices_partitionOrdered_int.mk : Mk := (.s .d (.s (.q [] [] [.p 0, .p 1, .p 2, .p 3, .p 4, .p 5, .p 6, .p 8, .p 9, .p 10, .w 7 [7, 12, 13, 14, 15], .w 11 [11, 12, 13, 14, 15], .p 12, .o 13, .p 14, .o 15]) (.s .d (.j [.slot 10 (.int .i64)] (.b (.l [.slot 10 (.int .i64)] (.j [] (.j [.slot 43 .bool] (.q [] [] [.p 0, .p 1, .p 2, .p 3, .p 4, .p 5, .p 6, .p 8, .p 9, .p 10, .w 7 [7, 12, 13], .w 11 [11, 12, 13], .o 12, .p 13]) (.c .d .d)) (.b .d)))) (.j [.slot 11 (.int .i64)] (.b (.l [.slot 11 (.int .i64)] (.j [] (.j [.slot 60 .bool] (.q [] [] [.p 0, .p 1, .p 2, .p 3, .p 4, .p 5, .p 6, .p 8, .p 9, .p 10, .w 7 [7, 12, 13, 14], .w 11 [11, 12, 13, 14], .o 12, .p 13, .p 14]) (.c .d .d)) (.b .d)))) (.s (.s .d (.c (.s (.q [] [] [.p 0, .p 1, .p 2, .p 3, .p 4, .p 5, .p 6, .p 8, .p 9, .p 10, .w 7 [7, 12, 13, 14, 15], .w 11 [11, 12, 13, 14, 15], .p 12, .o 13, .p 14, .o 15]) (.s .d .d)) .d)) (.s (.q [] [] [.p 0, .p 1, .p 2, .p 3, .p 4, .p 5, .p 6, .p 8, .p 9, .p 10, .w 7 [7, 12, 13, 14, 15], .w 11 [11, 12, 13, 14, 15], .p 12, .o 13, .p 14, .o 15]) (.s .d (.s .d (.j [.slot 11 (.int .i64)] (.b (.l [.slot 10 (.int .i64), .slot 11 (.int .i64)] (.b (.j [.slot 10 (.int .i64)] (.b (.l [.slot 10 (.int .i64)] (.j [] (.j [.slot 112 .bool] (.q [] [] [.p 0, .p 1, .p 2, .p 3, .p 4, .p 5, .p 6, .p 8, .p 9, .p 10, .w 7 [7, 12, 13], .w 11 [11, 12, 13], .o 12, .p 13]) (.c .d .d)) (.b .d)))) (.j [.slot 11 (.int .i64)] (.b (.l [.slot 11 (.int .i64)] (.j [] (.j [.slot 129 .bool] (.q [] [] [.p 0, .p 1, .p 2, .p 3, .p 4, .p 5, .p 6, .p 8, .p 9, .p 10, .w 7 [7, 12, 13, 14], .w 11 [11, 12, 13, 14], .o 12, .p 13, .p 14]) (.c .d .d)) (.b .d)))) (.s (.s .d (.c .d .d)) (.s (.q [] [] [.p 0, .p 1, .p 2, .p 3, .p 4, .p 5, .p 6, .p 8, .p 9, .p 10, .w 7 [7, 12, 13, 14, 15], .w 11 [11, 12, 13, 14, 15], .p 12, .o 13, .p 14, .o 15]) (.s .d .d)))))))) (.s (.q [] [] [.p 0, .p 1, .p 2, .p 3, .p 4, .p 5, .p 6, .p 8, .p 9, .p 10, .w 7 [7, 12, 13, 14, 15], .w 11 [11, 12, 13, 14, 15], .p 12, .o 13, .p 14, .o 15]) (.s .d .d))))))))))))

def math_bits_Len64.j1 (Q : Int → Heap → Prop) (s7 : (Int × (Int × Unit))) (h8 : Heap) : Prop :=
    (0 ≤ (IntKind.wrap .u8 s7.1) ∧ (IntKind.wrap .u8 s7.1) < (256 : Int)) ∧
    ∀ b9 : Int,
    Q (w64 (s7.2.1 + (w64 b9))) h8
def math_bits_Len64.j2 (Q : Int → Heap → Prop) (s5 : (Int × (Int × Unit))) (h6 : Heap) : Prop :=
    (((decide ((256 : Int) ≤ s5.1)) = true →
    0 ≤ (8 : Int) ∧
    math_bits_Len64.j1 Q ((Int.fdiv s5.1 (2 ^ (min (8 : Int).toNat (IntKind.bits .u64)))), (w64 (s5.2.1 + 8)), ()) h6) ∧
    ((decide ((256 : Int) ≤ s5.1)) = false →
    math_bits_Len64.j1 Q (s5.1, s5.2.1, ()) h6))
def math_bits_Len64.j3 (Q : Int → Heap → Prop) (s3 : (Int × (Int × Unit))) (h4 : Heap) : Prop :=
    (((decide ((65536 : Int) ≤ s3.1)) = true →
    0 ≤ (16 : Int) ∧
    math_bits_Len64.j2 Q ((Int.fdiv s3.1 (2 ^ (min (16 : Int).toNat (IntKind.bits .u64)))), (w64 (s3.2.1 + 16)), ()) h4) ∧
    ((decide ((65536 : Int) ≤ s3.1)) = false →
    math_bits_Len64.j2 Q (s3.1, s3.2.1, ()) h4))
def math_bits_Len64.M  (x1 : Int) (h2 : Heap) (Q : Int → Heap → Prop) : Prop :=
    (((decide ((4294967296 : Int) ≤ x1)) = true →
    0 ≤ (32 : Int) ∧
    math_bits_Len64.j3 Q ((Int.fdiv x1 (2 ^ (min (32 : Int).toNat (IntKind.bits .u64)))), 32, ()) h2) ∧
    ((decide ((4294967296 : Int) ≤ x1)) = false →
    math_bits_Len64.j3 Q (x1, 0, ()) h2))
def math_bits_Len64.mk : Mk := (.s .d (.j [.slot 0 (.int .u64), .slot 2 (.int .i64)] (.s .d (.c (.s .d .d) .d)) (.j [.slot 0 (.int .u64), .slot 2 (.int .i64)] (.s .d (.c (.s .d .d) .d)) (.j [.slot 0 (.int .u64), .slot 2 (.int .i64)] (.s .d (.c (.s .d .d) .d)) (.s .d .d)))))

def cells_ledger_has.M  (l1 : Option Addr) (addr2 : Int) (h3 : Heap) (Q : Bool → Heap → Prop) : Prop :=
    (((decide ((0 : Int) ≤ addr2)) = true →
    deref l1 fun a4 =>
    ld ((.int .i64) : Kd) h3 (a4.add 1) fun t5 =>
    Q (decide (addr2 < t5)) h3) ∧
    ((decide ((0 : Int) ≤ addr2)) = false →
    Q false h3))
def cells_ledger_has.mk : Mk := (.s .d (.s .d .d))

def cmp_isNaN_int64.M  (x1 : Int) (h2 : Heap) (Q : Bool → Heap → Prop) : Prop :=
    Q (decide (x1 ≠ x1)) h2
def cmp_isNaN_int64.mk : Mk := (.s .d (.s .d .d))

def slices_Reverse_int64_int64.l1 (s1 : Sl) (Q : Unit → Heap → Prop) (go5 : Den kapiEdge → Heap → Prop) (s3 : Den kapiEdge) (h4 : Heap) : Prop :=
    (((decide (s3.1 < s3.2.1)) = true →
    (0 ≤ s3.2.1 ∧ s3.2.1 < (s1.len : Int)) ∧
    deref s1.a fun a6 =>
    (0 ≤ s3.1 ∧ s3.1 < (s1.len : Int)) ∧
    deref s1.a fun a7 =>
    ld (.sl : Kd) h4 (a6.add ((s3.2.1 : Int).toNat * 1)) fun t8 =>
    ld (.sl : Kd) h4 (a7.add ((s3.1 : Int).toNat * 1)) fun t9 =>
    (0 ≤ s3.1 ∧ s3.1 < (s1.len : Int)) ∧
    deref s1.a fun a10 =>
    st (.sl : Kd) h4 (a10.add ((s3.1 : Int).toNat * 1)) t8 fun h11 =>
    (0 ≤ s3.2.1 ∧ s3.2.1 < (s1.len : Int)) ∧
    deref s1.a fun a12 =>
    st (.sl : Kd) h11 (a12.add ((s3.2.1 : Int).toNat * 1)) t9 fun h13 =>
    go5 ((w64 (s3.1 + 1)), (w64 (s3.2.1 - 1)), ()) h13) ∧
    ((decide (s3.1 < s3.2.1)) = false →
    Q () h4))
def slices_Reverse_int64_int64.M  (s1 : Sl) (h2 : Heap) (Q : Unit → Heap → Prop) : Prop :=
    Loop (slices_Reverse_int64_int64.l1 s1 Q) (0, (w64 ((s1.len : Int) - 1)), ()) h2
def slices_Reverse_int64_int64.mk : Mk := (.s .d (.b (.l [.slot 2 (.int .i64), .slot 3 (.int .i64)] (.s (.s .d (.c .d .d)) (.s (.b (.q [] [] [.p 0, .p 1, .p 2, .p 3, .p 4, .p 5, .p 6, .p 8, .p 9, .p 10, .w 7 [7, 12, 13, 14, 15], .w 11 [11, 12, 13, 14, 15], .p 12, .o 13, .p 14, .o 15])) .d)))))

def slices_siftDownOrdered_int.j1 (c_cmp_Less_int : Int → Int → Heap → (Bool → Heap → Prop) → Prop) (data1 : Sl) (first4 : Int) (Q : Unit → Heap → Prop) (go8 : (Int × Unit) → Heap → Prop) (s6 : (Int × Unit)) (s9 : (Int × Unit)) (h10 : Heap) : Prop :=
    (0 ≤ (w64 (first4 + s6.1)) ∧ (w64 (first4 + s6.1)) < (data1.len : Int)) ∧
    deref data1.a fun a11 =>
    (0 ≤ (w64 (first4 + s9.1)) ∧ (w64 (first4 + s9.1)) < (data1.len : Int)) ∧
    deref data1.a fun a12 =>
    ld ((.int .i64) : Kd) h10 (a11.add (((w64 (first4 + s6.1)) : Int).toNat * 1)) fun t13 =>
    ld ((.int .i64) : Kd) h10 (a12.add (((w64 (first4 + s9.1)) : Int).toNat * 1)) fun t14 =>
    c_cmp_Less_int t13 t14 h10 fun r15 h16 =>
    (((!r15) = true →
    Q () h16) ∧
    ((!r15) = false →
    (0 ≤ (w64 (first4 + s9.1)) ∧ (w64 (first4 + s9.1)) < (data1.len : Int)) ∧
    deref data1.a fun a17 =>
    (0 ≤ (w64 (first4 + s6.1)) ∧ (w64 (first4 + s6.1)) < (data1.len : Int)) ∧
    deref data1.a fun a18 =>
    ld ((.int .i64) : Kd) h16 (a17.add (((w64 (first4 + s9.1)) : Int).toNat * 1)) fun t19 =>
    ld ((.int .i64) : Kd) h16 (a18.add (((w64 (first4 + s6.1)) : Int).toNat * 1)) fun t20 =>
    (0 ≤ (w64 (first4 + s6.1)) ∧ (w64 (first4 + s6.1)) < (data1.len : Int)) ∧
    deref data1.a fun a21 =>
    st ((.int .i64) : Kd) h16 (a21.add (((w64 (first4 + s6.1)) : Int).toNat * 1)) t19 fun h22 =>
    (0 ≤ (w64 (first4 + s9.1)) ∧ (w64 (first4 + s9.1)) < (data1.len : Int)) ∧
    deref data1.a fun a23 =>
    st ((.int .i64) : Kd) h22 (a23.add (((w64 (first4 + s9.1)) : Int).toNat * 1)) t20 fun h24 =>
    go8 (s9.1, ()) h24))
def slices_siftDownOrdered_int.j2 (c_cmp_Less_int : Int → Int → Heap → (Bool → Heap → Prop) → Prop) (data1 : Sl) (first4 : Int) (Q : Unit → Heap → Prop) (go8 : (Int × Unit) → Heap → Prop) (s6 : (Int × Unit)) (s25 : (Bool × Unit)) (h26 : Heap) : Prop :=
    ((s25.1 = true →
    slices_siftDownOrdered_int.j1 c_cmp_Less_int data1 first4 Q go8 s6 ((w64 ((w64 ((w64 (2 * s6.1)) + 1)) + 1)), ()) h26) ∧
    (s25.1 = false →
    slices_siftDownOrdered_int.j1 c_cmp_Less_int data1 first4 Q go8 s6 ((w64 ((w64 (2 * s6.1)) + 1)), ()) h26))
def slices_siftDownOrdered_int.l3 (c_cmp_Less_int : Int → Int → Heap → (Bool → Heap → Prop) → Prop) (data1 : Sl) (hi3 : Int) (first4 : Int) (Q : Unit → Heap → Prop) (go8 : (Int × Unit) → Heap → Prop) (s6 : (Int × Unit)) (h7 : Heap) : Prop :=
    (((decide (hi3 ≤ (w64 ((w64 (2 * s6.1)) + 1)))) = true →
    Q () h7) ∧
    ((decide (hi3 ≤ (w64 ((w64 (2 * s6.1)) + 1)))) = false →
    (((decide ((w64 ((w64 ((w64 (2 * s6.1)) + 1)) + 1)) < hi3)) = true →
    (0 ≤ (w64 (first4 + (w64 ((w64 (2 * s6.1)) + 1)))) ∧ (w64 (first4 + (w64 ((w64 (2 * s6.1)) + 1)))) < (data1.len : Int)) ∧
    deref data1.a fun a27 =>
    (0 ≤ (w64 ((w64 (first4 + (w64 ((w64 (2 * s6.1)) + 1)))) + 1)) ∧ (w64 ((w64 (first4 + (w64 ((w64 (2 * s6.1)) + 1)))) + 1)) < (data1.len : Int)) ∧
    deref data1.a fun a28 =>
    ld ((.int .i64) : Kd) h7 (a27.add (((w64 (first4 + (w64 ((w64 (2 * s6.1)) + 1)))) : Int).toNat * 1)) fun t29 =>
    ld ((.int .i64) : Kd) h7 (a28.add (((w64 ((w64 (first4 + (w64 ((w64 (2 * s6.1)) + 1)))) + 1)) : Int).toNat * 1)) fun t30 =>
    c_cmp_Less_int t29 t30 h7 fun r31 h32 =>
    slices_siftDownOrdered_int.j2 c_cmp_Less_int data1 first4 Q go8 s6 (r31, ()) h32) ∧
    ((decide ((w64 ((w64 ((w64 (2 * s6.1)) + 1)) + 1)) < hi3)) = false →
    slices_siftDownOrdered_int.j2 c_cmp_Less_int data1 first4 Q go8 s6 (false, ()) h7))))
def slices_siftDownOrdered_int.M (c_cmp_Less_int : Int → Int → Heap → (Bool → Heap → Prop) → Prop) (data1 : Sl) (lo2 : Int) (hi3 : Int) (first4 : Int) (h5 : Heap) (Q : Unit → Heap → Prop) : Prop :=
    Loop (slices_siftDownOrdered_int.l3 c_cmp_Less_int data1 hi3 first4 Q) (lo2, ()) h5
def slices_siftDownOrdered_int.mk : Mk := (.s .d (.b (.l [.slot 8 (.int .i64)] (.b (.s .d (.s (.s .d (.c .d .d)) (.j [.slot 9 (.int .i64)] (.j [.slot 36 .bool] (.q [] [] [.p 0, .p 1, .p 2, .p 3, .p 4, .p 5, .p 6, .p 7, .p 8, .p 9, .p 11, .p 12, .p 13, .p 14, .p 15, .p 16, .w 10 [10, 18, 19], .w 17 [17, 18, 19], .o 18, .p 19]) (.c .d .d)) (.s (.s (.q [] [] [.p 0, .p 1, .p 2, .p 3, .p 4, .p 6, .p 7, .p 8, .p 9, .p 10, .w 5 [5, 12, 13], .w 11 [11, 12, 13], .o 12, .p 13]) (.c .d .d)) (.s (.q [] [] [.p 0, .p 1, .p 2, .p 3, .p 4, .p 5, .p 6, .p 7, .p 8, .p 9, .p 10, .p 11, .p 12, .p 14, .p 15, .p 16, .p 17, .p 18, .w 13 [13, 20, 21, 22, 23], .w 19 [19, 20, 21, 22, 23], .p 20, .o 21, .p 22, .o 23]) .d)))))))))

def slices_medianAdjacentOrdered_int.M (c_slices_medianOrdered_int : Sl → Int → Int → Int → Option Addr → Heap → (Int → Heap → Prop) → Prop) (data1 : Sl) (a2 : Int) (swaps3 : Option Addr) (h4 : Heap) (Q : Int → Heap → Prop) : Prop :=
    c_slices_medianOrdered_int data1 (w64 (a2 - 1)) a2 (w64 (a2 + 1)) swaps3 h4 fun r5 h6 =>
    Q r5 h6
def slices_medianAdjacentOrdered_int.mk : Mk := (.s .d (.s .d .d))

def slices_medianOrdered_int.M (c_slices_order2Ordered_int : Sl → Int → Int → Option Addr → Heap → (Den kapiEdge → Heap → Prop) → Prop) (data1 : Sl) (a2 : Int) (b3 : Int) (c4 : Int) (swaps5 : Option Addr) (h6 : Heap) (Q : Int → Heap → Prop) : Prop :=
    c_slices_order2Ordered_int data1 a2 b3 swaps5 h6 fun r7 h8 =>
    c_slices_order2Ordered_int data1 r7.2.1 c4 swaps5 h8 fun r9 h10 =>
    c_slices_order2Ordered_int data1 r7.1 r9.1 swaps5 h10 fun r11 h12 =>
    Q r11.2.1 h12
def slices_medianOrdered_int.mk : Mk := (.s .d (.s .d (.s .d (.s .d (.s .d .d)))))

def slices_order2Ordered_int.M (c_cmp_Less_int : Int → Int → Heap → (Bool → Heap → Prop) → Prop) (data1 : Sl) (a2 : Int) (b3 : Int) (swaps4 : Option Addr) (h5 : Heap) (Q : Den kapiEdge → Heap → Prop) : Prop :=
    (0 ≤ b3 ∧ b3 < (data1.len : Int)) ∧
    deref data1.a fun a6 =>
    (0 ≤ a2 ∧ a2 < (data1.len : Int)) ∧
    deref data1.a fun a7 =>
    ld ((.int .i64) : Kd) h5 (a6.add ((b3 : Int).toNat * 1)) fun t8 =>
    ld ((.int .i64) : Kd) h5 (a7.add ((a2 : Int).toNat * 1)) fun t9 =>
    c_cmp_Less_int t8 t9 h5 fun r10 h11 =>
    ((r10 = true →
    deref swaps4 fun a12 =>
    ld ((.int .i64) : Kd) h11 a12 fun t13 =>
    deref swaps4 fun a14 =>
    st ((.int .i64) : Kd) h11 a14 (w64 (t13 + 1)) fun h15 =>
    Q (b3, a2, ()) h15) ∧
    (r10 = false →
    Q (a2, b3, ()) h11))
def slices_order2Ordered_int.mk : Mk := (.s .d (.s (.s (.q [] [] [.p 0, .p 1, .p 2, .p 4, .p 5, .p 6, .w 3 [3, 8], .w 7 [7, 8], .o 8]) (.c (.s .d (.s .d .d)) .d)) (.s .d .d)))

end Go.Mx
