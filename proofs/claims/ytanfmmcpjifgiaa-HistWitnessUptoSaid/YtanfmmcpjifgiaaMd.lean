/-
  What the functions of this seat come to over abstract heaps: printed by a program of this workplace.
-/
import Derived.Test.YtanfmmcpjifgiaaMxN
set_option linter.unusedVariables false
namespace Go.Mx
abbrev kapiCall : Kd := (.pair (.int .i64) (.pair (.int .i64) (.pair (.int .i64) (.pair (.int .i64) (.pair (.int .i64) (.pair (.int .i64) (.pair (.int .i64) .nil)))))))
abbrev kapiTodo : Kd := (.pair (.int .i64) (.pair (.int .i64) .nil))
abbrev khistsearch : Kd := (.pair .sl (.pair (.int .i64) (.pair (.arr 4 .sl) (.pair .map (.pair .sl .nil)))))
abbrev klaw4Wide : Kd := (.pair (.int .i64) kapiTodo)
abbrev kref4State : Kd := (.pair (.arr 4 (.int .i64)) (.pair .sl .nil))

def law4_HistCut.l1 (c_hist_Cut : Sl → Int → Heap → (Sl → Heap → Prop) → Prop) (c_law4_same : Sl → Sl → Heap → (Bool → Heap → Prop) → Prop) (c_law4_marked : Sl → Heap → (Bool → Heap → Prop) → Prop) (calls1 : Sl) (pick2 : Int) (Q : Bool → Heap → Prop) (r4 : Sl) (r12 : Sl) (r16 : Sl) (go32 : (Sl × (Sl × (Int × Unit))) → Heap → Prop) (s30 : (Sl × (Sl × (Int × Unit)))) (h31 : Heap) : Prop :=
    (((decide (s30.2.2.1 < 64)) = true →
    new h31 (([((-9), (0, (0, (0, (0, (0, (0, ())))))))] : List (Den kapiCall)).flatMap (Kd.cells kapiCall)) fun p33 h34 =>
    appendM 7 56 h34 s30.1 ⟨some p33, 1, 1⟩ fun t35 h36 =>
    new h36 (([((-10), (0, (0, (0, (0, (0, (0, ())))))))] : List (Den kapiCall)).flatMap (Kd.cells kapiCall)) fun p37 h38 =>
    appendM 7 56 h38 s30.2.1 ⟨some p37, 1, 1⟩ fun t39 h40 =>
    go32 (t35, t39, (w64 (s30.2.2.1 + 1)), ()) h40) ∧
    ((decide (s30.2.2.1 < 64)) = false →
    c_hist_Cut r4 pick2 h31 fun r41 h42 =>
    c_law4_same r4 calls1 h42 fun r43 h44 =>
    ((r43 = true →
    c_law4_marked r4 h44 fun r45 h46 =>
    ((r45 = true →
    c_law4_same r12 r16 h46 fun r47 h48 =>
    ((r47 = true →
    c_law4_same r41 r16 h48 fun r49 h50 =>
    ((r49 = true →
    (((decide ((s30.1.len : Int) = (w64 ((r16.len : Int) + 64)))) = true →
    Q (decide ((64 : Int) ≤ (s30.2.1.len : Int))) h50) ∧
    ((decide ((s30.1.len : Int) = (w64 ((r16.len : Int) + 64)))) = false →
    Q false h50))) ∧
    (r49 = false →
    Q false h50))) ∧
    (r47 = false →
    Q false h48))) ∧
    (r45 = false →
    Q false h46))) ∧
    (r43 = false →
    Q false h44))))
def law4_HistCut.l2 (c_hist_Cut : Sl → Int → Heap → (Sl → Heap → Prop) → Prop) (c_law4_same : Sl → Sl → Heap → (Bool → Heap → Prop) → Prop) (c_law4_marked : Sl → Heap → (Bool → Heap → Prop) → Prop) (calls1 : Sl) (pick2 : Int) (Q : Bool → Heap → Prop) (r4 : Sl) (r10 : Sl) (r12 : Sl) (r14 : Sl) (r16 : Sl) (go27 : (Int × Unit) → Heap → Prop) (s25 : (Int × Unit)) (h26 : Heap) : Prop :=
    (((decide (s25.1 < (r14.len : Int))) = true →
    (0 ≤ s25.1 ∧ s25.1 < (r14.len : Int)) ∧
    deref r14.a fun a28 =>
    st kapiCall h26 (a28.add ((s25.1 : Int).toNat * 7)) ((-8), (s25.1, (0, (s25.1, (0, (0, (0, ()))))))) fun h29 =>
    go27 ((w64 (s25.1 + 1)), ()) h29) ∧
    ((decide (s25.1 < (r14.len : Int))) = false →
    Loop (law4_HistCut.l1 c_hist_Cut c_law4_same c_law4_marked calls1 pick2 Q r4 r12 r16) (r10, r14, 0, ()) h26))
def law4_HistCut.l3 (c_hist_Cut : Sl → Int → Heap → (Sl → Heap → Prop) → Prop) (c_law4_same : Sl → Sl → Heap → (Bool → Heap → Prop) → Prop) (c_law4_marked : Sl → Heap → (Bool → Heap → Prop) → Prop) (calls1 : Sl) (pick2 : Int) (Q : Bool → Heap → Prop) (r4 : Sl) (r10 : Sl) (r12 : Sl) (r14 : Sl) (r16 : Sl) (go22 : (Int × Unit) → Heap → Prop) (s20 : (Int × Unit)) (h21 : Heap) : Prop :=
    (((decide (s20.1 < (r10.len : Int))) = true →
    (0 ≤ s20.1 ∧ s20.1 < (r10.len : Int)) ∧
    deref r10.a fun a23 =>
    st kapiCall h21 (a23.add ((s20.1 : Int).toNat * 7)) ((-7), (s20.1, (0, (s20.1, (0, (0, (0, ()))))))) fun h24 =>
    go22 ((w64 (s20.1 + 1)), ()) h24) ∧
    ((decide (s20.1 < (r10.len : Int))) = false →
    Loop (law4_HistCut.l2 c_hist_Cut c_law4_same c_law4_marked calls1 pick2 Q r4 r10 r12 r14 r16) (0, ()) h21))
def law4_HistCut.j4 (c_hist_Cut : Sl → Int → Heap → (Sl → Heap → Prop) → Prop) (c_law4_same : Sl → Sl → Heap → (Bool → Heap → Prop) → Prop) (c_law4_marked : Sl → Heap → (Bool → Heap → Prop) → Prop) (calls1 : Sl) (pick2 : Int) (Q : Bool → Heap → Prop) (r4 : Sl) (r10 : Sl) (r12 : Sl) (r14 : Sl) (r16 : Sl) (s18 : Unit) (h19 : Heap) : Prop :=
    Loop (law4_HistCut.l3 c_hist_Cut c_law4_same c_law4_marked calls1 pick2 Q r4 r10 r12 r14 r16) (0, ()) h19
def law4_HistCut.j5 (c_hist_Cut : Sl → Int → Heap → (Sl → Heap → Prop) → Prop) (c_law4_same : Sl → Sl → Heap → (Bool → Heap → Prop) → Prop) (c_law4_marked : Sl → Heap → (Bool → Heap → Prop) → Prop) (calls1 : Sl) (pick2 : Int) (Q : Bool → Heap → Prop) (r4 : Sl) (r10 : Sl) (r12 : Sl) (r14 : Sl) (r16 : Sl) (s51 : (Bool × Unit)) (h52 : Heap) : Prop :=
    ((s51.1 = true →
    Q false h52) ∧
    (s51.1 = false →
    law4_HistCut.j4 c_hist_Cut c_law4_same c_law4_marked calls1 pick2 Q r4 r10 r12 r14 r16 () h52))
def law4_HistCut.M (c_law4_moved : Sl → Heap → (Sl → Heap → Prop) → Prop) (c_hist_Cut : Sl → Int → Heap → (Sl → Heap → Prop) → Prop) (c_law4_back : Sl → Sl → Heap → (Unit → Heap → Prop) → Prop) (c_ref4_Cut : Sl → Int → Heap → (Sl → Heap → Prop) → Prop) (c_law4_same : Sl → Sl → Heap → (Bool → Heap → Prop) → Prop) (c_law4_marked : Sl → Heap → (Bool → Heap → Prop) → Prop) (calls1 : Sl) (pick2 : Int) (h3 : Heap) (Q : Bool → Heap → Prop) : Prop :=
    c_law4_moved calls1 h3 fun r4 h5 =>
    c_hist_Cut r4 pick2 h5 fun r6 h7 =>
    c_law4_back r4 calls1 h7 fun r8 h9 =>
    c_hist_Cut r4 pick2 h9 fun r10 h11 =>
    c_hist_Cut r4 pick2 h11 fun r12 h13 =>
    c_hist_Cut r4 (w64 (pick2 - 1)) h13 fun r14 h15 =>
    c_ref4_Cut calls1 pick2 h15 fun r16 h17 =>
    c_law4_same r10 r16 h17 fun r53 h54 =>
    (((!r53) = true →
    law4_HistCut.j5 c_hist_Cut c_law4_same c_law4_marked calls1 pick2 Q r4 r10 r12 r14 r16 (true, ()) h54) ∧
    ((!r53) = false →
    c_law4_same r12 r16 h54 fun r55 h56 =>
    law4_HistCut.j5 c_hist_Cut c_law4_same c_law4_marked calls1 pick2 Q r4 r10 r12 r14 r16 ((!r55), ()) h56))
def law4_HistCut.mk : Mk := (.s .d (.s .d (.s .d (.s .d (.s .d (.s .d (.s .d (.s .d (.j [] (.j [.slot 44 .bool] .d (.c (.s .d .d) .d)) (.s (.s .d (.b (.l [.slot 10 (.int .i64)] (.s (.s .d (.c .d .d)) (.s (.b .d) .d))))) (.s (.s .d (.b (.l [.slot 11 (.int .i64)] (.s (.s .d (.c .d .d)) (.s (.b .d) .d))))) (.s (.s .d (.b (.l [.slot 6 .sl, .slot 8 .sl, .slot 12 (.int .i64)] (.s (.s .d (.c .d .d)) (.s (.b (.s .d .d)) .d))))) (.s .d (.s .d .d))))))))))))))

def law4_HistSerial.l1 (c_ref4_Serial : Sl → Int → Heap → ((Sl × (Sl × (Int × Unit))) → Heap → Prop) → Prop) (c_law4_same : Sl → Sl → Heap → (Bool → Heap → Prop) → Prop) (c_law4_sameInts : Sl → Sl → Heap → (Bool → Heap → Prop) → Prop) (todos1 : Sl) (most2 : Int) (Q : Bool → Heap → Prop) (t17 : Sl) (r28 : (Sl × (Sl × (Int × Unit)))) (r37 : (Sl × (Sl × (Int × Unit)))) (go46 : (Int × Unit) → Heap → Prop) (s44 : (Int × Unit)) (h45 : Heap) : Prop :=
    (((decide (s44.1 < (r37.2.1.len : Int))) = true →
    (0 ≤ s44.1 ∧ s44.1 < (r37.2.1.len : Int)) ∧
    deref r37.2.1.a fun a47 =>
    st ((.int .i64) : Kd) h45 (a47.add ((s44.1 : Int).toNat * 1)) (w64 (0 - s44.1)) fun h48 =>
    go46 ((w64 (s44.1 + 1)), ()) h48) ∧
    ((decide (s44.1 < (r37.2.1.len : Int))) = false →
    new h45 (([((-2), (0, (0, (0, (0, (0, (0, ())))))))] : List (Den kapiCall)).flatMap (Kd.cells kapiCall)) fun p49 h50 =>
    appendM 7 56 h50 r37.1 ⟨some p49, 1, 1⟩ fun t51 h52 =>
    new h52 (([(-100)] : List (Den ((.int .i64) : Kd))).flatMap (Kd.cells ((.int .i64) : Kd))) fun p53 h54 =>
    appendM 1 8 h54 r37.2.1 ⟨some p53, 1, 1⟩ fun t55 h56 =>
    c_ref4_Serial todos1 most2 h56 fun r57 h58 =>
    (0 ≤ (w64 (((t17.cut 0 (((todos1.len : Int) : Int).toNat) 2).len : Int) + 1)) ∧ (w64 (((t17.cut 0 (((todos1.len : Int) : Int).toNat) 2).len : Int) + 1)) ≤ ((t17.cut 0 (((todos1.len : Int) : Int).toNat) 2).cap : Int)) ∧
    (0 ≤ ((t17.cut 0 (((todos1.len : Int) : Int).toNat) 2).len : Int) ∧ ((t17.cut 0 (((todos1.len : Int) : Int).toNat) 2).len : Int) < (((t17.cut 0 (((todos1.len : Int) : Int).toNat) 2).cut 0 (((w64 (((t17.cut 0 (((todos1.len : Int) : Int).toNat) 2).len : Int) + 1)) : Int).toNat) 2).len : Int)) ∧
    deref ((t17.cut 0 (((todos1.len : Int) : Int).toNat) 2).cut 0 (((w64 (((t17.cut 0 (((todos1.len : Int) : Int).toNat) 2).len : Int) + 1)) : Int).toNat) 2).a fun a59 =>
    ld ((.int .i64) : Kd) h58 ((a59.add ((((t17.cut 0 (((todos1.len : Int) : Int).toNat) 2).len : Int) : Int).toNat * 2)).add 0) fun t60 =>
    (((decide (t60 = (-77))) = true →
    (((decide (r28.2.2.1 = r57.2.2.1)) = true →
    c_law4_same r28.1 r57.1 h58 fun r61 h62 =>
    ((r61 = true →
    c_law4_sameInts r28.2.1 r57.2.1 h62 fun r63 h64 =>
    ((r63 = true →
    (((decide ((0 : Int) < (t51.len : Int))) = true →
    Q (decide ((0 : Int) < (t55.len : Int))) h64) ∧
    ((decide ((0 : Int) < (t51.len : Int))) = false →
    Q false h64))) ∧
    (r63 = false →
    Q false h64))) ∧
    (r61 = false →
    Q false h62))) ∧
    ((decide (r28.2.2.1 = r57.2.2.1)) = false →
    Q false h58))) ∧
    ((decide (t60 = (-77))) = false →
    Q false h58))))
def law4_HistSerial.l2 (c_ref4_Serial : Sl → Int → Heap → ((Sl × (Sl × (Int × Unit))) → Heap → Prop) → Prop) (c_law4_same : Sl → Sl → Heap → (Bool → Heap → Prop) → Prop) (c_law4_sameInts : Sl → Sl → Heap → (Bool → Heap → Prop) → Prop) (todos1 : Sl) (most2 : Int) (Q : Bool → Heap → Prop) (t17 : Sl) (r28 : (Sl × (Sl × (Int × Unit)))) (r37 : (Sl × (Sl × (Int × Unit)))) (go41 : (Int × Unit) → Heap → Prop) (s39 : (Int × Unit)) (h40 : Heap) : Prop :=
    (((decide (s39.1 < (r37.1.len : Int))) = true →
    (0 ≤ s39.1 ∧ s39.1 < (r37.1.len : Int)) ∧
    deref r37.1.a fun a42 =>
    st kapiCall h40 (a42.add ((s39.1 : Int).toNat * 7)) ((-1), (0, (0, (s39.1, (0, (0, (0, ()))))))) fun h43 =>
    go41 ((w64 (s39.1 + 1)), ()) h43) ∧
    ((decide (s39.1 < (r37.1.len : Int))) = false →
    Loop (law4_HistSerial.l1 c_ref4_Serial c_law4_same c_law4_sameInts todos1 most2 Q t17 r28 r37) (0, ()) h40))
def law4_HistSerial.l3 (c_hist_Serial : Sl → Int → Heap → ((Sl × (Sl × (Int × Unit))) → Heap → Prop) → Prop) (c_ref4_Serial : Sl → Int → Heap → ((Sl × (Sl × (Int × Unit))) → Heap → Prop) → Prop) (c_law4_same : Sl → Sl → Heap → (Bool → Heap → Prop) → Prop) (c_law4_sameInts : Sl → Sl → Heap → (Bool → Heap → Prop) → Prop) (todos1 : Sl) (most2 : Int) (Q : Bool → Heap → Prop) (t17 : Sl) (r28 : (Sl × (Sl × (Int × Unit)))) (go32 : (Int × Unit) → Heap → Prop) (s30 : (Int × Unit)) (h31 : Heap) : Prop :=
    (((decide (s30.1 < (todos1.len : Int))) = true →
    (0 ≤ s30.1 ∧ s30.1 < ((t17.cut 0 (((todos1.len : Int) : Int).toNat) 2).len : Int)) ∧
    deref (t17.cut 0 (((todos1.len : Int) : Int).toNat) 2).a fun a33 =>
    (0 ≤ s30.1 ∧ s30.1 < (todos1.len : Int)) ∧
    deref todos1.a fun a34 =>
    ld kapiTodo h31 (a33.add ((s30.1 : Int).toNat * 2)) fun t35 =>
    ld kapiTodo h31 (a34.add ((s30.1 : Int).toNat * 2)) fun t36 =>
    (((!(eqK kapiTodo t35 t36)) = true →
    Q false h31) ∧
    ((!(eqK kapiTodo t35 t36)) = false →
    go32 ((w64 (s30.1 + 1)), ()) h31))) ∧
    ((decide (s30.1 < (todos1.len : Int))) = false →
    c_hist_Serial (t17.cut 0 (((todos1.len : Int) : Int).toNat) 2) most2 h31 fun r37 h38 =>
    Loop (law4_HistSerial.l2 c_ref4_Serial c_law4_same c_law4_sameInts todos1 most2 Q t17 r28 r37) (0, ()) h38))
def law4_HistSerial.l4 (c_hist_Serial : Sl → Int → Heap → ((Sl × (Sl × (Int × Unit))) → Heap → Prop) → Prop) (c_ref4_Serial : Sl → Int → Heap → ((Sl × (Sl × (Int × Unit))) → Heap → Prop) → Prop) (c_law4_same : Sl → Sl → Heap → (Bool → Heap → Prop) → Prop) (c_law4_sameInts : Sl → Sl → Heap → (Bool → Heap → Prop) → Prop) (todos1 : Sl) (most2 : Int) (Q : Bool → Heap → Prop) (t17 : Sl) (go23 : (Int × Unit) → Heap → Prop) (s21 : (Int × Unit)) (h22 : Heap) : Prop :=
    (((decide (s21.1 < (todos1.len : Int))) = true →
    (0 ≤ s21.1 ∧ s21.1 < (todos1.len : Int)) ∧
    deref todos1.a fun a24 =>
    ld kapiTodo h22 (a24.add ((s21.1 : Int).toNat * 2)) fun t25 =>
    (0 ≤ s21.1 ∧ s21.1 < ((t17.cut 0 (((todos1.len : Int) : Int).toNat) 2).len : Int)) ∧
    deref (t17.cut 0 (((todos1.len : Int) : Int).toNat) 2).a fun a26 =>
    st kapiTodo h22 (a26.add ((s21.1 : Int).toNat * 2)) t25 fun h27 =>
    go23 ((w64 (s21.1 + 1)), ()) h27) ∧
    ((decide (s21.1 < (todos1.len : Int))) = false →
    c_hist_Serial (t17.cut 0 (((todos1.len : Int) : Int).toNat) 2) most2 h22 fun r28 h29 =>
    Loop (law4_HistSerial.l3 c_hist_Serial c_ref4_Serial c_law4_same c_law4_sameInts todos1 most2 Q t17 r28) (0, ()) h29))
def law4_HistSerial.l5 (c_hist_Serial : Sl → Int → Heap → ((Sl × (Sl × (Int × Unit))) → Heap → Prop) → Prop) (c_ref4_Serial : Sl → Int → Heap → ((Sl × (Sl × (Int × Unit))) → Heap → Prop) → Prop) (c_law4_same : Sl → Sl → Heap → (Bool → Heap → Prop) → Prop) (c_law4_sameInts : Sl → Sl → Heap → (Bool → Heap → Prop) → Prop) (todos1 : Sl) (most2 : Int) (Q : Bool → Heap → Prop) (go6 : (Sl × (Int × Unit)) → Heap → Prop) (s4 : (Sl × (Int × Unit))) (h5 : Heap) : Prop :=
    (((decide (s4.2.1 < (todos1.len : Int))) = true →
    (0 ≤ s4.2.1 ∧ s4.2.1 < (todos1.len : Int)) ∧
    deref todos1.a fun a7 =>
    (0 ≤ s4.2.1 ∧ s4.2.1 < (todos1.len : Int)) ∧
    deref todos1.a fun a8 =>
    ld ((.int .i64) : Kd) h5 ((a7.add ((s4.2.1 : Int).toNat * 2)).add 0) fun t9 =>
    ld ((.int .i64) : Kd) h5 ((a8.add ((s4.2.1 : Int).toNat * 2)).add 1) fun t10 =>
    new h5 (([(t9, ((w64 (t10 + 1)), ()))] : List (Den kapiTodo)).flatMap (Kd.cells kapiTodo)) fun p11 h12 =>
    appendM 2 16 h12 s4.1 ⟨some p11, 1, 1⟩ fun t13 h14 =>
    go6 (t13, (w64 (s4.2.1 + 1)), ()) h14) ∧
    ((decide (s4.2.1 < (todos1.len : Int))) = false →
    new h5 (([((-77), (0, ()))] : List (Den kapiTodo)).flatMap (Kd.cells kapiTodo)) fun p15 h16 =>
    appendM 2 16 h16 s4.1 ⟨some p15, 1, 1⟩ fun t17 h18 =>
    (0 ≤ (todos1.len : Int) ∧ (todos1.len : Int) ≤ (t17.cap : Int)) ∧
    c_hist_Serial (t17.cut 0 (((todos1.len : Int) : Int).toNat) 2) most2 h18 fun r19 h20 =>
    Loop (law4_HistSerial.l4 c_hist_Serial c_ref4_Serial c_law4_same c_law4_sameInts todos1 most2 Q t17) (0, ()) h20))
def law4_HistSerial.M (c_hist_Serial : Sl → Int → Heap → ((Sl × (Sl × (Int × Unit))) → Heap → Prop) → Prop) (c_ref4_Serial : Sl → Int → Heap → ((Sl × (Sl × (Int × Unit))) → Heap → Prop) → Prop) (c_law4_same : Sl → Sl → Heap → (Bool → Heap → Prop) → Prop) (c_law4_sameInts : Sl → Sl → Heap → (Bool → Heap → Prop) → Prop) (todos1 : Sl) (most2 : Int) (h3 : Heap) (Q : Bool → Heap → Prop) : Prop :=
    Loop (law4_HistSerial.l5 c_hist_Serial c_ref4_Serial c_law4_same c_law4_sameInts todos1 most2 Q) (⟨none, 0, 0⟩, 0, ()) h3
def law4_HistSerial.mk : Mk := (.s .d (.s .d (.s (.s .d (.b (.l [.slot 5 .sl, .slot 6 (.int .i64)] (.s (.s .d (.c .d .d)) (.s (.b (.q [] [] [.p 0, .p 1, .p 2, .p 3, .p 4, .p 6, .p 7, .p 8, .p 9, .w 5 [5, 12, 13, 14, 15], .w 10 [10, 11, 12, 13, 14, 15], .p 11, .p 12, .o 13, .o 14, .p 15])) .d))))) (.s .d (.s .d (.s .d (.s (.s .d (.b (.l [.slot 7 (.int .i64)] (.s (.s .d (.c .d .d)) (.s (.b .d) .d))))) (.s .d (.s (.s .d (.b (.l [.slot 11 (.int .i64)] (.s (.s .d (.c .d .d)) (.s (.b (.s (.q [] [] [.p 0, .p 1, .p 2, .p 4, .p 5, .p 6, .w 3 [3, 8], .w 7 [7, 8], .p 8]) (.c (.s .d .d) .d))) .d))))) (.s .d (.s (.s .d (.b (.l [.slot 15 (.int .i64)] (.s (.s .d (.c .d .d)) (.s (.b .d) .d))))) (.s (.s .d (.b (.l [.slot 16 (.int .i64)] (.s (.s .d (.c .d .d)) (.s (.b .d) .d))))) (.s .d (.s .d (.s .d (.s .d (.s .d .d)))))))))))))))))

def law4_HistLegal.l1 (c_ref4_Legal : Sl → Int → Sl → Heap → (Bool → Heap → Prop) → Prop) (calls1 : Sl) (most2 : Int) (order3 : Sl) (Q : Bool → Heap → Prop) (t18 : Sl) (r33 : Bool) (go39 : (Int × Unit) → Heap → Prop) (s37 : (Int × Unit)) (h38 : Heap) : Prop :=
    (((decide (s37.1 < ((t18.cut 0 (((order3.len : Int) : Int).toNat) 1).len : Int))) = true →
    (0 ≤ s37.1 ∧ s37.1 < ((t18.cut 0 (((order3.len : Int) : Int).toNat) 1).len : Int)) ∧
    deref (t18.cut 0 (((order3.len : Int) : Int).toNat) 1).a fun a40 =>
    (0 ≤ s37.1 ∧ s37.1 < (order3.len : Int)) ∧
    deref order3.a fun a41 =>
    ld ((.int .i64) : Kd) h38 (a40.add ((s37.1 : Int).toNat * 1)) fun t42 =>
    ld ((.int .i64) : Kd) h38 (a41.add ((s37.1 : Int).toNat * 1)) fun t43 =>
    (((decide (t42 ≠ t43)) = true →
    Q false h38) ∧
    ((decide (t42 ≠ t43)) = false →
    go39 ((w64 (s37.1 + 1)), ()) h38))) ∧
    ((decide (s37.1 < ((t18.cut 0 (((order3.len : Int) : Int).toNat) 1).len : Int))) = false →
    c_ref4_Legal calls1 most2 order3 h38 fun r44 h45 =>
    Q (r33 == r44) h45))
def law4_HistLegal.j2 (c_ref4_Legal : Sl → Int → Sl → Heap → (Bool → Heap → Prop) → Prop) (calls1 : Sl) (most2 : Int) (order3 : Sl) (Q : Bool → Heap → Prop) (t18 : Sl) (r33 : Bool) (s35 : Unit) (h36 : Heap) : Prop :=
    Loop (law4_HistLegal.l1 c_ref4_Legal calls1 most2 order3 Q t18 r33) (0, ()) h36
def law4_HistLegal.j3 (c_ref4_Legal : Sl → Int → Sl → Heap → (Bool → Heap → Prop) → Prop) (calls1 : Sl) (most2 : Int) (order3 : Sl) (Q : Bool → Heap → Prop) (t18 : Sl) (r33 : Bool) (s46 : (Bool × Unit)) (h47 : Heap) : Prop :=
    ((s46.1 = true →
    Q false h47) ∧
    (s46.1 = false →
    law4_HistLegal.j2 c_ref4_Legal calls1 most2 order3 Q t18 r33 () h47))
def law4_HistLegal.l4 (c_hist_Legal : Sl → Int → Sl → Heap → (Bool → Heap → Prop) → Prop) (c_law4_same : Sl → Sl → Heap → (Bool → Heap → Prop) → Prop) (c_law4_marked : Sl → Heap → (Bool → Heap → Prop) → Prop) (c_ref4_Legal : Sl → Int → Sl → Heap → (Bool → Heap → Prop) → Prop) (calls1 : Sl) (most2 : Int) (order3 : Sl) (Q : Bool → Heap → Prop) (r5 : Sl) (t18 : Sl) (go28 : (Int × Unit) → Heap → Prop) (s26 : (Int × Unit)) (h27 : Heap) : Prop :=
    (((decide (s26.1 < (order3.len : Int))) = true →
    (0 ≤ s26.1 ∧ s26.1 < (order3.len : Int)) ∧
    deref order3.a fun a29 =>
    ld ((.int .i64) : Kd) h27 (a29.add ((s26.1 : Int).toNat * 1)) fun t30 =>
    (0 ≤ s26.1 ∧ s26.1 < ((t18.cut 0 (((order3.len : Int) : Int).toNat) 1).len : Int)) ∧
    deref (t18.cut 0 (((order3.len : Int) : Int).toNat) 1).a fun a31 =>
    st ((.int .i64) : Kd) h27 (a31.add ((s26.1 : Int).toNat * 1)) t30 fun h32 =>
    go28 ((w64 (s26.1 + 1)), ()) h32) ∧
    ((decide (s26.1 < (order3.len : Int))) = false →
    c_hist_Legal r5 most2 (t18.cut 0 (((order3.len : Int) : Int).toNat) 1) h27 fun r33 h34 =>
    c_law4_same r5 calls1 h34 fun r48 h49 =>
    (((!r48) = true →
    law4_HistLegal.j3 c_ref4_Legal calls1 most2 order3 Q t18 r33 (true, ()) h49) ∧
    ((!r48) = false →
    c_law4_marked r5 h49 fun r50 h51 =>
    (((!r50) = true →
    law4_HistLegal.j3 c_ref4_Legal calls1 most2 order3 Q t18 r33 (true, ()) h51) ∧
    ((!r50) = false →
    (((decide (((t18.cut 0 (((order3.len : Int) : Int).toNat) 1).len : Int) ≠ (order3.len : Int))) = true →
    law4_HistLegal.j3 c_ref4_Legal calls1 most2 order3 Q t18 r33 (true, ()) h51) ∧
    ((decide (((t18.cut 0 (((order3.len : Int) : Int).toNat) 1).len : Int) ≠ (order3.len : Int))) = false →
    (0 ≤ (w64 (((t18.cut 0 (((order3.len : Int) : Int).toNat) 1).len : Int) + 1)) ∧ (w64 (((t18.cut 0 (((order3.len : Int) : Int).toNat) 1).len : Int) + 1)) ≤ ((t18.cut 0 (((order3.len : Int) : Int).toNat) 1).cap : Int)) ∧
    (0 ≤ ((t18.cut 0 (((order3.len : Int) : Int).toNat) 1).len : Int) ∧ ((t18.cut 0 (((order3.len : Int) : Int).toNat) 1).len : Int) < (((t18.cut 0 (((order3.len : Int) : Int).toNat) 1).cut 0 (((w64 (((t18.cut 0 (((order3.len : Int) : Int).toNat) 1).len : Int) + 1)) : Int).toNat) 1).len : Int)) ∧
    deref ((t18.cut 0 (((order3.len : Int) : Int).toNat) 1).cut 0 (((w64 (((t18.cut 0 (((order3.len : Int) : Int).toNat) 1).len : Int) + 1)) : Int).toNat) 1).a fun a52 =>
    ld ((.int .i64) : Kd) h51 (a52.add ((((t18.cut 0 (((order3.len : Int) : Int).toNat) 1).len : Int) : Int).toNat * 1)) fun t53 =>
    law4_HistLegal.j3 c_ref4_Legal calls1 most2 order3 Q t18 r33 ((decide (t53 ≠ (-77))), ()) h51))))))))
def law4_HistLegal.l5 (c_hist_Legal : Sl → Int → Sl → Heap → (Bool → Heap → Prop) → Prop) (c_law4_back : Sl → Sl → Heap → (Unit → Heap → Prop) → Prop) (c_law4_same : Sl → Sl → Heap → (Bool → Heap → Prop) → Prop) (c_law4_marked : Sl → Heap → (Bool → Heap → Prop) → Prop) (c_ref4_Legal : Sl → Int → Sl → Heap → (Bool → Heap → Prop) → Prop) (calls1 : Sl) (most2 : Int) (order3 : Sl) (Q : Bool → Heap → Prop) (r5 : Sl) (go9 : (Sl × (Int × Unit)) → Heap → Prop) (s7 : (Sl × (Int × Unit))) (h8 : Heap) : Prop :=
    (((decide (s7.2.1 < (order3.len : Int))) = true →
    (0 ≤ (w64 ((w64 ((order3.len : Int) - 1)) - s7.2.1)) ∧ (w64 ((w64 ((order3.len : Int) - 1)) - s7.2.1)) < (order3.len : Int)) ∧
    deref order3.a fun a10 =>
    ld ((.int .i64) : Kd) h8 (a10.add (((w64 ((w64 ((order3.len : Int) - 1)) - s7.2.1)) : Int).toNat * 1)) fun t11 =>
    new h8 (([t11] : List (Den ((.int .i64) : Kd))).flatMap (Kd.cells ((.int .i64) : Kd))) fun p12 h13 =>
    appendM 1 8 h13 s7.1 ⟨some p12, 1, 1⟩ fun t14 h15 =>
    go9 (t14, (w64 (s7.2.1 + 1)), ()) h15) ∧
    ((decide (s7.2.1 < (order3.len : Int))) = false →
    new h8 (([(-77)] : List (Den ((.int .i64) : Kd))).flatMap (Kd.cells ((.int .i64) : Kd))) fun p16 h17 =>
    appendM 1 8 h17 s7.1 ⟨some p16, 1, 1⟩ fun t18 h19 =>
    (0 ≤ (order3.len : Int) ∧ (order3.len : Int) ≤ (t18.cap : Int)) ∧
    c_hist_Legal r5 most2 (t18.cut 0 (((order3.len : Int) : Int).toNat) 1) h19 fun r20 h21 =>
    c_law4_back r5 calls1 h21 fun r22 h23 =>
    c_hist_Legal r5 most2 (t18.cut 0 (((order3.len : Int) : Int).toNat) 1) h23 fun r24 h25 =>
    Loop (law4_HistLegal.l4 c_hist_Legal c_law4_same c_law4_marked c_ref4_Legal calls1 most2 order3 Q r5 t18) (0, ()) h25))
def law4_HistLegal.M (c_law4_moved : Sl → Heap → (Sl → Heap → Prop) → Prop) (c_hist_Legal : Sl → Int → Sl → Heap → (Bool → Heap → Prop) → Prop) (c_law4_back : Sl → Sl → Heap → (Unit → Heap → Prop) → Prop) (c_law4_same : Sl → Sl → Heap → (Bool → Heap → Prop) → Prop) (c_law4_marked : Sl → Heap → (Bool → Heap → Prop) → Prop) (c_ref4_Legal : Sl → Int → Sl → Heap → (Bool → Heap → Prop) → Prop) (calls1 : Sl) (most2 : Int) (order3 : Sl) (h4 : Heap) (Q : Bool → Heap → Prop) : Prop :=
    c_law4_moved calls1 h4 fun r5 h6 =>
    Loop (law4_HistLegal.l5 c_hist_Legal c_law4_back c_law4_same c_law4_marked c_ref4_Legal calls1 most2 order3 Q r5) (⟨none, 0, 0⟩, 0, ()) h6
def law4_HistLegal.mk : Mk := (.s .d (.s .d (.s .d (.s (.s .d (.b (.l [.slot 8 .sl, .slot 9 (.int .i64)] (.s (.s .d (.c .d .d)) (.s (.b .d) .d))))) (.s .d (.s .d (.s .d (.s .d (.s .d (.s (.s .d (.b (.l [.slot 10 (.int .i64)] (.s (.s .d (.c .d .d)) (.s (.b .d) .d))))) (.s .d (.j [] (.j [.slot 94 .bool] .d (.c (.s .d .d) .d)) (.s (.s .d (.b (.l [.slot 12 (.int .i64)] (.s (.s .d (.c .d .d)) (.s (.b (.s (.q [] [] [.p 0, .p 1, .p 2, .p 4, .p 5, .p 6, .w 3 [3, 8], .w 7 [7, 8], .p 8]) (.c (.s .d .d) .d))) .d))))) (.s .d .d))))))))))))))

def law4_HistOrder.j1 (c_ref4_Legal : Sl → Int → Sl → Heap → (Bool → Heap → Prop) → Prop) (calls1 : Sl) (most2 : Int) (Q : Bool → Heap → Prop) (r10 : (Sl × (Int × Unit))) (s23 : Unit) (h24 : Heap) : Prop :=
    (((decide (r10.2.1 ≠ 0)) = true →
    Q (decide ((r10.1.len : Int) = 0)) h24) ∧
    ((decide (r10.2.1 ≠ 0)) = false →
    c_ref4_Legal calls1 most2 r10.1 h24 fun r25 h26 =>
    Q r25 h26))
def law4_HistOrder.j2 (c_ref4_Legal : Sl → Int → Sl → Heap → (Bool → Heap → Prop) → Prop) (calls1 : Sl) (most2 : Int) (Q : Bool → Heap → Prop) (r10 : (Sl × (Int × Unit))) (s27 : (Bool × Unit)) (h28 : Heap) : Prop :=
    ((s27.1 = true →
    Q false h28) ∧
    (s27.1 = false →
    law4_HistOrder.j1 c_ref4_Legal calls1 most2 Q r10 () h28))
def law4_HistOrder.l3 (c_law4_same : Sl → Sl → Heap → (Bool → Heap → Prop) → Prop) (c_law4_marked : Sl → Heap → (Bool → Heap → Prop) → Prop) (c_ref4_Refused : Sl → Int → Heap → (Int → Heap → Prop) → Prop) (c_ref4_Legal : Sl → Int → Sl → Heap → (Bool → Heap → Prop) → Prop) (calls1 : Sl) (most2 : Int) (Q : Bool → Heap → Prop) (r4 : Sl) (r10 : (Sl × (Int × Unit))) (r12 : (Sl × (Int × Unit))) (go16 : (Int × Unit) → Heap → Prop) (s14 : (Int × Unit)) (h15 : Heap) : Prop :=
    (((decide (s14.1 < (r12.1.len : Int))) = true →
    (0 ≤ s14.1 ∧ s14.1 < (r12.1.len : Int)) ∧
    deref r12.1.a fun a17 =>
    st ((.int .i64) : Kd) h15 (a17.add ((s14.1 : Int).toNat * 1)) (w64 ((-1) - s14.1)) fun h18 =>
    go16 ((w64 (s14.1 + 1)), ()) h18) ∧
    ((decide (s14.1 < (r12.1.len : Int))) = false →
    new h15 (([(-100)] : List (Den ((.int .i64) : Kd))).flatMap (Kd.cells ((.int .i64) : Kd))) fun p19 h20 =>
    appendM 1 8 h20 r12.1 ⟨some p19, 1, 1⟩ fun t21 h22 =>
    c_law4_same r4 calls1 h22 fun r29 h30 =>
    (((!r29) = true →
    law4_HistOrder.j2 c_ref4_Legal calls1 most2 Q r10 (true, ()) h30) ∧
    ((!r29) = false →
    c_law4_marked r4 h30 fun r31 h32 =>
    (((!r31) = true →
    law4_HistOrder.j2 c_ref4_Legal calls1 most2 Q r10 (true, ()) h32) ∧
    ((!r31) = false →
    c_ref4_Refused calls1 most2 h32 fun r33 h34 =>
    (((decide (r10.2.1 ≠ r33)) = true →
    law4_HistOrder.j2 c_ref4_Legal calls1 most2 Q r10 (true, ()) h34) ∧
    ((decide (r10.2.1 ≠ r33)) = false →
    (((decide (r12.2.1 ≠ r10.2.1)) = true →
    law4_HistOrder.j2 c_ref4_Legal calls1 most2 Q r10 (true, ()) h34) ∧
    ((decide (r12.2.1 ≠ r10.2.1)) = false →
    law4_HistOrder.j2 c_ref4_Legal calls1 most2 Q r10 ((decide ((t21.len : Int) < 1)), ()) h34))))))))))
def law4_HistOrder.M (c_law4_moved : Sl → Heap → (Sl → Heap → Prop) → Prop) (c_hist_Order : Sl → Int → Heap → ((Sl × (Int × Unit)) → Heap → Prop) → Prop) (c_law4_back : Sl → Sl → Heap → (Unit → Heap → Prop) → Prop) (c_law4_same : Sl → Sl → Heap → (Bool → Heap → Prop) → Prop) (c_law4_marked : Sl → Heap → (Bool → Heap → Prop) → Prop) (c_ref4_Refused : Sl → Int → Heap → (Int → Heap → Prop) → Prop) (c_ref4_Legal : Sl → Int → Sl → Heap → (Bool → Heap → Prop) → Prop) (calls1 : Sl) (most2 : Int) (h3 : Heap) (Q : Bool → Heap → Prop) : Prop :=
    c_law4_moved calls1 h3 fun r4 h5 =>
    c_hist_Order r4 most2 h5 fun r6 h7 =>
    c_law4_back r4 calls1 h7 fun r8 h9 =>
    c_hist_Order r4 most2 h9 fun r10 h11 =>
    c_hist_Order r4 most2 h11 fun r12 h13 =>
    Loop (law4_HistOrder.l3 c_law4_same c_law4_marked c_ref4_Refused c_ref4_Legal calls1 most2 Q r4 r10 r12) (0, ()) h13
def law4_HistOrder.mk : Mk := (.s .d (.s .d (.s .d (.s .d (.s .d (.s .d (.s (.s .d (.b (.l [.slot 10 (.int .i64)] (.s (.s .d (.c .d .d)) (.s (.b .d) .d))))) (.s .d (.j [] (.j [.slot 70 .bool] .d (.c (.s .d .d) .d)) (.s (.s .d (.c (.s .d .d) .d)) (.s .d .d)))))))))))

def law4_HistKeeps.j1 (go12 : (Int × Unit) → Heap → Prop) (s10 : (Int × Unit)) (s13 : Unit) (h14 : Heap) : Prop :=
    go12 ((w64 (s10.1 + 1)), ()) h14
def law4_HistKeeps.j2 (go21 : (Int × (Int × (Bool × (Int × Unit)))) → Heap → Prop) (s19 : (Int × (Int × (Bool × (Int × Unit))))) (s22 : (Int × (Int × (Bool × Unit)))) (h23 : Heap) : Prop :=
    go21 (s22.1, s22.2.1, s22.2.2.1, (w64 (s19.2.2.2.1 + 1)), ()) h23
def law4_HistKeeps.j3 (t16 : Den kapiCall) (go21 : (Int × (Int × (Bool × (Int × Unit)))) → Heap → Prop) (s19 : (Int × (Int × (Bool × (Int × Unit))))) (t25 : Den kapiCall) (s26 : (Int × Unit)) (s28 : (Bool × Unit)) (h29 : Heap) : Prop :=
    ((s28.1 = true →
    ((s19.2.2.1 = true →
    law4_HistKeeps.j2 go21 s19 (s26.1, (w64 (s19.2.1 + 1)), true, ()) h29) ∧
    (s19.2.2.1 = false →
    law4_HistKeeps.j2 go21 s19 (s26.1, (w64 (s19.2.1 + 1)), (decide (t25.2.2.2.1 ≤ t16.2.2.2.2.1)), ()) h29))) ∧
    (s28.1 = false →
    law4_HistKeeps.j2 go21 s19 (s26.1, s19.2.1, s19.2.2.1, ()) h29))
def law4_HistKeeps.j4 (t16 : Den kapiCall) (go21 : (Int × (Int × (Bool × (Int × Unit)))) → Heap → Prop) (s19 : (Int × (Int × (Bool × (Int × Unit))))) (t25 : Den kapiCall) (s26 : (Int × Unit)) (h27 : Heap) : Prop :=
    (((decide (t25.2.1 = 0)) = true →
    (((decide (t25.2.2.2.2.2.1 ≠ 3)) = true →
    law4_HistKeeps.j3 t16 go21 s19 t25 s26 ((decide (t25.2.2.1 = t16.2.2.2.2.2.2.1)), ()) h27) ∧
    ((decide (t25.2.2.2.2.2.1 ≠ 3)) = false →
    law4_HistKeeps.j3 t16 go21 s19 t25 s26 (false, ()) h27))) ∧
    ((decide (t25.2.1 = 0)) = false →
    law4_HistKeeps.j3 t16 go21 s19 t25 s26 (false, ()) h27))
def law4_HistKeeps.j5 (t16 : Den kapiCall) (go21 : (Int × (Int × (Bool × (Int × Unit)))) → Heap → Prop) (s19 : (Int × (Int × (Bool × (Int × Unit))))) (t25 : Den kapiCall) (s30 : (Bool × Unit)) (h31 : Heap) : Prop :=
    ((s30.1 = true →
    law4_HistKeeps.j4 t16 go21 s19 t25 ((w64 (s19.1 + 1)), ()) h31) ∧
    (s30.1 = false →
    law4_HistKeeps.j4 t16 go21 s19 t25 (s19.1, ()) h31))
def law4_HistKeeps.j6 (Q : Bool → Heap → Prop) (go12 : (Int × Unit) → Heap → Prop) (s10 : (Int × Unit)) (s32 : (Bool × Unit)) (h33 : Heap) : Prop :=
    ((s32.1 = true →
    Q false h33) ∧
    (s32.1 = false →
    law4_HistKeeps.j1 go12 s10 () h33))
def law4_HistKeeps.l7 (calls1 : Sl) (Q : Bool → Heap → Prop) (go12 : (Int × Unit) → Heap → Prop) (s10 : (Int × Unit)) (t16 : Den kapiCall) (go21 : (Int × (Int × (Bool × (Int × Unit)))) → Heap → Prop) (s19 : (Int × (Int × (Bool × (Int × Unit))))) (h20 : Heap) : Prop :=
    (((decide (s19.2.2.2.1 < (calls1.len : Int))) = true →
    (0 ≤ s19.2.2.2.1 ∧ s19.2.2.2.1 < (calls1.len : Int)) ∧
    deref calls1.a fun a24 =>
    ld kapiCall h20 (a24.add ((s19.2.2.2.1 : Int).toNat * 7)) fun t25 =>
    (((decide (t25.2.1 ≠ 0)) = true →
    (((decide (t25.2.2.2.2.2.1 = 4)) = true →
    law4_HistKeeps.j5 t16 go21 s19 t25 ((decide (t25.2.2.2.2.2.2.1 = t16.2.2.2.2.2.2.1)), ()) h20) ∧
    ((decide (t25.2.2.2.2.2.1 = 4)) = false →
    law4_HistKeeps.j5 t16 go21 s19 t25 (false, ()) h20))) ∧
    ((decide (t25.2.1 ≠ 0)) = false →
    law4_HistKeeps.j5 t16 go21 s19 t25 (false, ()) h20))) ∧
    ((decide (s19.2.2.2.1 < (calls1.len : Int))) = false →
    (((decide (s19.2.1 < s19.1)) = true →
    law4_HistKeeps.j6 Q go12 s10 (true, ()) h20) ∧
    ((decide (s19.2.1 < s19.1)) = false →
    law4_HistKeeps.j6 Q go12 s10 ((!s19.2.2.1), ()) h20))))
def law4_HistKeeps.j8 (calls1 : Sl) (Q : Bool → Heap → Prop) (go12 : (Int × Unit) → Heap → Prop) (s10 : (Int × Unit)) (t16 : Den kapiCall) (s17 : Unit) (h18 : Heap) : Prop :=
    Loop (law4_HistKeeps.l7 calls1 Q go12 s10 t16) (0, 0, false, 0, ()) h18
def law4_HistKeeps.j9 (calls1 : Sl) (Q : Bool → Heap → Prop) (go12 : (Int × Unit) → Heap → Prop) (s10 : (Int × Unit)) (t16 : Den kapiCall) (s34 : (Bool × Unit)) (h35 : Heap) : Prop :=
    ((s34.1 = true →
    law4_HistKeeps.j1 go12 s10 () h35) ∧
    (s34.1 = false →
    law4_HistKeeps.j8 calls1 Q go12 s10 t16 () h35))
def law4_HistKeeps.l10 (calls1 : Sl) (Q : Bool → Heap → Prop) (go12 : (Int × Unit) → Heap → Prop) (s10 : (Int × Unit)) (h11 : Heap) : Prop :=
    (((decide (s10.1 < (calls1.len : Int))) = true →
    (0 ≤ s10.1 ∧ s10.1 < (calls1.len : Int)) ∧
    deref calls1.a fun a15 =>
    ld kapiCall h11 (a15.add ((s10.1 : Int).toNat * 7)) fun t16 =>
    (((decide (t16.2.1 = 0)) = true →
    law4_HistKeeps.j9 calls1 Q go12 s10 t16 (true, ()) h11) ∧
    ((decide (t16.2.1 = 0)) = false →
    law4_HistKeeps.j9 calls1 Q go12 s10 t16 ((decide (t16.2.2.2.2.2.1 ≠ 4)), ()) h11))) ∧
    ((decide (s10.1 < (calls1.len : Int))) = false →
    Q true h11))
def law4_HistKeeps.j11 (calls1 : Sl) (Q : Bool → Heap → Prop) (s8 : Unit) (h9 : Heap) : Prop :=
    Loop (law4_HistKeeps.l10 calls1 Q) (0, ()) h9
def law4_HistKeeps.j12 (calls1 : Sl) (Q : Bool → Heap → Prop) (r4 : (Sl × (Int × Unit))) (s36 : (Bool × Unit)) (h37 : Heap) : Prop :=
    ((s36.1 = true →
    Q (decide (r4.2.1 = 0)) h37) ∧
    (s36.1 = false →
    law4_HistKeeps.j11 calls1 Q () h37))
def law4_HistKeeps.M (c_hist_Order : Sl → Int → Heap → ((Sl × (Int × Unit)) → Heap → Prop) → Prop) (calls1 : Sl) (most2 : Int) (h3 : Heap) (Q : Bool → Heap → Prop) : Prop :=
    c_hist_Order ⟨none, 0, 0⟩ 1 h3 fun r4 h5 =>
    c_hist_Order calls1 most2 h5 fun r6 h7 =>
    (((decide (r4.2.1 ≠ 0)) = true →
    law4_HistKeeps.j12 calls1 Q r4 (true, ()) h7) ∧
    ((decide (r4.2.1 ≠ 0)) = false →
    law4_HistKeeps.j12 calls1 Q r4 ((decide (r6.2.1 ≠ 0)), ()) h7))
def law4_HistKeeps.mk : Mk := (.s .d (.s .d (.s .d (.j [] (.j [.slot 31 .bool] .d (.c (.s .d .d) .d)) (.s (.s .d (.b (.l [.slot 9 (.int .i64)] (.s (.s .d (.c .d .d)) (.j [] (.b (.s (.r [4]) (.j [] (.j [.slot 51 .bool] .d (.c .d .d)) (.s .d (.s .d (.s .d (.s (.s .d (.b (.l [.slot 11 (.int .i64), .slot 12 (.int .i64), .slot 13 .bool, .slot 14 (.int .i64)] (.s (.s .d (.c .d .d)) (.j [.slot 11 (.int .i64), .slot 12 (.int .i64), .slot 13 .bool] (.b (.s (.r [4]) (.j [.slot 11 (.int .i64)] (.j [.slot 76 .bool] .d (.c .d .d)) (.j [.slot 93 .bool] .d (.c (.s .d .d) .d))))) .d))))) (.j [.slot 110 .bool] .d (.c (.s .d .d) .d))))))))) .d))))) (.s .d .d))))))

def law4_HistWitness.j1 (c_hist_Order : Sl → Int → Heap → ((Sl × (Int × Unit)) → Heap → Prop) → Prop) (c_hist_Legal : Sl → Int → Sl → Heap → (Bool → Heap → Prop) → Prop) (c_hist_Cut : Sl → Int → Heap → (Sl → Heap → Prop) → Prop) (pick4 : Int) (Q : Bool → Heap → Prop) (r6 : Int) (r23 : Sl) (s27 : Unit) (h28 : Heap) : Prop :=
    c_hist_Cut r23 pick4 h28 fun r29 h30 =>
    c_hist_Order r29 (w64 (1 + r6)) h30 fun r31 h32 =>
    (((decide (r31.2.1 = 0)) = true →
    c_hist_Legal r29 (w64 (1 + r6)) r31.1 h32 fun r33 h34 =>
    Q r33 h34) ∧
    ((decide (r31.2.1 = 0)) = false →
    Q false h32))
def law4_HistWitness.j2 (c_hist_Order : Sl → Int → Heap → ((Sl × (Int × Unit)) → Heap → Prop) → Prop) (c_hist_Legal : Sl → Int → Sl → Heap → (Bool → Heap → Prop) → Prop) (c_hist_Cut : Sl → Int → Heap → (Sl → Heap → Prop) → Prop) (pick4 : Int) (Q : Bool → Heap → Prop) (r6 : Int) (r23 : Sl) (s35 : (Bool × Unit)) (h36 : Heap) : Prop :=
    ((s35.1 = true →
    Q false h36) ∧
    (s35.1 = false →
    law4_HistWitness.j1 c_hist_Order c_hist_Legal c_hist_Cut pick4 Q r6 r23 () h36))
def law4_HistWitness.l3 (c_hist_Order : Sl → Int → Heap → ((Sl × (Int × Unit)) → Heap → Prop) → Prop) (c_law4_widened : Sl → Sl → Heap → (Sl → Heap → Prop) → Prop) (c_hist_Legal : Sl → Int → Sl → Heap → (Bool → Heap → Prop) → Prop) (c_hist_Cut : Sl → Int → Heap → (Sl → Heap → Prop) → Prop) (wide3 : Sl) (pick4 : Int) (Q : Bool → Heap → Prop) (r6 : Int) (r10 : (Sl × (Sl × (Int × Unit)))) (r14 : (Sl × (Int × Unit))) (go20 : (Int × Unit) → Heap → Prop) (s18 : (Int × Unit)) (h19 : Heap) : Prop :=
    (((decide (s18.1 < (r14.1.len : Int))) = true →
    (0 ≤ s18.1 ∧ s18.1 < (r14.1.len : Int)) ∧
    deref r14.1.a fun a21 =>
    ld ((.int .i64) : Kd) h19 (a21.add ((s18.1 : Int).toNat * 1)) fun t22 =>
    (((decide (t22 ≠ s18.1)) = true →
    Q false h19) ∧
    ((decide (t22 ≠ s18.1)) = false →
    go20 ((w64 (s18.1 + 1)), ()) h19))) ∧
    ((decide (s18.1 < (r14.1.len : Int))) = false →
    c_law4_widened r10.1 wide3 h19 fun r23 h24 =>
    c_hist_Order r23 (w64 (1 + r6)) h24 fun r25 h26 =>
    (((decide (r25.2.1 ≠ 0)) = true →
    law4_HistWitness.j2 c_hist_Order c_hist_Legal c_hist_Cut pick4 Q r6 r23 (true, ()) h26) ∧
    ((decide (r25.2.1 ≠ 0)) = false →
    (((decide ((r25.1.len : Int) ≠ (r23.len : Int))) = true →
    law4_HistWitness.j2 c_hist_Order c_hist_Legal c_hist_Cut pick4 Q r6 r23 (true, ()) h26) ∧
    ((decide ((r25.1.len : Int) ≠ (r23.len : Int))) = false →
    c_hist_Legal r23 (w64 (1 + r6)) r25.1 h26 fun r37 h38 =>
    (((!r37) = true →
    law4_HistWitness.j2 c_hist_Order c_hist_Legal c_hist_Cut pick4 Q r6 r23 (true, ()) h38) ∧
    ((!r37) = false →
    c_hist_Legal r23 (w64 (1 + r6)) r14.1 h38 fun r39 h40 =>
    law4_HistWitness.j2 c_hist_Order c_hist_Legal c_hist_Cut pick4 Q r6 r23 ((!r39), ()) h40))))))))
def law4_HistWitness.j4 (c_hist_Order : Sl → Int → Heap → ((Sl × (Int × Unit)) → Heap → Prop) → Prop) (c_law4_widened : Sl → Sl → Heap → (Sl → Heap → Prop) → Prop) (c_hist_Legal : Sl → Int → Sl → Heap → (Bool → Heap → Prop) → Prop) (c_hist_Cut : Sl → Int → Heap → (Sl → Heap → Prop) → Prop) (wide3 : Sl) (pick4 : Int) (Q : Bool → Heap → Prop) (r6 : Int) (r10 : (Sl × (Sl × (Int × Unit)))) (r14 : (Sl × (Int × Unit))) (s16 : Unit) (h17 : Heap) : Prop :=
    Loop (law4_HistWitness.l3 c_hist_Order c_law4_widened c_hist_Legal c_hist_Cut wide3 pick4 Q r6 r10 r14) (0, ()) h17
def law4_HistWitness.j5 (c_hist_Order : Sl → Int → Heap → ((Sl × (Int × Unit)) → Heap → Prop) → Prop) (c_law4_widened : Sl → Sl → Heap → (Sl → Heap → Prop) → Prop) (c_hist_Legal : Sl → Int → Sl → Heap → (Bool → Heap → Prop) → Prop) (c_hist_Cut : Sl → Int → Heap → (Sl → Heap → Prop) → Prop) (wide3 : Sl) (pick4 : Int) (Q : Bool → Heap → Prop) (r6 : Int) (r10 : (Sl × (Sl × (Int × Unit)))) (r14 : (Sl × (Int × Unit))) (s41 : (Bool × Unit)) (h42 : Heap) : Prop :=
    ((s41.1 = true →
    Q false h42) ∧
    (s41.1 = false →
    law4_HistWitness.j4 c_hist_Order c_law4_widened c_hist_Legal c_hist_Cut wide3 pick4 Q r6 r10 r14 () h42))
def law4_HistWitness.j6 (c_hist_Order : Sl → Int → Heap → ((Sl × (Int × Unit)) → Heap → Prop) → Prop) (c_law4_widened : Sl → Sl → Heap → (Sl → Heap → Prop) → Prop) (c_hist_Legal : Sl → Int → Sl → Heap → (Bool → Heap → Prop) → Prop) (c_hist_Cut : Sl → Int → Heap → (Sl → Heap → Prop) → Prop) (wide3 : Sl) (pick4 : Int) (Q : Bool → Heap → Prop) (r6 : Int) (r10 : (Sl × (Sl × (Int × Unit)))) (s12 : Unit) (h13 : Heap) : Prop :=
    c_hist_Order r10.1 (w64 (1 + r6)) h13 fun r14 h15 =>
    (((decide (r14.2.1 ≠ 0)) = true →
    law4_HistWitness.j5 c_hist_Order c_law4_widened c_hist_Legal c_hist_Cut wide3 pick4 Q r6 r10 r14 (true, ()) h15) ∧
    ((decide (r14.2.1 ≠ 0)) = false →
    law4_HistWitness.j5 c_hist_Order c_law4_widened c_hist_Legal c_hist_Cut wide3 pick4 Q r6 r10 r14 ((decide ((r14.1.len : Int) ≠ (r10.1.len : Int))), ()) h15))
def law4_HistWitness.j7 (c_hist_Order : Sl → Int → Heap → ((Sl × (Int × Unit)) → Heap → Prop) → Prop) (c_law4_widened : Sl → Sl → Heap → (Sl → Heap → Prop) → Prop) (c_hist_Legal : Sl → Int → Sl → Heap → (Bool → Heap → Prop) → Prop) (c_hist_Cut : Sl → Int → Heap → (Sl → Heap → Prop) → Prop) (wide3 : Sl) (pick4 : Int) (Q : Bool → Heap → Prop) (r6 : Int) (r10 : (Sl × (Sl × (Int × Unit)))) (s43 : (Bool × Unit)) (h44 : Heap) : Prop :=
    ((s43.1 = true →
    Q false h44) ∧
    (s43.1 = false →
    law4_HistWitness.j6 c_hist_Order c_law4_widened c_hist_Legal c_hist_Cut wide3 pick4 Q r6 r10 () h44))
def law4_HistWitness.j8 (c_hist_Serial : Sl → Int → Heap → ((Sl × (Sl × (Int × Unit))) → Heap → Prop) → Prop) (c_hist_Order : Sl → Int → Heap → ((Sl × (Int × Unit)) → Heap → Prop) → Prop) (c_law4_widened : Sl → Sl → Heap → (Sl → Heap → Prop) → Prop) (c_hist_Legal : Sl → Int → Sl → Heap → (Bool → Heap → Prop) → Prop) (c_hist_Cut : Sl → Int → Heap → (Sl → Heap → Prop) → Prop) (wide3 : Sl) (pick4 : Int) (Q : Bool → Heap → Prop) (r6 : Int) (s8 : (Sl × Unit)) (h9 : Heap) : Prop :=
    c_hist_Serial s8.1 (w64 (1 + r6)) h9 fun r10 h11 =>
    (((decide (r10.2.2.1 ≠ 0)) = true →
    law4_HistWitness.j7 c_hist_Order c_law4_widened c_hist_Legal c_hist_Cut wide3 pick4 Q r6 r10 (true, ()) h11) ∧
    ((decide (r10.2.2.1 ≠ 0)) = false →
    law4_HistWitness.j7 c_hist_Order c_law4_widened c_hist_Legal c_hist_Cut wide3 pick4 Q r6 r10 ((decide ((r10.1.len : Int) ≠ (s8.1.len : Int))), ()) h11))
def law4_HistWitness.j9 (c_law4_mod : Int → Int → Heap → (Int → Heap → Prop) → Prop) (todos1 : Sl) (go47 : (Sl × (Int × Unit)) → Heap → Prop) (s45 : (Sl × (Int × Unit))) (s48 : Unit) (h49 : Heap) : Prop :=
    (0 ≤ s45.2.1 ∧ s45.2.1 < (todos1.len : Int)) ∧
    deref todos1.a fun a50 =>
    (0 ≤ s45.2.1 ∧ s45.2.1 < (todos1.len : Int)) ∧
    deref todos1.a fun a51 =>
    ld ((.int .i64) : Kd) h49 ((a50.add ((s45.2.1 : Int).toNat * 2)).add 0) fun t52 =>
    ld ((.int .i64) : Kd) h49 ((a51.add ((s45.2.1 : Int).toNat * 2)).add 1) fun t53 =>
    c_law4_mod t52 3 h49 fun r54 h55 =>
    sees h55 (some ((a51.add ((s45.2.1 : Int).toNat * 2)).add 1)) ((.int .i64) : Kd) t53 ∧
    new h55 (([(r54, (t53, ()))] : List (Den kapiTodo)).flatMap (Kd.cells kapiTodo)) fun p56 h57 =>
    appendM 2 16 h57 s45.1 ⟨some p56, 1, 1⟩ fun t58 h59 =>
    go47 (t58, (w64 (s45.2.1 + 1)), ()) h59
def law4_HistWitness.j10 (c_law4_mod : Int → Int → Heap → (Int → Heap → Prop) → Prop) (c_hist_Serial : Sl → Int → Heap → ((Sl × (Sl × (Int × Unit))) → Heap → Prop) → Prop) (c_hist_Order : Sl → Int → Heap → ((Sl × (Int × Unit)) → Heap → Prop) → Prop) (c_law4_widened : Sl → Sl → Heap → (Sl → Heap → Prop) → Prop) (c_hist_Legal : Sl → Int → Sl → Heap → (Bool → Heap → Prop) → Prop) (c_hist_Cut : Sl → Int → Heap → (Sl → Heap → Prop) → Prop) (todos1 : Sl) (wide3 : Sl) (pick4 : Int) (Q : Bool → Heap → Prop) (r6 : Int) (go47 : (Sl × (Int × Unit)) → Heap → Prop) (s45 : (Sl × (Int × Unit))) (s60 : (Bool × Unit)) (h61 : Heap) : Prop :=
    ((s60.1 = true →
    law4_HistWitness.j9 c_law4_mod todos1 go47 s45 () h61) ∧
    (s60.1 = false →
    law4_HistWitness.j8 c_hist_Serial c_hist_Order c_law4_widened c_hist_Legal c_hist_Cut wide3 pick4 Q r6 (s45.1, ()) h61))
def law4_HistWitness.l11 (c_law4_mod : Int → Int → Heap → (Int → Heap → Prop) → Prop) (c_hist_Serial : Sl → Int → Heap → ((Sl × (Sl × (Int × Unit))) → Heap → Prop) → Prop) (c_hist_Order : Sl → Int → Heap → ((Sl × (Int × Unit)) → Heap → Prop) → Prop) (c_law4_widened : Sl → Sl → Heap → (Sl → Heap → Prop) → Prop) (c_hist_Legal : Sl → Int → Sl → Heap → (Bool → Heap → Prop) → Prop) (c_hist_Cut : Sl → Int → Heap → (Sl → Heap → Prop) → Prop) (todos1 : Sl) (wide3 : Sl) (pick4 : Int) (Q : Bool → Heap → Prop) (r6 : Int) (go47 : (Sl × (Int × Unit)) → Heap → Prop) (s45 : (Sl × (Int × Unit))) (h46 : Heap) : Prop :=
    (((decide (s45.2.1 < (todos1.len : Int))) = true →
    law4_HistWitness.j10 c_law4_mod c_hist_Serial c_hist_Order c_law4_widened c_hist_Legal c_hist_Cut todos1 wide3 pick4 Q r6 go47 s45 ((decide (s45.2.1 < 40)), ()) h46) ∧
    ((decide (s45.2.1 < (todos1.len : Int))) = false →
    law4_HistWitness.j10 c_law4_mod c_hist_Serial c_hist_Order c_law4_widened c_hist_Legal c_hist_Cut todos1 wide3 pick4 Q r6 go47 s45 (false, ()) h46))
def law4_HistWitness.M (c_law4_mod : Int → Int → Heap → (Int → Heap → Prop) → Prop) (c_hist_Serial : Sl → Int → Heap → ((Sl × (Sl × (Int × Unit))) → Heap → Prop) → Prop) (c_hist_Order : Sl → Int → Heap → ((Sl × (Int × Unit)) → Heap → Prop) → Prop) (c_law4_widened : Sl → Sl → Heap → (Sl → Heap → Prop) → Prop) (c_hist_Legal : Sl → Int → Sl → Heap → (Bool → Heap → Prop) → Prop) (c_hist_Cut : Sl → Int → Heap → (Sl → Heap → Prop) → Prop) (todos1 : Sl) (most2 : Int) (wide3 : Sl) (pick4 : Int) (h5 : Heap) (Q : Bool → Heap → Prop) : Prop :=
    c_law4_mod most2 12 h5 fun r6 h7 =>
    Loop (law4_HistWitness.l11 c_law4_mod c_hist_Serial c_hist_Order c_law4_widened c_hist_Legal c_hist_Cut todos1 wide3 pick4 Q r6) (⟨none, 0, 0⟩, 0, ()) h7
def law4_HistWitness.mk : Mk := (.s .d (.s .d (.s .d (.j [.slot 9 .sl] (.s .d (.b (.l [.slot 9 .sl, .slot 10 (.int .i64)] (.j [] (.j [.slot 33 .bool] .d (.c .d .d)) (.s (.b (.q [] [] [.p 0, .p 1, .p 2, .p 3, .p 4, .p 7, .p 8, .p 9, .p 10, .w 5 [5, 6, 12, 13, 14, 15], .w 11 [11, 12, 13, 14, 15], .o 6, .p 12, .o 13, .o 14, .p 15])) .d))))) (.s .d (.j [] (.j [.slot 66 .bool] .d (.c (.s .d .d) .d)) (.s .d (.j [] (.j [.slot 81 .bool] .d (.c (.s .d .d) .d)) (.s (.s .d (.b (.l [.slot 16 (.int .i64)] (.s (.s .d (.c .d .d)) (.s (.b (.s .d (.c (.s .d .d) .d))) .d))))) (.s .d (.s .d (.j [] (.j [.slot 125 .bool] .d (.c (.s .d .d) .d)) (.s .d (.s .d (.s .d .d)))))))))))))))

def law4_moved.l1 (calls1 : Sl) (Q : Sl → Heap → Prop) (go5 : (Sl × (Int × Unit)) → Heap → Prop) (s3 : (Sl × (Int × Unit))) (h4 : Heap) : Prop :=
    (((decide (s3.2.1 < (calls1.len : Int))) = true →
    (0 ≤ s3.2.1 ∧ s3.2.1 < (calls1.len : Int)) ∧
    deref calls1.a fun a6 =>
    ld kapiCall h4 (a6.add ((s3.2.1 : Int).toNat * 7)) fun t7 =>
    new h4 (([(t7.1, (t7.2.1, (t7.2.2.1, ((w64 (t7.2.2.2.1 - 1)), (t7.2.2.2.2.1, (t7.2.2.2.2.2.1, ((w64 (t7.2.2.2.2.2.2.1 + 1)), ())))))))] : List (Den kapiCall)).flatMap (Kd.cells kapiCall)) fun p8 h9 =>
    appendM 7 56 h9 s3.1 ⟨some p8, 1, 1⟩ fun t10 h11 =>
    go5 (t10, (w64 (s3.2.1 + 1)), ()) h11) ∧
    ((decide (s3.2.1 < (calls1.len : Int))) = false →
    new h4 (([((-77), (0, (0, (0, (0, (0, (0, ())))))))] : List (Den kapiCall)).flatMap (Kd.cells kapiCall)) fun p12 h13 =>
    appendM 7 56 h13 s3.1 ⟨some p12, 1, 1⟩ fun t14 h15 =>
    (0 ≤ (calls1.len : Int) ∧ (calls1.len : Int) ≤ (t14.cap : Int)) ∧
    Q (t14.cut 0 (((calls1.len : Int) : Int).toNat) 7) h15))
def law4_moved.M  (calls1 : Sl) (h2 : Heap) (Q : Sl → Heap → Prop) : Prop :=
    Loop (law4_moved.l1 calls1 Q) (⟨none, 0, 0⟩, 0, ()) h2
def law4_moved.mk : Mk := (.s .d (.s .d (.s (.s .d (.b (.l [.slot 3 .sl, .slot 4 (.int .i64)] (.s (.s .d (.c .d .d)) (.s (.b (.s (.r [4]) (.s .d (.s .d .d)))) .d))))) (.s .d (.s .d .d)))))

def hist_Cut.j1 (go6 : (Sl × (Int × Unit)) → Heap → Prop) (s4 : (Sl × (Int × Unit))) (s7 : (Sl × Unit)) (h8 : Heap) : Prop :=
    go6 (s7.1, (w64 (s4.2.1 + 1)), ()) h8
def hist_Cut.j2 (go6 : (Sl × (Int × Unit)) → Heap → Prop) (s4 : (Sl × (Int × Unit))) (s11 : (Den kapiCall × Unit)) (h12 : Heap) : Prop :=
    new h12 (([(s11.1.1, (s11.1.2.1, (s11.1.2.2.1, (s11.1.2.2.2.1, (s11.1.2.2.2.2.1, (s11.1.2.2.2.2.2.1, (s11.1.2.2.2.2.2.2.1, ())))))))] : List (Den kapiCall)).flatMap (Kd.cells kapiCall)) fun p13 h14 =>
    appendM 7 56 h14 s4.1 ⟨some p13, 1, 1⟩ fun t15 h16 =>
    hist_Cut.j1 go6 s4 (t15, ()) h16
def hist_Cut.l3 (calls1 : Sl) (pick2 : Int) (Q : Sl → Heap → Prop) (go6 : (Sl × (Int × Unit)) → Heap → Prop) (s4 : (Sl × (Int × Unit))) (h5 : Heap) : Prop :=
    (((decide (s4.2.1 < (calls1.len : Int))) = true →
    (0 ≤ s4.2.1 ∧ s4.2.1 < (calls1.len : Int)) ∧
    deref calls1.a fun a9 =>
    ld kapiCall h5 (a9.add ((s4.2.1 : Int).toNat * 7)) fun t10 =>
    (((decide (pick2 ≤ t10.2.2.2.1)) = true →
    hist_Cut.j1 go6 s4 (s4.1, ()) h5) ∧
    ((decide (pick2 ≤ t10.2.2.2.1)) = false →
    (((decide (pick2 ≤ t10.2.2.2.2.1)) = true →
    hist_Cut.j2 go6 s4 ((t10.1, (t10.2.1, (t10.2.2.1, (t10.2.2.2.1, ((-1), (0, (0, ()))))))), ()) h5) ∧
    ((decide (pick2 ≤ t10.2.2.2.2.1)) = false →
    hist_Cut.j2 go6 s4 ((t10.1, (t10.2.1, (t10.2.2.1, (t10.2.2.2.1, (t10.2.2.2.2.1, (t10.2.2.2.2.2.1, (t10.2.2.2.2.2.2.1, ()))))))), ()) h5))))) ∧
    ((decide (s4.2.1 < (calls1.len : Int))) = false →
    Q s4.1 h5))
def hist_Cut.M  (calls1 : Sl) (pick2 : Int) (h3 : Heap) (Q : Sl → Heap → Prop) : Prop :=
    Loop (hist_Cut.l3 calls1 pick2 Q) (⟨none, 0, 0⟩, 0, ()) h3
def hist_Cut.mk : Mk := (.s .d (.s .d (.s (.s .d (.b (.l [.slot 5 .sl, .slot 10 (.int .i64)] (.s .d (.s (.c .d .d) (.j [.slot 5 .sl] (.b (.s (.r [2]) (.s (.s .d (.c .d .d)) (.j [.box 7 kapiCall] (.s .d (.c .d .d)) .d)))) .d)))))) (.s .d .d))))

def law4_back.l1 (l1 : Sl) (calls2 : Sl) (Q : Unit → Heap → Prop) (go6 : (Int × Unit) → Heap → Prop) (s4 : (Int × Unit)) (h5 : Heap) : Prop :=
    (((decide (s4.1 < (calls2.len : Int))) = true →
    (0 ≤ s4.1 ∧ s4.1 < (calls2.len : Int)) ∧
    deref calls2.a fun a7 =>
    ld kapiCall h5 (a7.add ((s4.1 : Int).toNat * 7)) fun t8 =>
    (0 ≤ s4.1 ∧ s4.1 < (l1.len : Int)) ∧
    deref l1.a fun a9 =>
    st kapiCall h5 (a9.add ((s4.1 : Int).toNat * 7)) t8 fun h10 =>
    go6 ((w64 (s4.1 + 1)), ()) h10) ∧
    ((decide (s4.1 < (calls2.len : Int))) = false →
    Q () h5))
def law4_back.M  (l1 : Sl) (calls2 : Sl) (h3 : Heap) (Q : Unit → Heap → Prop) : Prop :=
    Loop (law4_back.l1 l1 calls2 Q) (0, ()) h3
def law4_back.mk : Mk := (.s .d (.b (.l [.slot 4 (.int .i64)] (.s (.s .d (.c .d .d)) (.s (.b .d) .d)))))

def ref4_Cut.j1 (go6 : (Sl × (Int × Unit)) → Heap → Prop) (s4 : (Sl × (Int × Unit))) (s7 : (Sl × Unit)) (h8 : Heap) : Prop :=
    go6 (s7.1, (w64 (s4.2.1 + 1)), ()) h8
def ref4_Cut.j2 (go6 : (Sl × (Int × Unit)) → Heap → Prop) (s4 : (Sl × (Int × Unit))) (s11 : (Den kapiCall × Unit)) (h12 : Heap) : Prop :=
    new h12 (([(s11.1.1, (s11.1.2.1, (s11.1.2.2.1, (s11.1.2.2.2.1, (s11.1.2.2.2.2.1, (s11.1.2.2.2.2.2.1, (s11.1.2.2.2.2.2.2.1, ())))))))] : List (Den kapiCall)).flatMap (Kd.cells kapiCall)) fun p13 h14 =>
    appendM 7 56 h14 s4.1 ⟨some p13, 1, 1⟩ fun t15 h16 =>
    ref4_Cut.j1 go6 s4 (t15, ()) h16
def ref4_Cut.l3 (calls1 : Sl) (pick2 : Int) (Q : Sl → Heap → Prop) (go6 : (Sl × (Int × Unit)) → Heap → Prop) (s4 : (Sl × (Int × Unit))) (h5 : Heap) : Prop :=
    (((decide (s4.2.1 < (calls1.len : Int))) = true →
    (0 ≤ s4.2.1 ∧ s4.2.1 < (calls1.len : Int)) ∧
    deref calls1.a fun a9 =>
    ld kapiCall h5 (a9.add ((s4.2.1 : Int).toNat * 7)) fun t10 =>
    (((decide (pick2 ≤ t10.2.2.2.1)) = true →
    ref4_Cut.j1 go6 s4 (s4.1, ()) h5) ∧
    ((decide (pick2 ≤ t10.2.2.2.1)) = false →
    (((decide (pick2 ≤ t10.2.2.2.2.1)) = true →
    ref4_Cut.j2 go6 s4 ((t10.1, (t10.2.1, (t10.2.2.1, (t10.2.2.2.1, ((-1), (0, (0, ()))))))), ()) h5) ∧
    ((decide (pick2 ≤ t10.2.2.2.2.1)) = false →
    ref4_Cut.j2 go6 s4 ((t10.1, (t10.2.1, (t10.2.2.1, (t10.2.2.2.1, (t10.2.2.2.2.1, (t10.2.2.2.2.2.1, (t10.2.2.2.2.2.2.1, ()))))))), ()) h5))))) ∧
    ((decide (s4.2.1 < (calls1.len : Int))) = false →
    Q s4.1 h5))
def ref4_Cut.M  (calls1 : Sl) (pick2 : Int) (h3 : Heap) (Q : Sl → Heap → Prop) : Prop :=
    Loop (ref4_Cut.l3 calls1 pick2 Q) (⟨none, 0, 0⟩, 0, ()) h3
def ref4_Cut.mk : Mk := (.s .d (.s .d (.s (.s .d (.b (.l [.slot 5 .sl, .slot 6 (.int .i64)] (.s (.s .d (.c .d .d)) (.j [.slot 5 .sl] (.b (.s (.r [4]) (.s (.s .d (.c .d .d)) (.j [.box 7 kapiCall] (.s .d (.c (.s .d (.s .d .d)) .d)) .d)))) .d))))) (.s .d .d))))

def law4_same.l1 (a1 : Sl) (b2 : Sl) (Q : Bool → Heap → Prop) (go6 : (Int × Unit) → Heap → Prop) (s4 : (Int × Unit)) (h5 : Heap) : Prop :=
    (((decide (s4.1 < (a1.len : Int))) = true →
    (0 ≤ s4.1 ∧ s4.1 < (a1.len : Int)) ∧
    deref a1.a fun a7 =>
    (0 ≤ s4.1 ∧ s4.1 < (b2.len : Int)) ∧
    deref b2.a fun a8 =>
    ld kapiCall h5 (a7.add ((s4.1 : Int).toNat * 7)) fun t9 =>
    ld kapiCall h5 (a8.add ((s4.1 : Int).toNat * 7)) fun t10 =>
    (((!(eqK kapiCall t9 t10)) = true →
    Q false h5) ∧
    ((!(eqK kapiCall t9 t10)) = false →
    go6 ((w64 (s4.1 + 1)), ()) h5))) ∧
    ((decide (s4.1 < (a1.len : Int))) = false →
    Q true h5))
def law4_same.M  (a1 : Sl) (b2 : Sl) (h3 : Heap) (Q : Bool → Heap → Prop) : Prop :=
    (((decide ((a1.len : Int) ≠ (b2.len : Int))) = true →
    Q false h3) ∧
    ((decide ((a1.len : Int) ≠ (b2.len : Int))) = false →
    Loop (law4_same.l1 a1 b2 Q) (0, ()) h3))
def law4_same.mk : Mk := (.s .d (.s (.s .d (.c (.s .d .d) .d)) (.s (.s .d (.b (.l [.slot 5 (.int .i64)] (.s (.s .d (.c .d .d)) (.s (.b (.s (.q [] [] [.p 0, .p 1, .p 2, .p 4, .p 5, .p 6, .w 3 [3, 8], .w 7 [7, 8], .p 8]) (.c (.s .d .d) .d))) .d))))) (.s .d .d))))

def law4_marked.M  (l1 : Sl) (h2 : Heap) (Q : Bool → Heap → Prop) : Prop :=
    (0 ≤ (w64 ((l1.len : Int) + 1)) ∧ (w64 ((l1.len : Int) + 1)) ≤ (l1.cap : Int)) ∧
    (0 ≤ (l1.len : Int) ∧ (l1.len : Int) < ((l1.cut 0 (((w64 ((l1.len : Int) + 1)) : Int).toNat) 7).len : Int)) ∧
    deref (l1.cut 0 (((w64 ((l1.len : Int) + 1)) : Int).toNat) 7).a fun a3 =>
    ld kapiCall h2 (a3.add (((l1.len : Int) : Int).toNat * 7)) fun t4 =>
    Q (eqK kapiCall t4 ((-77), (0, (0, (0, (0, (0, (0, ())))))))) h2
def law4_marked.mk : Mk := (.s .d (.s .d (.s .d .d)))

def hist_Serial.j1 (go8 : (Int × Unit) → Heap → Prop) (s6 : (Int × Unit)) (s9 : Unit) (h10 : Heap) : Prop :=
    go8 ((w64 (s6.1 + 1)), ()) h10
def hist_Serial.j2 (Q : (Sl × (Sl × (Int × Unit))) → Heap → Prop) (go8 : (Int × Unit) → Heap → Prop) (s6 : (Int × Unit)) (s13 : (Bool × Unit)) (h14 : Heap) : Prop :=
    ((s13.1 = true →
    Q (⟨none, 0, 0⟩, ⟨none, 0, 0⟩, 31, ()) h14) ∧
    (s13.1 = false →
    hist_Serial.j1 go8 s6 () h14))
def hist_Serial.j3 (go17 : (Sl × (Sl × (Int × Unit))) → Heap → Prop) (s15 : (Sl × (Sl × (Int × Unit)))) (s18 : (Sl × (Sl × Unit))) (h19 : Heap) : Prop :=
    go17 (s18.1, s18.2.1, (w64 (s15.2.2.1 + 1)), ()) h19
def hist_Serial.j4 (c_hist_row_does : Sl → Den kapiCall → Int → Heap → ((Sl × (Bool × Unit)) → Heap → Prop) → Prop) (most2 : Int) (go17 : (Sl × (Sl × (Int × Unit))) → Heap → Prop) (s15 : (Sl × (Sl × (Int × Unit)))) (s24 : (Den kapiCall × Unit)) (h25 : Heap) : Prop :=
    c_hist_row_does s15.2.1 (s24.1.1, (s24.1.2.1, (s24.1.2.2.1, (s24.1.2.2.2.1, (s24.1.2.2.2.2.1, (s24.1.2.2.2.2.2.1, (s24.1.2.2.2.2.2.2.1, ()))))))) most2 h25 fun r26 h27 =>
    new h27 (([(s24.1.1, (s24.1.2.1, (s24.1.2.2.1, (s24.1.2.2.2.1, (s24.1.2.2.2.2.1, (s24.1.2.2.2.2.2.1, (s24.1.2.2.2.2.2.2.1, ())))))))] : List (Den kapiCall)).flatMap (Kd.cells kapiCall)) fun p28 h29 =>
    appendM 7 56 h29 s15.1 ⟨some p28, 1, 1⟩ fun t30 h31 =>
    hist_Serial.j3 go17 s15 (t30, r26.1, ()) h31
def hist_Serial.j5 (c_hist_row_does : Sl → Den kapiCall → Int → Heap → ((Sl × (Bool × Unit)) → Heap → Prop) → Prop) (most2 : Int) (go17 : (Sl × (Sl × (Int × Unit))) → Heap → Prop) (s15 : (Sl × (Sl × (Int × Unit)))) (t21 : Den kapiTodo) (s22 : (Den kapiCall × Unit)) (h23 : Heap) : Prop :=
    (((decide (t21.1 = 2)) = true →
    hist_Serial.j4 c_hist_row_does most2 go17 s15 ((1, (s22.1.2.1, (s22.1.2.2.1, (s22.1.2.2.2.1, (s22.1.2.2.2.2.1, (s22.1.2.2.2.2.2.1, (s22.1.2.2.2.2.2.2.1, ()))))))), ()) h23) ∧
    ((decide (t21.1 = 2)) = false →
    hist_Serial.j4 c_hist_row_does most2 go17 s15 ((s22.1.1, (s22.1.2.1, (s22.1.2.2.1, (s22.1.2.2.2.1, (s22.1.2.2.2.2.1, (s22.1.2.2.2.2.2.1, (s22.1.2.2.2.2.2.2.1, ()))))))), ()) h23))
def hist_Serial.l6 (c_hist_row_does : Sl → Den kapiCall → Int → Heap → ((Sl × (Bool × Unit)) → Heap → Prop) → Prop) (c_slices_Clone_int64_int64 : Sl → Heap → (Sl → Heap → Prop) → Prop) (todos1 : Sl) (most2 : Int) (Q : (Sl × (Sl × (Int × Unit))) → Heap → Prop) (go17 : (Sl × (Sl × (Int × Unit))) → Heap → Prop) (s15 : (Sl × (Sl × (Int × Unit)))) (h16 : Heap) : Prop :=
    (((decide (s15.2.2.1 < (todos1.len : Int))) = true →
    (0 ≤ s15.2.2.1 ∧ s15.2.2.1 < (todos1.len : Int)) ∧
    deref todos1.a fun a20 =>
    ld kapiTodo h16 (a20.add ((s15.2.2.1 : Int).toNat * 2)) fun t21 =>
    (((decide (t21.1 = 0)) = true →
    (((decide ((s15.2.1.len : Int) = most2)) = true →
    hist_Serial.j5 c_hist_row_does most2 go17 s15 t21 ((0, (t21.1, (t21.2.1, (s15.2.2.1, (s15.2.2.1, (3, (0, ()))))))), ()) h16) ∧
    ((decide ((s15.2.1.len : Int) = most2)) = false →
    hist_Serial.j5 c_hist_row_does most2 go17 s15 t21 ((0, (t21.1, (t21.2.1, (s15.2.2.1, (s15.2.2.1, (2, (0, ()))))))), ()) h16))) ∧
    ((decide (t21.1 = 0)) = false →
    (((decide ((s15.2.1.len : Int) = 0)) = true →
    hist_Serial.j5 c_hist_row_does most2 go17 s15 t21 ((0, (t21.1, (0, (s15.2.2.1, (s15.2.2.1, (5, (0, ()))))))), ()) h16) ∧
    ((decide ((s15.2.1.len : Int) = 0)) = false →
    (((decide (t21.1 = 1)) = true →
    (0 ≤ (w64 ((s15.2.1.len : Int) - 1)) ∧ (w64 ((s15.2.1.len : Int) - 1)) < (s15.2.1.len : Int)) ∧
    deref s15.2.1.a fun a32 =>
    ld ((.int .i64) : Kd) h16 (a32.add (((w64 ((s15.2.1.len : Int) - 1)) : Int).toNat * 1)) fun t33 =>
    hist_Serial.j5 c_hist_row_does most2 go17 s15 t21 ((0, (t21.1, (0, (s15.2.2.1, (s15.2.2.1, (4, (t33, ()))))))), ()) h16) ∧
    ((decide (t21.1 = 1)) = false →
    (0 ≤ (0 : Int) ∧ (0 : Int) < (s15.2.1.len : Int)) ∧
    deref s15.2.1.a fun a34 =>
    ld ((.int .i64) : Kd) h16 (a34.add (((0 : Int) : Int).toNat * 1)) fun t35 =>
    hist_Serial.j5 c_hist_row_does most2 go17 s15 t21 ((0, (t21.1, (0, (s15.2.2.1, (s15.2.2.1, (4, (t35, ()))))))), ()) h16))))))) ∧
    ((decide (s15.2.2.1 < (todos1.len : Int))) = false →
    c_slices_Clone_int64_int64 s15.2.1 h16 fun r36 h37 =>
    Q (s15.1, r36, 0, ()) h37))
def hist_Serial.l7 (c_hist_row_does : Sl → Den kapiCall → Int → Heap → ((Sl × (Bool × Unit)) → Heap → Prop) → Prop) (c_slices_Clone_int64_int64 : Sl → Heap → (Sl → Heap → Prop) → Prop) (todos1 : Sl) (most2 : Int) (Q : (Sl × (Sl × (Int × Unit))) → Heap → Prop) (go8 : (Int × Unit) → Heap → Prop) (s6 : (Int × Unit)) (h7 : Heap) : Prop :=
    (((decide (s6.1 < (todos1.len : Int))) = true →
    (0 ≤ s6.1 ∧ s6.1 < (todos1.len : Int)) ∧
    deref todos1.a fun a11 =>
    ld kapiTodo h7 (a11.add ((s6.1 : Int).toNat * 2)) fun t12 =>
    (((decide (t12.1 ≠ 0)) = true →
    (((decide (t12.1 ≠ 1)) = true →
    hist_Serial.j2 Q go8 s6 ((decide (t12.1 ≠ 2)), ()) h7) ∧
    ((decide (t12.1 ≠ 1)) = false →
    hist_Serial.j2 Q go8 s6 (false, ()) h7))) ∧
    ((decide (t12.1 ≠ 0)) = false →
    hist_Serial.j2 Q go8 s6 (false, ()) h7))) ∧
    ((decide (s6.1 < (todos1.len : Int))) = false →
    Loop (hist_Serial.l6 c_hist_row_does c_slices_Clone_int64_int64 todos1 most2 Q) (⟨none, 0, 0⟩, ⟨none, 0, 0⟩, 0, ()) h7))
def hist_Serial.M (c_hist_goodMost : Int → Heap → (Bool → Heap → Prop) → Prop) (c_hist_row_does : Sl → Den kapiCall → Int → Heap → ((Sl × (Bool × Unit)) → Heap → Prop) → Prop) (c_slices_Clone_int64_int64 : Sl → Heap → (Sl → Heap → Prop) → Prop) (todos1 : Sl) (most2 : Int) (h3 : Heap) (Q : (Sl × (Sl × (Int × Unit))) → Heap → Prop) : Prop :=
    (((decide ((40 : Int) < (todos1.len : Int))) = true →
    Q (⟨none, 0, 0⟩, ⟨none, 0, 0⟩, 2, ()) h3) ∧
    ((decide ((40 : Int) < (todos1.len : Int))) = false →
    c_hist_goodMost most2 h3 fun r4 h5 =>
    (((!r4) = true →
    Q (⟨none, 0, 0⟩, ⟨none, 0, 0⟩, 3, ()) h5) ∧
    ((!r4) = false →
    Loop (hist_Serial.l7 c_hist_row_does c_slices_Clone_int64_int64 todos1 most2 Q) (0, ()) h5))))
def hist_Serial.mk : Mk := (.s .d (.s (.s .d (.c (.s .d .d) .d)) (.s (.s .d (.c (.s .d .d) .d)) (.s (.s .d (.b (.l [.slot 22 (.int .i64)] (.s .d (.s (.c .d .d) (.j [] (.b (.s (.r [2]) (.j [.slot 38 .bool] .d (.c (.s .d .d) .d)))) .d)))))) (.s .d (.s .d (.s (.s .d (.b (.l [.slot 9 .sl, .slot 10 .sl, .slot 42 (.int .i64)] (.s .d (.s (.c .d .d) (.j [.slot 9 .sl, .slot 10 .sl] (.b (.s (.r [3]) (.s (.r [5]) (.j [.box 13 kapiCall] (.b (.s .d (.c (.s .d (.s .d (.c .d .d))) (.s .d (.c .d (.s .d (.c (.q [] [13] [.p 0, .p 1, .p 2, .p 3, .p 4, .p 6, .w 5 [5, 8, 9], .o 7, .p 8, .o 9]) (.q [] [13] [.p 0, .p 1, .p 3, .w 2 [2, 5, 6], .o 4, .p 5, .o 6])))))))) (.j [.box 13 kapiCall] (.s .d (.c .d .d)) (.s .d .d)))))) .d)))))) (.s .d .d))))))))

def ref4_Serial.j1 (go8 : (Int × Unit) → Heap → Prop) (s6 : (Int × Unit)) (s9 : Unit) (h10 : Heap) : Prop :=
    go8 ((w64 (s6.1 + 1)), ()) h10
def ref4_Serial.j2 (Q : (Sl × (Sl × (Int × Unit))) → Heap → Prop) (go8 : (Int × Unit) → Heap → Prop) (s6 : (Int × Unit)) (s11 : (Bool × Unit)) (h12 : Heap) : Prop :=
    ((s11.1 = true →
    Q (⟨none, 0, 0⟩, ⟨none, 0, 0⟩, 31, ()) h12) ∧
    (s11.1 = false →
    ref4_Serial.j1 go8 s6 () h12))
def ref4_Serial.l3 (c_ref4_asked : Sl → Den kapiTodo → Int → Heap → (Den kapiCall → Heap → Prop) → Prop) (c_ref4_Do : Sl → Den kapiCall → Int → Heap → ((Sl × (Bool × Unit)) → Heap → Prop) → Prop) (todos1 : Sl) (most2 : Int) (Q : (Sl × (Sl × (Int × Unit))) → Heap → Prop) (go19 : (Sl × (Sl × (Int × Unit))) → Heap → Prop) (s17 : (Sl × (Sl × (Int × Unit)))) (h18 : Heap) : Prop :=
    (((decide (s17.2.2.1 < (todos1.len : Int))) = true →
    (0 ≤ s17.2.2.1 ∧ s17.2.2.1 < (todos1.len : Int)) ∧
    deref todos1.a fun a20 =>
    ld kapiTodo h18 (a20.add ((s17.2.2.1 : Int).toNat * 2)) fun t21 =>
    c_ref4_asked s17.1 t21 most2 h18 fun r22 h23 =>
    c_ref4_Do s17.1 (r22.1, (r22.2.1, (r22.2.2.1, (s17.2.2.1, (s17.2.2.1, (r22.2.2.2.2.2.1, (r22.2.2.2.2.2.2.1, ()))))))) most2 h23 fun r24 h25 =>
    new h25 (([(r22.1, (r22.2.1, (r22.2.2.1, (s17.2.2.1, (s17.2.2.1, (r22.2.2.2.2.2.1, (r22.2.2.2.2.2.2.1, ())))))))] : List (Den kapiCall)).flatMap (Kd.cells kapiCall)) fun p26 h27 =>
    appendM 7 56 h27 s17.2.1 ⟨some p26, 1, 1⟩ fun t28 h29 =>
    go19 (r24.1, t28, (w64 (s17.2.2.1 + 1)), ()) h29) ∧
    ((decide (s17.2.2.1 < (todos1.len : Int))) = false →
    Q (s17.2.1, s17.1, 0, ()) h18))
def ref4_Serial.l4 (c_ref4_asked : Sl → Den kapiTodo → Int → Heap → (Den kapiCall → Heap → Prop) → Prop) (c_ref4_Do : Sl → Den kapiCall → Int → Heap → ((Sl × (Bool × Unit)) → Heap → Prop) → Prop) (todos1 : Sl) (most2 : Int) (Q : (Sl × (Sl × (Int × Unit))) → Heap → Prop) (go8 : (Int × Unit) → Heap → Prop) (s6 : (Int × Unit)) (h7 : Heap) : Prop :=
    (((decide (s6.1 < (todos1.len : Int))) = true →
    (0 ≤ s6.1 ∧ s6.1 < (todos1.len : Int)) ∧
    deref todos1.a fun a13 =>
    ld ((.int .i64) : Kd) h7 ((a13.add ((s6.1 : Int).toNat * 2)).add 0) fun t14 =>
    (((decide (t14 < 0)) = true →
    ref4_Serial.j2 Q go8 s6 (true, ()) h7) ∧
    ((decide (t14 < 0)) = false →
    (0 ≤ s6.1 ∧ s6.1 < (todos1.len : Int)) ∧
    deref todos1.a fun a15 =>
    ld ((.int .i64) : Kd) h7 ((a15.add ((s6.1 : Int).toNat * 2)).add 0) fun t16 =>
    ref4_Serial.j2 Q go8 s6 ((decide ((2 : Int) < t16)), ()) h7))) ∧
    ((decide (s6.1 < (todos1.len : Int))) = false →
    Loop (ref4_Serial.l3 c_ref4_asked c_ref4_Do todos1 most2 Q) (⟨none, 0, 0⟩, ⟨none, 0, 0⟩, 0, ()) h7))
def ref4_Serial.j5 (c_ref4_asked : Sl → Den kapiTodo → Int → Heap → (Den kapiCall → Heap → Prop) → Prop) (c_ref4_Do : Sl → Den kapiCall → Int → Heap → ((Sl × (Bool × Unit)) → Heap → Prop) → Prop) (todos1 : Sl) (most2 : Int) (Q : (Sl × (Sl × (Int × Unit))) → Heap → Prop) (s4 : Unit) (h5 : Heap) : Prop :=
    Loop (ref4_Serial.l4 c_ref4_asked c_ref4_Do todos1 most2 Q) (0, ()) h5
def ref4_Serial.j6 (c_ref4_asked : Sl → Den kapiTodo → Int → Heap → (Den kapiCall → Heap → Prop) → Prop) (c_ref4_Do : Sl → Den kapiCall → Int → Heap → ((Sl × (Bool × Unit)) → Heap → Prop) → Prop) (todos1 : Sl) (most2 : Int) (Q : (Sl × (Sl × (Int × Unit))) → Heap → Prop) (s30 : (Bool × Unit)) (h31 : Heap) : Prop :=
    ((s30.1 = true →
    Q (⟨none, 0, 0⟩, ⟨none, 0, 0⟩, 3, ()) h31) ∧
    (s30.1 = false →
    ref4_Serial.j5 c_ref4_asked c_ref4_Do todos1 most2 Q () h31))
def ref4_Serial.M (c_ref4_asked : Sl → Den kapiTodo → Int → Heap → (Den kapiCall → Heap → Prop) → Prop) (c_ref4_Do : Sl → Den kapiCall → Int → Heap → ((Sl × (Bool × Unit)) → Heap → Prop) → Prop) (todos1 : Sl) (most2 : Int) (h3 : Heap) (Q : (Sl × (Sl × (Int × Unit))) → Heap → Prop) : Prop :=
    (((decide ((40 : Int) < (todos1.len : Int))) = true →
    Q (⟨none, 0, 0⟩, ⟨none, 0, 0⟩, 2, ()) h3) ∧
    ((decide ((40 : Int) < (todos1.len : Int))) = false →
    (((decide (most2 < 1)) = true →
    ref4_Serial.j6 c_ref4_asked c_ref4_Do todos1 most2 Q (true, ()) h3) ∧
    ((decide (most2 < 1)) = false →
    ref4_Serial.j6 c_ref4_asked c_ref4_Do todos1 most2 Q ((decide ((4096 : Int) < most2)), ()) h3))))
def ref4_Serial.mk : Mk := (.s .d (.s (.s .d (.c (.s .d .d) .d)) (.j [] (.j [.slot 20 .bool] .d (.c (.s .d .d) .d)) (.s (.s .d (.b (.l [.slot 7 (.int .i64)] (.s (.s .d (.c .d .d)) (.j [] (.b (.j [.slot 40 .bool] .d (.c (.s .d .d) .d))) .d))))) (.s .d (.s .d (.s (.s .d (.b (.l [.slot 8 .sl, .slot 9 .sl, .slot 10 (.int .i64)] (.s (.s .d (.c .d .d)) (.s (.b (.s (.r [7]) (.s .d (.s .d (.s .d .d))))) .d))))) (.s .d .d))))))))

def law4_sameInts.l1 (a1 : Sl) (b2 : Sl) (Q : Bool → Heap → Prop) (go6 : (Int × Unit) → Heap → Prop) (s4 : (Int × Unit)) (h5 : Heap) : Prop :=
    (((decide (s4.1 < (a1.len : Int))) = true →
    (0 ≤ s4.1 ∧ s4.1 < (a1.len : Int)) ∧
    deref a1.a fun a7 =>
    (0 ≤ s4.1 ∧ s4.1 < (b2.len : Int)) ∧
    deref b2.a fun a8 =>
    ld ((.int .i64) : Kd) h5 (a7.add ((s4.1 : Int).toNat * 1)) fun t9 =>
    ld ((.int .i64) : Kd) h5 (a8.add ((s4.1 : Int).toNat * 1)) fun t10 =>
    (((decide (t9 ≠ t10)) = true →
    Q false h5) ∧
    ((decide (t9 ≠ t10)) = false →
    go6 ((w64 (s4.1 + 1)), ()) h5))) ∧
    ((decide (s4.1 < (a1.len : Int))) = false →
    Q true h5))
def law4_sameInts.M  (a1 : Sl) (b2 : Sl) (h3 : Heap) (Q : Bool → Heap → Prop) : Prop :=
    (((decide ((a1.len : Int) ≠ (b2.len : Int))) = true →
    Q false h3) ∧
    ((decide ((a1.len : Int) ≠ (b2.len : Int))) = false →
    Loop (law4_sameInts.l1 a1 b2 Q) (0, ()) h3))
def law4_sameInts.mk : Mk := (.s .d (.s (.s .d (.c (.s .d .d) .d)) (.s (.s .d (.b (.l [.slot 5 (.int .i64)] (.s (.s .d (.c .d .d)) (.s (.b (.s (.q [] [] [.p 0, .p 1, .p 2, .p 4, .p 5, .p 6, .w 3 [3, 8], .w 7 [7, 8], .p 8]) (.c (.s .d .d) .d))) .d))))) (.s .d .d))))

def hist_Legal.j1 (go11 : (Sl × (Int × Unit)) → Heap → Prop) (s9 : (Sl × (Int × Unit))) (s12 : (Sl × Unit)) (h13 : Heap) : Prop :=
    go11 (s12.1, (w64 (s9.2.1 + 1)), ()) h13
def hist_Legal.j2 (c_hist_row_does : Sl → Den kapiCall → Int → Heap → ((Sl × (Bool × Unit)) → Heap → Prop) → Prop) (calls1 : Sl) (most2 : Int) (Q : Bool → Heap → Prop) (s7 : Sl) (go11 : (Sl × (Int × Unit)) → Heap → Prop) (s9 : (Sl × (Int × Unit))) (t15 : Int) (s16 : Unit) (h17 : Heap) : Prop :=
    (0 ≤ t15 ∧ t15 < (s7.len : Int)) ∧
    deref s7.a fun a18 =>
    st ((.int .i64) : Kd) h17 (a18.add ((t15 : Int).toNat * 1)) (w64 (s9.2.1 + 1)) fun h19 =>
    (0 ≤ t15 ∧ t15 < (calls1.len : Int)) ∧
    deref calls1.a fun a20 =>
    ld kapiCall h19 (a20.add ((t15 : Int).toNat * 7)) fun t21 =>
    c_hist_row_does s9.1 t21 most2 h19 fun r22 h23 =>
    (((!r22.2.1) = true →
    Q false h23) ∧
    ((!r22.2.1) = false →
    hist_Legal.j1 go11 s9 (r22.1, ()) h23))
def hist_Legal.j3 (c_hist_row_does : Sl → Den kapiCall → Int → Heap → ((Sl × (Bool × Unit)) → Heap → Prop) → Prop) (calls1 : Sl) (most2 : Int) (Q : Bool → Heap → Prop) (s7 : Sl) (go11 : (Sl × (Int × Unit)) → Heap → Prop) (s9 : (Sl × (Int × Unit))) (t15 : Int) (s24 : (Bool × Unit)) (h25 : Heap) : Prop :=
    ((s24.1 = true →
    Q false h25) ∧
    (s24.1 = false →
    hist_Legal.j2 c_hist_row_does calls1 most2 Q s7 go11 s9 t15 () h25))
def hist_Legal.j4 (go30 : (Int × Unit) → Heap → Prop) (s28 : (Int × Unit)) (s31 : Unit) (h32 : Heap) : Prop :=
    go30 ((w64 (s28.1 + 1)), ()) h32
def hist_Legal.j5 (go39 : (Int × Unit) → Heap → Prop) (s37 : (Int × Unit)) (s40 : Unit) (h41 : Heap) : Prop :=
    go39 ((w64 (s37.1 + 1)), ()) h41
def hist_Legal.j6 (Q : Bool → Heap → Prop) (go39 : (Int × Unit) → Heap → Prop) (s37 : (Int × Unit)) (s44 : (Bool × Unit)) (h45 : Heap) : Prop :=
    ((s44.1 = true →
    Q false h45) ∧
    (s44.1 = false →
    hist_Legal.j5 go39 s37 () h45))
def hist_Legal.l7 (calls1 : Sl) (Q : Bool → Heap → Prop) (s7 : Sl) (go30 : (Int × Unit) → Heap → Prop) (s28 : (Int × Unit)) (t34 : Den kapiCall) (go39 : (Int × Unit) → Heap → Prop) (s37 : (Int × Unit)) (h38 : Heap) : Prop :=
    (((decide (s37.1 < (calls1.len : Int))) = true →
    (0 ≤ s37.1 ∧ s37.1 < (calls1.len : Int)) ∧
    deref calls1.a fun a42 =>
    ld kapiCall h38 (a42.add ((s37.1 : Int).toNat * 7)) fun t43 =>
    (0 ≤ s37.1 ∧ s37.1 < (s7.len : Int)) ∧
    deref s7.a fun a46 =>
    ld ((.int .i64) : Kd) h38 (a46.add ((s37.1 : Int).toNat * 1)) fun t47 =>
    (((decide ((0 : Int) < t47)) = true →
    (((decide (t34.2.2.2.2.1 < t43.2.2.2.1)) = true →
    (0 ≤ s28.1 ∧ s28.1 < (s7.len : Int)) ∧
    deref s7.a fun a48 =>
    (0 ≤ s37.1 ∧ s37.1 < (s7.len : Int)) ∧
    deref s7.a fun a49 =>
    ld ((.int .i64) : Kd) h38 (a48.add ((s28.1 : Int).toNat * 1)) fun t50 =>
    ld ((.int .i64) : Kd) h38 (a49.add ((s37.1 : Int).toNat * 1)) fun t51 =>
    hist_Legal.j6 Q go39 s37 ((decide (t51 < t50)), ()) h38) ∧
    ((decide (t34.2.2.2.2.1 < t43.2.2.2.1)) = false →
    hist_Legal.j6 Q go39 s37 (false, ()) h38))) ∧
    ((decide ((0 : Int) < t47)) = false →
    hist_Legal.j6 Q go39 s37 (false, ()) h38))) ∧
    ((decide (s37.1 < (calls1.len : Int))) = false →
    hist_Legal.j4 go30 s28 () h38))
def hist_Legal.l8 (calls1 : Sl) (Q : Bool → Heap → Prop) (s7 : Sl) (go30 : (Int × Unit) → Heap → Prop) (s28 : (Int × Unit)) (h29 : Heap) : Prop :=
    (((decide (s28.1 < (calls1.len : Int))) = true →
    (0 ≤ s28.1 ∧ s28.1 < (calls1.len : Int)) ∧
    deref calls1.a fun a33 =>
    ld kapiCall h29 (a33.add ((s28.1 : Int).toNat * 7)) fun t34 =>
    (((decide (t34.2.2.2.2.2.1 = 0)) = true →
    hist_Legal.j4 go30 s28 () h29) ∧
    ((decide (t34.2.2.2.2.2.1 = 0)) = false →
    (0 ≤ s28.1 ∧ s28.1 < (s7.len : Int)) ∧
    deref s7.a fun a35 =>
    ld ((.int .i64) : Kd) h29 (a35.add ((s28.1 : Int).toNat * 1)) fun t36 =>
    (((decide (t36 = 0)) = true →
    Q false h29) ∧
    ((decide (t36 = 0)) = false →
    Loop (hist_Legal.l7 calls1 Q s7 go30 s28 t34) (0, ()) h29))))) ∧
    ((decide (s28.1 < (calls1.len : Int))) = false →
    Q true h29))
def hist_Legal.l9 (c_hist_row_does : Sl → Den kapiCall → Int → Heap → ((Sl × (Bool × Unit)) → Heap → Prop) → Prop) (calls1 : Sl) (most2 : Int) (order3 : Sl) (Q : Bool → Heap → Prop) (s7 : Sl) (go11 : (Sl × (Int × Unit)) → Heap → Prop) (s9 : (Sl × (Int × Unit))) (h10 : Heap) : Prop :=
    (((decide (s9.2.1 < (order3.len : Int))) = true →
    (0 ≤ s9.2.1 ∧ s9.2.1 < (order3.len : Int)) ∧
    deref order3.a fun a14 =>
    ld ((.int .i64) : Kd) h10 (a14.add ((s9.2.1 : Int).toNat * 1)) fun t15 =>
    (((decide (t15 < 0)) = true →
    hist_Legal.j3 c_hist_row_does calls1 most2 Q s7 go11 s9 t15 (true, ()) h10) ∧
    ((decide (t15 < 0)) = false →
    (((decide ((calls1.len : Int) ≤ t15)) = true →
    hist_Legal.j3 c_hist_row_does calls1 most2 Q s7 go11 s9 t15 (true, ()) h10) ∧
    ((decide ((calls1.len : Int) ≤ t15)) = false →
    (0 ≤ t15 ∧ t15 < (s7.len : Int)) ∧
    deref s7.a fun a26 =>
    ld ((.int .i64) : Kd) h10 (a26.add ((t15 : Int).toNat * 1)) fun t27 =>
    hist_Legal.j3 c_hist_row_does calls1 most2 Q s7 go11 s9 t15 ((decide ((0 : Int) < t27)), ()) h10))))) ∧
    ((decide (s9.2.1 < (order3.len : Int))) = false →
    Loop (hist_Legal.l8 calls1 Q s7) (0, ()) h10))
def hist_Legal.j10 (c_hist_row_does : Sl → Den kapiCall → Int → Heap → ((Sl × (Bool × Unit)) → Heap → Prop) → Prop) (calls1 : Sl) (most2 : Int) (order3 : Sl) (Q : Bool → Heap → Prop) (s5 : Unit) (h6 : Heap) : Prop :=
    makeM ((.int .i64) : Kd) 8 h6 (calls1.len : Int) (calls1.len : Int) fun s7 h8 =>
    Loop (hist_Legal.l9 c_hist_row_does calls1 most2 order3 Q s7) (⟨none, 0, 0⟩, 0, ()) h8
def hist_Legal.j11 (c_hist_row_does : Sl → Den kapiCall → Int → Heap → ((Sl × (Bool × Unit)) → Heap → Prop) → Prop) (calls1 : Sl) (most2 : Int) (order3 : Sl) (Q : Bool → Heap → Prop) (s52 : (Bool × Unit)) (h53 : Heap) : Prop :=
    ((s52.1 = true →
    Q false h53) ∧
    (s52.1 = false →
    hist_Legal.j10 c_hist_row_does calls1 most2 order3 Q () h53))
def hist_Legal.M (c_hist_goodMost : Int → Heap → (Bool → Heap → Prop) → Prop) (c_hist_history : Sl → Heap → (Bool → Heap → Prop) → Prop) (c_hist_row_does : Sl → Den kapiCall → Int → Heap → ((Sl × (Bool × Unit)) → Heap → Prop) → Prop) (calls1 : Sl) (most2 : Int) (order3 : Sl) (h4 : Heap) (Q : Bool → Heap → Prop) : Prop :=
    (((decide ((40 : Int) < (calls1.len : Int))) = true →
    hist_Legal.j11 c_hist_row_does calls1 most2 order3 Q (true, ()) h4) ∧
    ((decide ((40 : Int) < (calls1.len : Int))) = false →
    c_hist_goodMost most2 h4 fun r54 h55 =>
    (((!r54) = true →
    hist_Legal.j11 c_hist_row_does calls1 most2 order3 Q (true, ()) h55) ∧
    ((!r54) = false →
    c_hist_history calls1 h55 fun r56 h57 =>
    hist_Legal.j11 c_hist_row_does calls1 most2 order3 Q ((!r56), ()) h57))))
def hist_Legal.mk : Mk := (.s .d (.j [] (.j [.slot 28 .bool] .d (.c (.s .d .d) .d)) (.s .d (.s .d (.s (.s .d (.b (.l [.slot 8 .sl, .slot 34 (.int .i64)] (.s .d (.s (.c .d .d) (.j [.slot 8 .sl] (.b (.s .d (.j [] (.j [.slot 53 .bool] .d (.c (.s .d .d) .d)) (.s .d (.s .d (.s .d (.s .d (.c (.s .d .d) .d)))))))) .d)))))) (.s (.s .d (.b (.l [.slot 74 (.int .i64)] (.s .d (.s (.c .d .d) (.j [] (.b (.s (.r [3]) (.s (.s .d (.c .d .d)) (.s (.s .d (.c (.s .d .d) .d)) (.s .d (.b (.l [.slot 89 (.int .i64)] (.s .d (.s (.c .d .d) (.j [] (.b (.s (.r [3]) (.j [.slot 116 .bool] (.q [] [] [.p 0, .p 1, .p 2, .w 3 [3, 4, 5, 6, 7, 8, 9, 10, 11, 12, 13, 14, 15, 16, 17, 18, 19, 20, 21, 22], .p 4, .p 5, .p 6, .p 8, .w 7 [7, 10, 11, 12, 13, 14, 15, 16, 17, 18, 19, 20, 21, 22], .w 9 [9, 10, 11, 12, 13, 14, 15, 16, 17, 18, 19, 20, 21, 22], .p 10, .p 11, .p 12, .p 13, .p 14, .p 15, .p 17, .p 18, .p 19, .w 16 [16, 21, 22], .w 20 [20, 21, 22], .p 21, .p 22]) (.c (.s .d .d) .d)))) .d)))))))))) .d)))))) (.s .d .d)))))))

def ref4_Legal.M (c_ref4_Bad : Sl → Int → Heap → (Int → Heap → Prop) → Prop) (c_ref4_Replay : Sl → Int → Sl → Heap → ((Sl × (Bool × Unit)) → Heap → Prop) → Prop) (calls1 : Sl) (most2 : Int) (order3 : Sl) (h4 : Heap) (Q : Bool → Heap → Prop) : Prop :=
    c_ref4_Bad calls1 most2 h4 fun r5 h6 =>
    (((decide (r5 ≠ 0)) = true →
    Q false h6) ∧
    ((decide (r5 ≠ 0)) = false →
    c_ref4_Replay calls1 most2 order3 h6 fun r7 h8 =>
    Q r7.2.1 h8))
def ref4_Legal.mk : Mk := (.s .d (.s (.s .d (.c (.s .d .d) .d)) (.s .d (.s .d .d))))

def hist_Order.l1 (c_hist_search_from : Option Addr → (Fin 4 → Int) → Sl → Heap → (Bool → Heap → Prop) → Prop) (c_slices_Clone_int_int : Sl → Heap → (Sl → Heap → Prop) → Prop) (calls1 : Sl) (Q : (Sl × (Int × Unit)) → Heap → Prop) (p10 : Addr) (go14 : (Int × Unit) → Heap → Prop) (s12 : (Int × Unit)) (h13 : Heap) : Prop :=
    (((decide (s12.1 < (calls1.len : Int))) = true →
    (0 ≤ s12.1 ∧ s12.1 < (calls1.len : Int)) ∧
    deref calls1.a fun a15 =>
    ld kapiCall h13 (a15.add ((s12.1 : Int).toNat * 7)) fun t16 =>
    (0 ≤ t16.1 ∧ t16.1 < (4 : Int)) ∧
    ld (.sl : Kd) h13 ((p10.add 2).add ((t16.1 : Int).toNat * 1)) fun t17 =>
    new h13 (([s12.1] : List (Den ((.int .i64) : Kd))).flatMap (Kd.cells ((.int .i64) : Kd))) fun p18 h19 =>
    appendM 1 8 h19 t17 ⟨some p18, 1, 1⟩ fun t20 h21 =>
    (0 ≤ t16.1 ∧ t16.1 < (4 : Int)) ∧
    st (.sl : Kd) h21 ((p10.add 2).add ((t16.1 : Int).toNat * 1)) t20 fun h22 =>
    go14 ((w64 (s12.1 + 1)), ()) h22) ∧
    ((decide (s12.1 < (calls1.len : Int))) = false →
    c_hist_search_from (some p10) (Kd.zero ((.arr 4 (.int .i64)) : Kd)) ⟨none, 0, 0⟩ h13 fun r23 h24 =>
    (((!r23) = true →
    Q (⟨none, 0, 0⟩, 41, ()) h24) ∧
    ((!r23) = false →
    ld (.sl : Kd) h24 (p10.add 7) fun t25 =>
    c_slices_Clone_int_int t25 h24 fun r26 h27 =>
    Q (r26, 0, ()) h27))))
def hist_Order.M (c_hist_goodMost : Int → Heap → (Bool → Heap → Prop) → Prop) (c_hist_history : Sl → Heap → (Bool → Heap → Prop) → Prop) (c_hist_search_from : Option Addr → (Fin 4 → Int) → Sl → Heap → (Bool → Heap → Prop) → Prop) (c_slices_Clone_int_int : Sl → Heap → (Sl → Heap → Prop) → Prop) (calls1 : Sl) (most2 : Int) (h3 : Heap) (Q : (Sl × (Int × Unit)) → Heap → Prop) : Prop :=
    (((decide ((40 : Int) < (calls1.len : Int))) = true →
    Q (⟨none, 0, 0⟩, 2, ()) h3) ∧
    ((decide ((40 : Int) < (calls1.len : Int))) = false →
    c_hist_goodMost most2 h3 fun r4 h5 =>
    (((!r4) = true →
    Q (⟨none, 0, 0⟩, 3, ()) h5) ∧
    ((!r4) = false →
    c_hist_history calls1 h5 fun r6 h7 =>
    (((!r6) = true →
    Q (⟨none, 0, 0⟩, 40, ()) h7) ∧
    ((!r6) = false →
    mapNew h7 fun m8 h9 =>
    new h9 (khistsearch.cells (calls1, (most2, ((fun _ => Sl.none), ((some m8), (Sl.none, ())))))) fun p10 h11 =>
    Loop (hist_Order.l1 c_hist_search_from c_slices_Clone_int_int calls1 Q p10) (0, ()) h11))))))
def hist_Order.mk : Mk := (.s .d (.s (.b (.s .d (.c (.s .d .d) (.s .d (.c (.s .d .d) (.s .d (.c (.s .d .d) .d))))))) (.s .d (.s (.s .d (.b (.l [.slot 28 (.int .i64)] (.s .d (.s (.c .d .d) (.s (.b (.s (.r [3]) (.q [] [] [.p 0, .p 1, .p 3, .p 4, .p 6, .p 7, .p 10, .p 13, .p 14, .w 2 [2, 15, 16], .w 5 [5, 8, 9, 12, 15, 16], .p 8, .w 9 [9, 12, 15, 16], .o 11, .o 12, .p 15, .o 16]))) .d)))))) (.s (.s .d (.c (.s .d .d) .d)) (.s .d .d))))))

def ref4_Refused.M (c_ref4_Bad : Sl → Int → Heap → (Int → Heap → Prop) → Prop) (c_ref4_Has : Sl → Int → Heap → (Bool → Heap → Prop) → Prop) (calls1 : Sl) (most2 : Int) (h3 : Heap) (Q : Int → Heap → Prop) : Prop :=
    c_ref4_Bad calls1 most2 h3 fun r4 h5 =>
    (((decide (r4 ≠ 0)) = true →
    Q r4 h5) ∧
    ((decide (r4 ≠ 0)) = false →
    c_ref4_Has calls1 most2 h5 fun r6 h7 =>
    (((!r6) = true →
    Q 41 h7) ∧
    ((!r6) = false →
    Q 0 h7))))
def ref4_Refused.mk : Mk := (.s .d (.s .d (.s (.s .d (.c (.s .d .d) .d)) (.s (.s .d (.c (.s .d .d) .d)) (.s .d .d)))))

def law4_mod.j1 (Q : Int → Heap → Prop) (s4 : (Int × Unit)) (h5 : Heap) : Prop :=
    Q s4.1 h5
def law4_mod.M  (x1 : Int) (n2 : Int) (h3 : Heap) (Q : Int → Heap → Prop) : Prop :=
    n2 ≠ 0 ∧
    (((decide ((Int.tmod x1 n2) < 0)) = true →
    law4_mod.j1 Q ((w64 ((Int.tmod x1 n2) + n2)), ()) h3) ∧
    ((decide ((Int.tmod x1 n2) < 0)) = false →
    law4_mod.j1 Q ((Int.tmod x1 n2), ()) h3))
def law4_mod.mk : Mk := (.s .d (.s .d (.j [.slot 5 (.int .i64)] (.s .d (.c .d .d)) (.s .d .d))))

def law4_widened.j1 (go6 : (Sl × (Int × (((Fin 4 → Int) × Unit) × Unit))) → Heap → Prop) (s4 : (Sl × (Int × (((Fin 4 → Int) × Unit) × Unit)))) (s7 : (Sl × (((Fin 4 → Int) × Unit) × Unit))) (h8 : Heap) : Prop :=
    go6 (s7.1, (w64 (s4.2.1 + 1)), (s7.2.1.1, ()), ()) h8
def law4_widened.j2 (go6 : (Sl × (Int × (((Fin 4 → Int) × Unit) × Unit))) → Heap → Prop) (s4 : (Sl × (Int × (((Fin 4 → Int) × Unit) × Unit)))) (s19 : (Den kapiCall × Unit)) (h20 : Heap) : Prop :=
    (0 ≤ s19.1.1 ∧ s19.1.1 < (4 : Int)) ∧
    new h20 (([(s19.1.1, (s19.1.2.1, (s19.1.2.2.1, (s19.1.2.2.2.1, (s19.1.2.2.2.2.1, (s19.1.2.2.2.2.2.1, (s19.1.2.2.2.2.2.2.1, ())))))))] : List (Den kapiCall)).flatMap (Kd.cells kapiCall)) fun p21 h22 =>
    appendM 7 56 h22 s4.1 ⟨some p21, 1, 1⟩ fun t23 h24 =>
    law4_widened.j1 go6 s4 (t23, ((aset (n := 4) (a := ((.int .i64) : Kd)) s4.2.2.1.1 (s19.1.1 : Int).toNat (w64 (s19.1.2.2.2.2.1 + 1))), ()), ()) h24
def law4_widened.l3 (calls1 : Sl) (go6 : (Sl × (Int × (((Fin 4 → Int) × Unit) × Unit))) → Heap → Prop) (s4 : (Sl × (Int × (((Fin 4 → Int) × Unit) × Unit)))) (go27 : (Int × (Den kapiCall × Unit)) → Heap → Prop) (s25 : (Int × (Den kapiCall × Unit))) (h26 : Heap) : Prop :=
    (((decide (s25.1 < (calls1.len : Int))) = true →
    (0 ≤ s25.1 ∧ s25.1 < (calls1.len : Int)) ∧
    deref calls1.a fun a28 =>
    (0 ≤ s4.2.1 ∧ s4.2.1 < (calls1.len : Int)) ∧
    deref calls1.a fun a29 =>
    ld ((.int .i64) : Kd) h26 ((a28.add ((s25.1 : Int).toNat * 7)).add 0) fun t30 =>
    ld ((.int .i64) : Kd) h26 ((a29.add ((s4.2.1 : Int).toNat * 7)).add 0) fun t31 =>
    (((decide (t30 = t31)) = true →
    law4_widened.j2 go6 s4 ((s25.2.1.1, (s25.2.1.2.1, (s25.2.1.2.2.1, (s25.2.1.2.2.2.1, ((if (w64 ((w64 (100 * s25.1)) + 49)) < s25.2.1.2.2.2.2.1 then (w64 ((w64 (100 * s25.1)) + 49)) else s25.2.1.2.2.2.2.1), (s25.2.1.2.2.2.2.2.1, (s25.2.1.2.2.2.2.2.2.1, ()))))))), ()) h26) ∧
    ((decide (t30 = t31)) = false →
    go27 ((w64 (s25.1 + 1)), (s25.2.1.1, (s25.2.1.2.1, (s25.2.1.2.2.1, (s25.2.1.2.2.2.1, (s25.2.1.2.2.2.2.1, (s25.2.1.2.2.2.2.2.1, (s25.2.1.2.2.2.2.2.2.1, ()))))))), ()) h26))) ∧
    ((decide (s25.1 < (calls1.len : Int))) = false →
    law4_widened.j2 go6 s4 ((s25.2.1.1, (s25.2.1.2.1, (s25.2.1.2.2.1, (s25.2.1.2.2.2.1, (s25.2.1.2.2.2.2.1, (s25.2.1.2.2.2.2.2.1, (s25.2.1.2.2.2.2.2.2.1, ()))))))), ()) h26))
def law4_widened.j4 (c_law4_mod : Int → Int → Heap → (Int → Heap → Prop) → Prop) (calls1 : Sl) (go6 : (Sl × (Int × (((Fin 4 → Int) × Unit) × Unit))) → Heap → Prop) (s4 : (Sl × (Int × (((Fin 4 → Int) × Unit) × Unit)))) (s11 : (Den klaw4Wide × Unit)) (s13 : (Den kapiCall × Unit)) (h14 : Heap) : Prop :=
    (0 ≤ s13.1.1 ∧ s13.1.1 < (4 : Int)) ∧
    c_law4_mod s11.1.2.1 1000 h14 fun r15 h16 =>
    c_law4_mod s11.1.2.2.1 1000 h16 fun r17 h18 =>
    Loop (law4_widened.l3 calls1 go6 s4) ((w64 (s4.2.1 + 1)), (s13.1.1, (s13.1.2.1, (s13.1.2.2.1, ((if (aget (n := 4) (a := ((.int .i64) : Kd)) s4.2.2.1.1 (s13.1.1 : Int).toNat) < (w64 ((w64 ((w64 (100 * s4.2.1)) + 50)) - r15)) then (w64 ((w64 ((w64 (100 * s4.2.1)) + 50)) - r15)) else (aget (n := 4) (a := ((.int .i64) : Kd)) s4.2.2.1.1 (s13.1.1 : Int).toNat)), ((w64 ((w64 ((w64 (100 * s4.2.1)) + 50)) + r17)), (s13.1.2.2.2.2.2.1, (s13.1.2.2.2.2.2.2.1, ()))))))), ()) h18
def law4_widened.j5 (c_law4_mod : Int → Int → Heap → (Int → Heap → Prop) → Prop) (calls1 : Sl) (go6 : (Sl × (Int × (((Fin 4 → Int) × Unit) × Unit))) → Heap → Prop) (s4 : (Sl × (Int × (((Fin 4 → Int) × Unit) × Unit)))) (t10 : Den kapiCall) (s11 : (Den klaw4Wide × Unit)) (h12 : Heap) : Prop :=
    (((decide (t10.1 ≠ 0)) = true →
    c_law4_mod s11.1.1 3 h12 fun r32 h33 =>
    law4_widened.j4 c_law4_mod calls1 go6 s4 s11 (((w64 (1 + r32)), (t10.2.1, (t10.2.2.1, (t10.2.2.2.1, (t10.2.2.2.2.1, (t10.2.2.2.2.2.1, (t10.2.2.2.2.2.2.1, ()))))))), ()) h33) ∧
    ((decide (t10.1 ≠ 0)) = false →
    law4_widened.j4 c_law4_mod calls1 go6 s4 s11 ((t10.1, (t10.2.1, (t10.2.2.1, (t10.2.2.2.1, (t10.2.2.2.2.1, (t10.2.2.2.2.2.1, (t10.2.2.2.2.2.2.1, ()))))))), ()) h12))
def law4_widened.l6 (c_law4_mod : Int → Int → Heap → (Int → Heap → Prop) → Prop) (calls1 : Sl) (wide2 : Sl) (Q : Sl → Heap → Prop) (go6 : (Sl × (Int × (((Fin 4 → Int) × Unit) × Unit))) → Heap → Prop) (s4 : (Sl × (Int × (((Fin 4 → Int) × Unit) × Unit)))) (h5 : Heap) : Prop :=
    (((decide (s4.2.1 < (calls1.len : Int))) = true →
    (0 ≤ s4.2.1 ∧ s4.2.1 < (calls1.len : Int)) ∧
    deref calls1.a fun a9 =>
    ld kapiCall h5 (a9.add ((s4.2.1 : Int).toNat * 7)) fun t10 =>
    (((decide (s4.2.1 < (wide2.len : Int))) = true →
    (0 ≤ s4.2.1 ∧ s4.2.1 < (wide2.len : Int)) ∧
    deref wide2.a fun a34 =>
    ld klaw4Wide h5 (a34.add ((s4.2.1 : Int).toNat * 3)) fun t35 =>
    law4_widened.j5 c_law4_mod calls1 go6 s4 t10 ((t35.1, (t35.2.1, (t35.2.2.1, ()))), ()) h5) ∧
    ((decide (s4.2.1 < (wide2.len : Int))) = false →
    law4_widened.j5 c_law4_mod calls1 go6 s4 t10 ((0, (0, (0, ()))), ()) h5))) ∧
    ((decide (s4.2.1 < (calls1.len : Int))) = false →
    Q s4.1 h5))
def law4_widened.M (c_law4_mod : Int → Int → Heap → (Int → Heap → Prop) → Prop) (calls1 : Sl) (wide2 : Sl) (h3 : Heap) (Q : Sl → Heap → Prop) : Prop :=
    Loop (law4_widened.l6 c_law4_mod calls1 wide2 Q) (⟨none, 0, 0⟩, 0, ((fun _ => 0), ()), ()) h3
def law4_widened.mk : Mk := (.s .d (.s (.r [0]) (.s .d (.s (.s .d (.b (.l [.slot 6 .sl, .slot 7 (.int .i64), .box 5 (.pair (.arr 4 (.int .i64)) .nil)] (.s (.s .d (.c .d .d)) (.j [.slot 6 .sl, .box 5 (.pair (.arr 4 (.int .i64)) .nil)] (.b (.s (.r [4]) (.s (.r [1]) (.j [.box 9 klaw4Wide] (.s .d (.c .d .d)) (.j [.box 8 kapiCall] (.s .d (.c .d .d)) (.s .d (.s (.q [] [8] [.p 0, .p 4, .p 5, .w 1 [1, 2, 3, 9, 10, 11], .p 2, .w 3 [3, 9, 10, 11], .w 6 [6, 7, 8, 9, 10, 11], .o 7, .p 8, .p 9, .p 10, .o 11]) (.s .d (.j [.box 8 kapiCall] (.s .d (.b (.l [.slot 11 (.int .i64), .box 8 kapiCall] (.s (.s .d (.c .d .d)) (.s (.b (.s (.q [] [] [.p 0, .p 1, .p 2, .p 3, .p 5, .p 6, .p 7, .p 8, .w 4 [4, 10], .w 9 [9, 10], .p 10]) (.c (.s .d .d) .d))) .d))))) (.s .d .d)))))))))) .d))))) (.s .d .d)))))

def hist_goodMost.M  (most1 : Int) (h2 : Heap) (Q : Bool → Heap → Prop) : Prop :=
    (((decide ((1 : Int) ≤ most1)) = true →
    Q (decide (most1 ≤ 4096)) h2) ∧
    ((decide ((1 : Int) ≤ most1)) = false →
    Q false h2))
def hist_goodMost.mk : Mk := (.s .d (.s .d .d))

def hist_row_does.j1 (r1 : Sl) (c2 : Den kapiCall) (Q : (Sl × (Bool × Unit)) → Heap → Prop) (s5 : Sl) (s9 : Unit) (h10 : Heap) : Prop :=
    (0 ≤ (1 : Int) ∧ (1 : Int) ≤ (s5.len : Int)) ∧
    (((decide (c2.2.2.2.2.2.1 ≠ 4)) = true →
    Q ((s5.cut (((1 : Int) : Int).toNat) s5.len 1), true, ()) h10) ∧
    ((decide (c2.2.2.2.2.2.1 ≠ 4)) = false →
    (0 ≤ (0 : Int) ∧ (0 : Int) < (r1.len : Int)) ∧
    deref r1.a fun a11 =>
    ld ((.int .i64) : Kd) h10 (a11.add (((0 : Int) : Int).toNat * 1)) fun t12 =>
    Q ((s5.cut (((1 : Int) : Int).toNat) s5.len 1), (decide (t12 = c2.2.2.2.2.2.2.1)), ()) h10))
def hist_row_does.j2 (r1 : Sl) (c2 : Den kapiCall) (most3 : Int) (Q : (Sl × (Bool × Unit)) → Heap → Prop) (s5 : Sl) (s13 : (Bool × Unit)) (h14 : Heap) : Prop :=
    ((s13.1 = true →
    Q (s5, (decide ((r1.len : Int) = most3)), ()) h14) ∧
    (s13.1 = false →
    (((decide (c2.2.1 = 0)) = true →
    new h14 (([c2.2.2.1] : List (Den ((.int .i64) : Kd))).flatMap (Kd.cells ((.int .i64) : Kd))) fun p15 h16 =>
    appendM 1 8 h16 s5 ⟨some p15, 1, 1⟩ fun t17 h18 =>
    Q (t17, (decide ((r1.len : Int) < most3)), ()) h18) ∧
    ((decide (c2.2.1 = 0)) = false →
    (((decide (c2.2.2.2.2.2.1 = 6)) = true →
    Q (s5, true, ()) h14) ∧
    ((decide (c2.2.2.2.2.2.1 = 6)) = false →
    (((decide (c2.2.2.2.2.2.1 = 5)) = true →
    Q (s5, (decide ((r1.len : Int) = 0)), ()) h14) ∧
    ((decide (c2.2.2.2.2.2.1 = 5)) = false →
    (((decide ((r1.len : Int) = 0)) = true →
    Q (s5, false, ()) h14) ∧
    ((decide ((r1.len : Int) = 0)) = false →
    (((decide (c2.2.1 = 1)) = true →
    (0 ≤ (w64 ((s5.len : Int) - 1)) ∧ (w64 ((s5.len : Int) - 1)) ≤ (s5.cap : Int)) ∧
    (((decide (c2.2.2.2.2.2.1 ≠ 4)) = true →
    Q ((s5.cut 0 (((w64 ((s5.len : Int) - 1)) : Int).toNat) 1), true, ()) h14) ∧
    ((decide (c2.2.2.2.2.2.1 ≠ 4)) = false →
    (0 ≤ (w64 ((r1.len : Int) - 1)) ∧ (w64 ((r1.len : Int) - 1)) < (r1.len : Int)) ∧
    deref r1.a fun a19 =>
    ld ((.int .i64) : Kd) h14 (a19.add (((w64 ((r1.len : Int) - 1)) : Int).toNat * 1)) fun t20 =>
    Q ((s5.cut 0 (((w64 ((s5.len : Int) - 1)) : Int).toNat) 1), (decide (t20 = c2.2.2.2.2.2.2.1)), ()) h14))) ∧
    ((decide (c2.2.1 = 1)) = false →
    hist_row_does.j1 r1 c2 Q s5 () h14))))))))))))
def hist_row_does.M  (r1 : Sl) (c2 : Den kapiCall) (most3 : Int) (h4 : Heap) (Q : (Sl × (Bool × Unit)) → Heap → Prop) : Prop :=
    makeM ((.int .i64) : Kd) 8 h4 (r1.len : Int) (w64 ((r1.len : Int) + 1)) fun s5 h6 =>
    copyM 1 h6 s5 r1 fun n7 h8 =>
    (((decide (c2.2.1 = 0)) = true →
    hist_row_does.j2 r1 c2 most3 Q s5 ((decide (c2.2.2.2.2.2.1 = 3)), ()) h8) ∧
    ((decide (c2.2.1 = 0)) = false →
    hist_row_does.j2 r1 c2 most3 Q s5 (false, ()) h8))
def hist_row_does.mk : Mk := (.s (.r [0]) (.s .d (.s .d (.j [] (.b (.j [.slot 18 .bool] .d (.c (.s .d .d) (.s .d (.c (.s .d .d) (.s .d (.c (.s .d .d) (.s .d (.c (.s .d .d) (.s .d (.c (.s .d .d) (.s .d (.c (.s (.q [] [] [.p 0, .p 1, .p 2, .p 3, .p 4, .p 5, .w 6 [6, 7, 8, 9, 10, 11, 12, 13, 14, 15, 16, 17, 18, 19, 20], .p 7, .p 8, .p 9, .p 10, .p 11, .p 12, .p 13, .p 15, .p 19, .w 14 [14, 17, 18, 20], .w 16 [16, 17, 18, 20], .p 17, .p 18, .p 20]) .d) .d))))))))))))) (.s (.q [] [] [.p 0, .p 1, .p 2, .w 3 [3, 4, 5, 6, 7, 8, 9, 10, 11, 12, 13, 14], .p 4, .p 5, .p 6, .p 7, .p 9, .p 13, .w 8 [8, 11, 12, 14], .w 10 [10, 11, 12, 14], .p 11, .p 12, .p 14]) .d)))))

def slices_Clone_int64_int64.M  (s1 : Sl) (h2 : Heap) (Q : Sl → Heap → Prop) : Prop :=
    ((s1.a.isNone = true →
    Q ⟨none, 0, 0⟩ h2) ∧
    (s1.a.isNone = false →
    new h2 (([] : List (Den ((.int .i64) : Kd))).flatMap (Kd.cells ((.int .i64) : Kd))) fun p3 h4 =>
    appendM 1 8 h4 ⟨some p3, 0, 0⟩ s1 fun t5 h6 =>
    Q t5 h6))
def slices_Clone_int64_int64.mk : Mk := (.s .d (.s (.s .d (.c (.s .d .d) .d)) (.s .d .d)))

def ref4_asked.j1 (Q : Den kapiCall → Heap → Prop) (s9 : (Den kapiCall × Unit)) (h10 : Heap) : Prop :=
    Q (s9.1.1, (s9.1.2.1, (s9.1.2.2.1, (s9.1.2.2.2.1, (s9.1.2.2.2.2.1, (s9.1.2.2.2.2.2.1, (s9.1.2.2.2.2.2.2.1, ()))))))) h10
def ref4_asked.j2 (t2 : Den kapiTodo) (Q : Den kapiCall → Heap → Prop) (s7 : (Den kapiCall × Unit)) (h8 : Heap) : Prop :=
    (((decide (t2.1 = 2)) = true →
    ref4_asked.j1 Q ((1, (s7.1.2.1, (s7.1.2.2.1, (s7.1.2.2.2.1, (s7.1.2.2.2.2.1, (s7.1.2.2.2.2.2.1, (s7.1.2.2.2.2.2.2.1, ()))))))), ()) h8) ∧
    ((decide (t2.1 = 2)) = false →
    ref4_asked.j1 Q ((s7.1.1, (s7.1.2.1, (s7.1.2.2.1, (s7.1.2.2.2.1, (s7.1.2.2.2.2.1, (s7.1.2.2.2.2.2.1, (s7.1.2.2.2.2.2.2.1, ()))))))), ()) h8))
def ref4_asked.j3 (t2 : Den kapiTodo) (Q : Den kapiCall → Heap → Prop) (s5 : (Den kapiCall × Unit)) (h6 : Heap) : Prop :=
    (((decide (t2.1 = 0)) = true →
    ref4_asked.j2 t2 Q ((s5.1.1, (s5.1.2.1, (t2.2.1, (s5.1.2.2.2.1, (s5.1.2.2.2.2.1, (s5.1.2.2.2.2.2.1, (s5.1.2.2.2.2.2.2.1, ()))))))), ()) h6) ∧
    ((decide (t2.1 = 0)) = false →
    ref4_asked.j2 t2 Q ((s5.1.1, (s5.1.2.1, (s5.1.2.2.1, (s5.1.2.2.2.1, (s5.1.2.2.2.2.1, (s5.1.2.2.2.2.2.1, (s5.1.2.2.2.2.2.2.1, ()))))))), ()) h6))
def ref4_asked.j4 (row1 : Sl) (t2 : Den kapiTodo) (Q : Den kapiCall → Heap → Prop) (s11 : (Bool × Unit)) (h12 : Heap) : Prop :=
    ((s11.1 = true →
    ref4_asked.j3 t2 Q ((0, (t2.1, (0, (0, (0, (2, (0, ()))))))), ()) h12) ∧
    (s11.1 = false →
    (((decide (t2.1 = 0)) = true →
    ref4_asked.j3 t2 Q ((0, (t2.1, (0, (0, (0, (3, (0, ()))))))), ()) h12) ∧
    ((decide (t2.1 = 0)) = false →
    (((decide ((row1.len : Int) = 0)) = true →
    ref4_asked.j3 t2 Q ((0, (t2.1, (0, (0, (0, (5, (0, ()))))))), ()) h12) ∧
    ((decide ((row1.len : Int) = 0)) = false →
    (((decide (t2.1 = 1)) = true →
    (0 ≤ (w64 ((row1.len : Int) - 1)) ∧ (w64 ((row1.len : Int) - 1)) < (row1.len : Int)) ∧
    deref row1.a fun a13 =>
    ld ((.int .i64) : Kd) h12 (a13.add (((w64 ((row1.len : Int) - 1)) : Int).toNat * 1)) fun t14 =>
    ref4_asked.j3 t2 Q ((0, (t2.1, (0, (0, (0, (4, (t14, ()))))))), ()) h12) ∧
    ((decide (t2.1 = 1)) = false →
    (0 ≤ (0 : Int) ∧ (0 : Int) < (row1.len : Int)) ∧
    deref row1.a fun a15 =>
    ld ((.int .i64) : Kd) h12 (a15.add (((0 : Int) : Int).toNat * 1)) fun t16 =>
    ref4_asked.j3 t2 Q ((0, (t2.1, (0, (0, (0, (4, (t16, ()))))))), ()) h12))))))))
def ref4_asked.M  (row1 : Sl) (t2 : Den kapiTodo) (most3 : Int) (h4 : Heap) (Q : Den kapiCall → Heap → Prop) : Prop :=
    (((decide (t2.1 = 0)) = true →
    ref4_asked.j4 row1 t2 Q ((decide ((row1.len : Int) < most3)), ()) h4) ∧
    ((decide (t2.1 = 0)) = false →
    ref4_asked.j4 row1 t2 Q (false, ()) h4))
def ref4_asked.mk : Mk := (.s (.r [0, 1]) (.s (.r [3]) (.s .d (.j [.box 7 kapiCall] (.b (.j [.slot 18 .bool] .d (.c .d (.s .d (.c .d (.s .d (.c .d (.s .d (.c .d .d))))))))) (.j [.box 7 kapiCall] (.s .d (.c .d .d)) (.j [.box 7 kapiCall] (.s .d (.c .d .d)) (.s .d .d)))))))

def ref4_Do.M  (row1 : Sl) (c2 : Den kapiCall) (most3 : Int) (h4 : Heap) (Q : (Sl × (Bool × Unit)) → Heap → Prop) : Prop :=
    (((decide (c2.2.2.2.2.2.1 = 3)) = true →
    Q (row1, (decide ((row1.len : Int) = most3)), ()) h4) ∧
    ((decide (c2.2.2.2.2.2.1 = 3)) = false →
    (((decide (c2.2.2.2.2.2.1 = 5)) = true →
    Q (row1, (decide ((row1.len : Int) = 0)), ()) h4) ∧
    ((decide (c2.2.2.2.2.2.1 = 5)) = false →
    (((decide (c2.2.2.2.2.2.1 = 6)) = true →
    Q (row1, true, ()) h4) ∧
    ((decide (c2.2.2.2.2.2.1 = 6)) = false →
    (((decide (c2.2.1 = 0)) = true →
    (((decide (most3 ≤ (row1.len : Int))) = true →
    Q (row1, false, ()) h4) ∧
    ((decide (most3 ≤ (row1.len : Int))) = false →
    new h4 (([] : List (Den ((.int .i64) : Kd))).flatMap (Kd.cells ((.int .i64) : Kd))) fun p5 h6 =>
    appendM 1 8 h6 ⟨some p5, 0, 0⟩ row1 fun t7 h8 =>
    new h8 (([c2.2.2.1] : List (Den ((.int .i64) : Kd))).flatMap (Kd.cells ((.int .i64) : Kd))) fun p9 h10 =>
    appendM 1 8 h10 t7 ⟨some p9, 1, 1⟩ fun t11 h12 =>
    Q (t11, true, ()) h12))) ∧
    ((decide (c2.2.1 = 0)) = false →
    (((decide ((row1.len : Int) = 0)) = true →
    Q (row1, false, ()) h4) ∧
    ((decide ((row1.len : Int) = 0)) = false →
    (((decide (c2.2.1 = 1)) = true →
    (0 ≤ (w64 ((row1.len : Int) - 1)) ∧ (w64 ((row1.len : Int) - 1)) ≤ (row1.cap : Int)) ∧
    (((decide (c2.2.2.2.2.2.1 = 0)) = true →
    Q ((row1.cut 0 (((w64 ((row1.len : Int) - 1)) : Int).toNat) 1), true, ()) h4) ∧
    ((decide (c2.2.2.2.2.2.1 = 0)) = false →
    (0 ≤ (w64 ((row1.len : Int) - 1)) ∧ (w64 ((row1.len : Int) - 1)) < (row1.len : Int)) ∧
    deref row1.a fun a13 =>
    ld ((.int .i64) : Kd) h4 (a13.add (((w64 ((row1.len : Int) - 1)) : Int).toNat * 1)) fun t14 =>
    Q ((row1.cut 0 (((w64 ((row1.len : Int) - 1)) : Int).toNat) 1), (decide (t14 = c2.2.2.2.2.2.2.1)), ()) h4))) ∧
    ((decide (c2.2.1 = 1)) = false →
    (0 ≤ (1 : Int) ∧ (1 : Int) ≤ (row1.len : Int)) ∧
    (((decide (c2.2.2.2.2.2.1 = 0)) = true →
    Q ((row1.cut (((1 : Int) : Int).toNat) row1.len 1), true, ()) h4) ∧
    ((decide (c2.2.2.2.2.2.1 = 0)) = false →
    (0 ≤ (0 : Int) ∧ (0 : Int) < (row1.len : Int)) ∧
    deref row1.a fun a15 =>
    ld ((.int .i64) : Kd) h4 (a15.add (((0 : Int) : Int).toNat * 1)) fun t16 =>
    Q ((row1.cut (((1 : Int) : Int).toNat) row1.len 1), (decide (t16 = c2.2.2.2.2.2.2.1)), ()) h4))))))))))))))
def ref4_Do.mk : Mk := (.s (.r [0]) (.s .d (.s (.s .d (.b (.s .d (.c (.s .d .d) (.s .d (.c (.s .d .d) (.s .d (.c (.s .d .d) .d)))))))) (.s (.s .d (.c (.s (.s .d (.c (.s .d .d) .d)) (.s .d (.s .d (.s .d .d)))) .d)) (.s (.s .d (.c (.s .d .d) .d)) (.s (.s .d (.c (.s (.q [] [] [.p 0, .p 1, .p 2, .p 3, .p 4, .w 5 [5, 6, 7, 8, 9, 10, 11, 12, 13, 14, 15, 16, 17, 18], .p 6, .p 7, .p 8, .p 9, .p 10, .p 11, .p 13, .p 17, .w 12 [12, 15, 16, 18], .w 14 [14, 15, 16, 18], .p 15, .p 16, .p 18]) .d) .d)) (.s (.q [] [] [.p 0, .p 1, .p 2, .w 3 [3, 4, 5, 6, 7, 8, 9, 10, 11, 12, 13, 14], .p 4, .p 5, .p 6, .p 7, .p 9, .p 13, .w 8 [8, 11, 12, 14], .w 10 [10, 11, 12, 14], .p 11, .p 12, .p 14]) .d)))))))

def hist_history.j1 (go8 : (Int × (((Fin 4 → Int) × Unit) × Unit)) → Heap → Prop) (s6 : (Int × (((Fin 4 → Int) × Unit) × Unit))) (s9 : (((Fin 4 → Int) × Unit) × Unit)) (h10 : Heap) : Prop :=
    go8 ((w64 (s6.1 + 1)), (s9.1.1, ()), ()) h10
def hist_history.j2 (go8 : (Int × (((Fin 4 → Int) × Unit) × Unit)) → Heap → Prop) (s6 : (Int × (((Fin 4 → Int) × Unit) × Unit))) (t12 : Den kapiCall) (s15 : Unit) (h16 : Heap) : Prop :=
    (0 ≤ t12.1 ∧ t12.1 < (4 : Int)) ∧
    hist_history.j1 go8 s6 (((aset (n := 4) (a := ((.int .i64) : Kd)) s6.2.1.1 (t12.1 : Int).toNat s6.1), ()), ()) h16
def hist_history.j3 (Q : Bool → Heap → Prop) (go8 : (Int × (((Fin 4 → Int) × Unit) × Unit)) → Heap → Prop) (s6 : (Int × (((Fin 4 → Int) × Unit) × Unit))) (t12 : Den kapiCall) (s17 : (Bool × Unit)) (h18 : Heap) : Prop :=
    ((s17.1 = true →
    Q false h18) ∧
    (s17.1 = false →
    hist_history.j2 go8 s6 t12 () h18))
def hist_history.l4 (c_hist_sound : Den kapiCall → Heap → (Bool → Heap → Prop) → Prop) (calls1 : Sl) (Q : Bool → Heap → Prop) (go8 : (Int × (((Fin 4 → Int) × Unit) × Unit)) → Heap → Prop) (s6 : (Int × (((Fin 4 → Int) × Unit) × Unit))) (h7 : Heap) : Prop :=
    (((decide (s6.1 < (calls1.len : Int))) = true →
    (0 ≤ s6.1 ∧ s6.1 < (calls1.len : Int)) ∧
    deref calls1.a fun a11 =>
    ld kapiCall h7 (a11.add ((s6.1 : Int).toNat * 7)) fun t12 =>
    c_hist_sound (t12.1, (t12.2.1, (t12.2.2.1, (t12.2.2.2.1, (t12.2.2.2.2.1, (t12.2.2.2.2.2.1, (t12.2.2.2.2.2.2.1, ()))))))) h7 fun r13 h14 =>
    (((!r13) = true →
    Q false h14) ∧
    ((!r13) = false →
    (0 ≤ t12.1 ∧ t12.1 < (4 : Int)) ∧
    (((decide ((0 : Int) ≤ (aget (n := 4) (a := ((.int .i64) : Kd)) s6.2.1.1 (t12.1 : Int).toNat))) = true →
    (0 ≤ (aget (n := 4) (a := ((.int .i64) : Kd)) s6.2.1.1 (t12.1 : Int).toNat) ∧ (aget (n := 4) (a := ((.int .i64) : Kd)) s6.2.1.1 (t12.1 : Int).toNat) < (calls1.len : Int)) ∧
    deref calls1.a fun a19 =>
    ld ((.int .i64) : Kd) h14 ((a19.add (((aget (n := 4) (a := ((.int .i64) : Kd)) s6.2.1.1 (t12.1 : Int).toNat) : Int).toNat * 7)).add 5) fun t20 =>
    (((decide (t20 = 0)) = true →
    hist_history.j3 Q go8 s6 t12 (true, ()) h14) ∧
    ((decide (t20 = 0)) = false →
    (0 ≤ (aget (n := 4) (a := ((.int .i64) : Kd)) s6.2.1.1 (t12.1 : Int).toNat) ∧ (aget (n := 4) (a := ((.int .i64) : Kd)) s6.2.1.1 (t12.1 : Int).toNat) < (calls1.len : Int)) ∧
    deref calls1.a fun a21 =>
    ld ((.int .i64) : Kd) h14 ((a21.add (((aget (n := 4) (a := ((.int .i64) : Kd)) s6.2.1.1 (t12.1 : Int).toNat) : Int).toNat * 7)).add 4) fun t22 =>
    hist_history.j3 Q go8 s6 t12 ((decide (t12.2.2.2.1 ≤ t22)), ()) h14))) ∧
    ((decide ((0 : Int) ≤ (aget (n := 4) (a := ((.int .i64) : Kd)) s6.2.1.1 (t12.1 : Int).toNat))) = false →
    hist_history.j3 Q go8 s6 t12 (false, ()) h14))))) ∧
    ((decide (s6.1 < (calls1.len : Int))) = false →
    Q true h7))
def hist_history.l5 (c_hist_sound : Den kapiCall → Heap → (Bool → Heap → Prop) → Prop) (calls1 : Sl) (Q : Bool → Heap → Prop) (go5 : (Int × (((Fin 4 → Int) × Unit) × Unit)) → Heap → Prop) (s3 : (Int × (((Fin 4 → Int) × Unit) × Unit))) (h4 : Heap) : Prop :=
    (((decide (s3.1 < 4)) = true →
    (0 ≤ s3.1 ∧ s3.1 < (4 : Int)) ∧
    go5 ((w64 (s3.1 + 1)), ((aset (n := 4) (a := ((.int .i64) : Kd)) s3.2.1.1 (s3.1 : Int).toNat (-1)), ()), ()) h4) ∧
    ((decide (s3.1 < 4)) = false →
    Loop (hist_history.l4 c_hist_sound calls1 Q) (0, (s3.2.1.1, ()), ()) h4))
def hist_history.M (c_hist_sound : Den kapiCall → Heap → (Bool → Heap → Prop) → Prop) (calls1 : Sl) (h2 : Heap) (Q : Bool → Heap → Prop) : Prop :=
    Loop (hist_history.l5 c_hist_sound calls1 Q) (0, ((fun _ => 0), ()), ()) h2
def hist_history.mk : Mk := (.s .d (.s (.r [0]) (.s (.s .d (.b (.l [.slot 8 (.int .i64), .box 3 (.pair (.arr 4 (.int .i64)) .nil)] (.s .d (.s (.c .d .d) (.s (.b (.s .d .d)) .d)))))) (.s (.s .d (.b (.l [.slot 16 (.int .i64), .box 3 (.pair (.arr 4 (.int .i64)) .nil)] (.s .d (.s (.c .d .d) (.j [.box 3 (.pair (.arr 4 (.int .i64)) .nil)] (.b (.s (.r [3]) (.s (.s .d (.c (.s .d .d) .d)) (.j [] (.s .d (.j [.slot 47 .bool] (.q [] [] [.p 0, .p 1, .p 2, .p 3, .p 4, .p 5, .p 6, .w 7 [7, 8, 9, 10, 11, 12, 13, 14, 15, 16, 17, 18, 19], .p 8, .p 9, .p 10, .p 11, .p 12, .p 13, .p 15, .w 14 [14, 17, 18, 19], .w 16 [16, 17, 18, 19], .p 17, .p 18, .p 19]) (.c (.s .d .d) .d))) .d)))) .d)))))) (.s .d .d)))))

def ref4_Bad.j1 (c_ref4_History : Sl → Heap → (Bool → Heap → Prop) → Prop) (calls1 : Sl) (Q : Int → Heap → Prop) (s4 : Unit) (h5 : Heap) : Prop :=
    c_ref4_History calls1 h5 fun r6 h7 =>
    (((!r6) = true →
    Q 40 h7) ∧
    ((!r6) = false →
    Q 0 h7))
def ref4_Bad.j2 (c_ref4_History : Sl → Heap → (Bool → Heap → Prop) → Prop) (calls1 : Sl) (Q : Int → Heap → Prop) (s8 : (Bool × Unit)) (h9 : Heap) : Prop :=
    ((s8.1 = true →
    Q 3 h9) ∧
    (s8.1 = false →
    ref4_Bad.j1 c_ref4_History calls1 Q () h9))
def ref4_Bad.M (c_ref4_History : Sl → Heap → (Bool → Heap → Prop) → Prop) (calls1 : Sl) (most2 : Int) (h3 : Heap) (Q : Int → Heap → Prop) : Prop :=
    (((decide ((40 : Int) < (calls1.len : Int))) = true →
    Q 2 h3) ∧
    ((decide ((40 : Int) < (calls1.len : Int))) = false →
    (((decide (most2 < 1)) = true →
    ref4_Bad.j2 c_ref4_History calls1 Q (true, ()) h3) ∧
    ((decide (most2 < 1)) = false →
    ref4_Bad.j2 c_ref4_History calls1 Q ((decide ((4096 : Int) < most2)), ()) h3))))
def ref4_Bad.mk : Mk := (.s .d (.s (.s .d (.c (.s .d .d) .d)) (.j [] (.j [.slot 13 .bool] .d (.c (.s .d .d) .d)) (.s (.s .d (.c (.s .d .d) .d)) (.s .d .d)))))

def ref4_Replay.j1 (go9 : (Sl × (Int × Unit)) → Heap → Prop) (s7 : (Sl × (Int × Unit))) (s10 : (Sl × Unit)) (h11 : Heap) : Prop :=
    go9 (s10.1, (w64 (s7.2.1 + 1)), ()) h11
def ref4_Replay.l2 (c_ref4_ahead : Den kapiCall → Den kapiCall → Heap → (Bool → Heap → Prop) → Prop) (c_ref4_Do : Sl → Den kapiCall → Int → Heap → ((Sl × (Bool × Unit)) → Heap → Prop) → Prop) (calls1 : Sl) (most2 : Int) (order3 : Sl) (Q : (Sl × (Bool × Unit)) → Heap → Prop) (s5 : Sl) (go9 : (Sl × (Int × Unit)) → Heap → Prop) (s7 : (Sl × (Int × Unit))) (t13 : Int) (go18 : (Int × Unit) → Heap → Prop) (s16 : (Int × Unit)) (h17 : Heap) : Prop :=
    (((decide (s16.1 < s7.2.1)) = true →
    (0 ≤ t13 ∧ t13 < (calls1.len : Int)) ∧
    deref calls1.a fun a19 =>
    (0 ≤ s16.1 ∧ s16.1 < (order3.len : Int)) ∧
    deref order3.a fun a20 =>
    ld kapiCall h17 (a19.add ((t13 : Int).toNat * 7)) fun t21 =>
    ld ((.int .i64) : Kd) h17 (a20.add ((s16.1 : Int).toNat * 1)) fun t22 =>
    (0 ≤ t22 ∧ t22 < (calls1.len : Int)) ∧
    deref calls1.a fun a23 =>
    ld kapiCall h17 (a23.add ((t22 : Int).toNat * 7)) fun t24 =>
    c_ref4_ahead t21 t24 h17 fun r25 h26 =>
    ((r25 = true →
    Q (⟨none, 0, 0⟩, false, ()) h26) ∧
    (r25 = false →
    go18 ((w64 (s16.1 + 1)), ()) h26))) ∧
    ((decide (s16.1 < s7.2.1)) = false →
    (0 ≤ t13 ∧ t13 < (s5.len : Int)) ∧
    deref s5.a fun a27 =>
    st (.bool : Kd) h17 (a27.add ((t13 : Int).toNat * 1)) true fun h28 =>
    (0 ≤ t13 ∧ t13 < (calls1.len : Int)) ∧
    deref calls1.a fun a29 =>
    ld kapiCall h28 (a29.add ((t13 : Int).toNat * 7)) fun t30 =>
    c_ref4_Do s7.1 t30 most2 h28 fun r31 h32 =>
    (((!r31.2.1) = true →
    Q (⟨none, 0, 0⟩, false, ()) h32) ∧
    ((!r31.2.1) = false →
    ref4_Replay.j1 go9 s7 (r31.1, ()) h32))))
def ref4_Replay.j3 (c_ref4_ahead : Den kapiCall → Den kapiCall → Heap → (Bool → Heap → Prop) → Prop) (c_ref4_Do : Sl → Den kapiCall → Int → Heap → ((Sl × (Bool × Unit)) → Heap → Prop) → Prop) (calls1 : Sl) (most2 : Int) (order3 : Sl) (Q : (Sl × (Bool × Unit)) → Heap → Prop) (s5 : Sl) (go9 : (Sl × (Int × Unit)) → Heap → Prop) (s7 : (Sl × (Int × Unit))) (t13 : Int) (s14 : Unit) (h15 : Heap) : Prop :=
    Loop (ref4_Replay.l2 c_ref4_ahead c_ref4_Do calls1 most2 order3 Q s5 go9 s7 t13) (0, ()) h15
def ref4_Replay.j4 (c_ref4_ahead : Den kapiCall → Den kapiCall → Heap → (Bool → Heap → Prop) → Prop) (c_ref4_Do : Sl → Den kapiCall → Int → Heap → ((Sl × (Bool × Unit)) → Heap → Prop) → Prop) (calls1 : Sl) (most2 : Int) (order3 : Sl) (Q : (Sl × (Bool × Unit)) → Heap → Prop) (s5 : Sl) (go9 : (Sl × (Int × Unit)) → Heap → Prop) (s7 : (Sl × (Int × Unit))) (t13 : Int) (s33 : (Bool × Unit)) (h34 : Heap) : Prop :=
    ((s33.1 = true →
    Q (⟨none, 0, 0⟩, false, ()) h34) ∧
    (s33.1 = false →
    ref4_Replay.j3 c_ref4_ahead c_ref4_Do calls1 most2 order3 Q s5 go9 s7 t13 () h34))
def ref4_Replay.j5 (go39 : (Int × Unit) → Heap → Prop) (s37 : (Int × Unit)) (s40 : Unit) (h41 : Heap) : Prop :=
    go39 ((w64 (s37.1 + 1)), ()) h41
def ref4_Replay.j6 (Q : (Sl × (Bool × Unit)) → Heap → Prop) (go39 : (Int × Unit) → Heap → Prop) (s37 : (Int × Unit)) (s42 : (Bool × Unit)) (h43 : Heap) : Prop :=
    ((s42.1 = true →
    Q (⟨none, 0, 0⟩, false, ()) h43) ∧
    (s42.1 = false →
    ref4_Replay.j5 go39 s37 () h43))
def ref4_Replay.l7 (calls1 : Sl) (Q : (Sl × (Bool × Unit)) → Heap → Prop) (s5 : Sl) (s7 : (Sl × (Int × Unit))) (go39 : (Int × Unit) → Heap → Prop) (s37 : (Int × Unit)) (h38 : Heap) : Prop :=
    (((decide (s37.1 < (calls1.len : Int))) = true →
    (0 ≤ s37.1 ∧ s37.1 < (calls1.len : Int)) ∧
    deref calls1.a fun a44 =>
    ld ((.int .i64) : Kd) h38 ((a44.add ((s37.1 : Int).toNat * 7)).add 4) fun t45 =>
    (((decide ((0 : Int) ≤ t45)) = true →
    (0 ≤ s37.1 ∧ s37.1 < (s5.len : Int)) ∧
    deref s5.a fun a46 =>
    ld (.bool : Kd) h38 (a46.add ((s37.1 : Int).toNat * 1)) fun t47 =>
    ref4_Replay.j6 Q go39 s37 ((!t47), ()) h38) ∧
    ((decide ((0 : Int) ≤ t45)) = false →
    ref4_Replay.j6 Q go39 s37 (false, ()) h38))) ∧
    ((decide (s37.1 < (calls1.len : Int))) = false →
    Q (s7.1, true, ()) h38))
def ref4_Replay.l8 (c_ref4_ahead : Den kapiCall → Den kapiCall → Heap → (Bool → Heap → Prop) → Prop) (c_ref4_Do : Sl → Den kapiCall → Int → Heap → ((Sl × (Bool × Unit)) → Heap → Prop) → Prop) (calls1 : Sl) (most2 : Int) (order3 : Sl) (Q : (Sl × (Bool × Unit)) → Heap → Prop) (s5 : Sl) (go9 : (Sl × (Int × Unit)) → Heap → Prop) (s7 : (Sl × (Int × Unit))) (h8 : Heap) : Prop :=
    (((decide (s7.2.1 < (order3.len : Int))) = true →
    (0 ≤ s7.2.1 ∧ s7.2.1 < (order3.len : Int)) ∧
    deref order3.a fun a12 =>
    ld ((.int .i64) : Kd) h8 (a12.add ((s7.2.1 : Int).toNat * 1)) fun t13 =>
    (((decide (t13 < 0)) = true →
    ref4_Replay.j4 c_ref4_ahead c_ref4_Do calls1 most2 order3 Q s5 go9 s7 t13 (true, ()) h8) ∧
    ((decide (t13 < 0)) = false →
    (((decide ((calls1.len : Int) ≤ t13)) = true →
    ref4_Replay.j4 c_ref4_ahead c_ref4_Do calls1 most2 order3 Q s5 go9 s7 t13 (true, ()) h8) ∧
    ((decide ((calls1.len : Int) ≤ t13)) = false →
    (0 ≤ t13 ∧ t13 < (s5.len : Int)) ∧
    deref s5.a fun a35 =>
    ld (.bool : Kd) h8 (a35.add ((t13 : Int).toNat * 1)) fun t36 =>
    ref4_Replay.j4 c_ref4_ahead c_ref4_Do calls1 most2 order3 Q s5 go9 s7 t13 (t36, ()) h8))))) ∧
    ((decide (s7.2.1 < (order3.len : Int))) = false →
    Loop (ref4_Replay.l7 calls1 Q s5 s7) (0, ()) h8))
def ref4_Replay.M (c_ref4_ahead : Den kapiCall → Den kapiCall → Heap → (Bool → Heap → Prop) → Prop) (c_ref4_Do : Sl → Den kapiCall → Int → Heap → ((Sl × (Bool × Unit)) → Heap → Prop) → Prop) (calls1 : Sl) (most2 : Int) (order3 : Sl) (h4 : Heap) (Q : (Sl × (Bool × Unit)) → Heap → Prop) : Prop :=
    makeM (.bool : Kd) 1 h4 (calls1.len : Int) (calls1.len : Int) fun s5 h6 =>
    Loop (ref4_Replay.l8 c_ref4_ahead c_ref4_Do calls1 most2 order3 Q s5) (⟨none, 0, 0⟩, 0, ()) h6
def ref4_Replay.mk : Mk := (.s .d (.s .d (.s .d (.s (.s .d (.b (.l [.slot 8 .sl, .slot 10 (.int .i64)] (.s (.s .d (.c .d .d)) (.j [.slot 8 .sl] (.b (.s .d (.j [] (.j [.slot 42 .bool] .d (.c (.s .d .d) .d)) (.s (.s .d (.b (.l [.slot 12 (.int .i64)] (.s (.s .d (.c .d .d)) (.s (.b (.s (.q [] [] [.p 0, .p 1, .p 2, .p 4, .p 5, .p 6, .p 7, .w 3 [3, 11], .w 8 [8, 9, 10, 11], .p 9, .w 10 [10, 11], .o 11]) (.c (.s .d .d) .d))) .d))))) (.s .d (.s .d (.s (.s .d (.c (.s .d .d) .d)) .d))))))) .d))))) (.s (.s .d (.b (.l [.slot 15 (.int .i64)] (.s (.s .d (.c .d .d)) (.j [] (.b (.j [.slot 94 .bool] .d (.c (.s .d .d) .d))) .d))))) (.s .d .d))))))

def hist_search_from.j1 (go18 : (Int × Unit) → Heap → Prop) (s16 : (Int × Unit)) (s19 : Unit) (h20 : Heap) : Prop :=
    go18 ((w64 (s16.1 + 1)), ()) h20
def hist_search_from.j2 (c_hist_search_from : Option Addr → (Fin 4 → Int) → Sl → Heap → (Bool → Heap → Prop) → Prop) (s1 : Option Addr) (taken2 : (Fin 4 → Int)) (Q : Bool → Heap → Prop) (go18 : (Int × Unit) → Heap → Prop) (s16 : (Int × Unit)) (t22 : Int) (r29 : (Sl × (Bool × Unit))) (s31 : Unit) (h32 : Heap) : Prop :=
    deref s1 fun a33 =>
    ld (.sl : Kd) h32 (a33.add 7) fun t34 =>
    new h32 (([t22] : List (Den ((.int .i64) : Kd))).flatMap (Kd.cells ((.int .i64) : Kd))) fun p35 h36 =>
    appendM 1 8 h36 t34 ⟨some p35, 1, 1⟩ fun t37 h38 =>
    deref s1 fun a39 =>
    st (.sl : Kd) h38 (a39.add 7) t37 fun h40 =>
    (0 ≤ s16.1 ∧ s16.1 < (4 : Int)) ∧
    (0 ≤ s16.1 ∧ s16.1 < (4 : Int)) ∧
    c_hist_search_from s1 (aset (n := 4) (a := ((.int .i64) : Kd)) taken2 (s16.1 : Int).toNat (w64 ((aget (n := 4) (a := ((.int .i64) : Kd)) taken2 (s16.1 : Int).toNat) + 1))) r29.1 h40 fun r41 h42 =>
    ((r41 = true →
    Q true h42) ∧
    (r41 = false →
    deref s1 fun a43 =>
    deref s1 fun a44 =>
    ld (.sl : Kd) h42 (a43.add 7) fun t45 =>
    ld (.sl : Kd) h42 (a44.add 7) fun t46 =>
    (0 ≤ (w64 ((t46.len : Int) - 1)) ∧ (w64 ((t46.len : Int) - 1)) ≤ (t45.cap : Int)) ∧
    deref s1 fun a47 =>
    st (.sl : Kd) h42 (a47.add 7) (t45.cut 0 (((w64 ((t46.len : Int) - 1)) : Int).toNat) 1) fun h48 =>
    hist_search_from.j1 go18 s16 () h48))
def hist_search_from.j3 (c_hist_search_from : Option Addr → (Fin 4 → Int) → Sl → Heap → (Bool → Heap → Prop) → Prop) (s1 : Option Addr) (taken2 : (Fin 4 → Int)) (Q : Bool → Heap → Prop) (go18 : (Int × Unit) → Heap → Prop) (s16 : (Int × Unit)) (t22 : Int) (r29 : (Sl × (Bool × Unit))) (s49 : (Bool × Unit)) (h50 : Heap) : Prop :=
    ((s49.1 = true →
    hist_search_from.j1 go18 s16 () h50) ∧
    (s49.1 = false →
    hist_search_from.j2 c_hist_search_from s1 taken2 Q go18 s16 t22 r29 () h50))
def hist_search_from.l4 (c_hist_row_does : Sl → Den kapiCall → Int → Heap → ((Sl × (Bool × Unit)) → Heap → Prop) → Prop) (c_hist_search_waits : Option Addr → (Fin 4 → Int) → Den kapiCall → Heap → (Bool → Heap → Prop) → Prop) (c_hist_search_from : Option Addr → (Fin 4 → Int) → Sl → Heap → (Bool → Heap → Prop) → Prop) (s1 : Option Addr) (taken2 : (Fin 4 → Int)) (held3 : Sl) (Q : Bool → Heap → Prop) (t15 : (Fin 4 → Sl)) (go18 : (Int × Unit) → Heap → Prop) (s16 : (Int × Unit)) (h17 : Heap) : Prop :=
    (((decide (s16.1 < 4)) = true →
    (0 ≤ s16.1 ∧ s16.1 < (4 : Int)) ∧
    (0 ≤ s16.1 ∧ s16.1 < (4 : Int)) ∧
    (((decide (((aget (n := 4) (a := (.sl : Kd)) t15 (s16.1 : Int).toNat).len : Int) ≤ (aget (n := 4) (a := ((.int .i64) : Kd)) taken2 (s16.1 : Int).toNat))) = true →
    hist_search_from.j1 go18 s16 () h17) ∧
    ((decide (((aget (n := 4) (a := (.sl : Kd)) t15 (s16.1 : Int).toNat).len : Int) ≤ (aget (n := 4) (a := ((.int .i64) : Kd)) taken2 (s16.1 : Int).toNat))) = false →
    (0 ≤ s16.1 ∧ s16.1 < (4 : Int)) ∧
    (0 ≤ (aget (n := 4) (a := ((.int .i64) : Kd)) taken2 (s16.1 : Int).toNat) ∧ (aget (n := 4) (a := ((.int .i64) : Kd)) taken2 (s16.1 : Int).toNat) < ((aget (n := 4) (a := (.sl : Kd)) t15 (s16.1 : Int).toNat).len : Int)) ∧
    deref (aget (n := 4) (a := (.sl : Kd)) t15 (s16.1 : Int).toNat).a fun a21 =>
    ld ((.int .i64) : Kd) h17 (a21.add (((aget (n := 4) (a := ((.int .i64) : Kd)) taken2 (s16.1 : Int).toNat) : Int).toNat * 1)) fun t22 =>
    deref s1 fun a23 =>
    ld (.sl : Kd) h17 (a23.add 0) fun t24 =>
    (0 ≤ t22 ∧ t22 < (t24.len : Int)) ∧
    deref t24.a fun a25 =>
    ld kapiCall h17 (a25.add ((t22 : Int).toNat * 7)) fun t26 =>
    deref s1 fun a27 =>
    ld ((.int .i64) : Kd) h17 (a27.add 1) fun t28 =>
    c_hist_row_does held3 (t26.1, (t26.2.1, (t26.2.2.1, (t26.2.2.2.1, (t26.2.2.2.2.1, (t26.2.2.2.2.2.1, (t26.2.2.2.2.2.2.1, ()))))))) t28 h17 fun r29 h30 =>
    (((!r29.2.1) = true →
    hist_search_from.j3 c_hist_search_from s1 taken2 Q go18 s16 t22 r29 (true, ()) h30) ∧
    ((!r29.2.1) = false →
    c_hist_search_waits s1 taken2 (t26.1, (t26.2.1, (t26.2.2.1, (t26.2.2.2.1, (t26.2.2.2.2.1, (t26.2.2.2.2.2.1, (t26.2.2.2.2.2.2.1, ()))))))) h30 fun r51 h52 =>
    hist_search_from.j3 c_hist_search_from s1 taken2 Q go18 s16 t22 r29 (r51, ()) h52))))) ∧
    ((decide (s16.1 < 4)) = false →
    Q false h17))
def hist_search_from.M (c_hist_search_done : Option Addr → (Fin 4 → Int) → Heap → (Bool → Heap → Prop) → Prop) (c_hist_row_does : Sl → Den kapiCall → Int → Heap → ((Sl × (Bool × Unit)) → Heap → Prop) → Prop) (c_hist_search_waits : Option Addr → (Fin 4 → Int) → Den kapiCall → Heap → (Bool → Heap → Prop) → Prop) (c_hist_search_from : Option Addr → (Fin 4 → Int) → Sl → Heap → (Bool → Heap → Prop) → Prop) (s1 : Option Addr) (taken2 : (Fin 4 → Int)) (held3 : Sl) (h4 : Heap) (Q : Bool → Heap → Prop) : Prop :=
    c_hist_search_done s1 taken2 h4 fun r5 h6 =>
    ((r5 = true →
    Q true h6) ∧
    (r5 = false →
    deref s1 fun a7 =>
    ld (.map : Kd) h6 (a7.add 6) fun t8 =>
    mapAt ((.arr 4 (.int .i64)) : Kd) ((.int .i64) : Kd) h6 t8 taken2 fun t9 b10 =>
    (((decide ((0 : Int) < t9)) = true →
    Q false h6) ∧
    ((decide ((0 : Int) < t9)) = false →
    deref s1 fun a11 =>
    ld (.map : Kd) h6 (a11.add 6) fun t12 =>
    mapPut ((.arr 4 (.int .i64)) : Kd) ((.int .i64) : Kd) h6 t12 taken2 1 fun h13 =>
    deref s1 fun a14 =>
    ld ((.arr 4 .sl) : Kd) h13 (a14.add 2) fun t15 =>
    Loop (hist_search_from.l4 c_hist_row_does c_hist_search_waits c_hist_search_from s1 taken2 held3 Q t15) (0, ()) h13))))
def hist_search_from.mk : Mk := (.s (.r [0]) (.s (.s .d (.c (.s .d .d) .d)) (.s (.s (.q [] [] [.p 0, .p 1, .p 2, .w 3 [3, 5, 6], .w 4 [4, 5, 6], .o 5, .p 6]) (.c (.s .d .d) .d)) (.s (.q [] [] [.p 0, .p 1, .p 2, .w 3 [3, 5], .w 4 [4, 5], .o 5]) (.s (.s .d (.b (.l [.slot 33 (.int .i64)] (.s .d (.s (.c .d .d) (.j [] (.b (.s .d (.s (.s .d (.c .d .d)) (.s .d (.s (.r [7]) (.s (.q [] [] [.p 0, .p 2, .p 3, .p 4, .w 1 [1, 6, 7, 8, 9, 10, 11], .w 5 [5, 6, 7, 8, 9, 10, 11], .o 6, .p 7, .p 8, .p 9, .p 10, .p 11]) (.j [] (.j [.slot 73 .bool] .d (.c .d .d)) (.s .d (.s (.r [1]) (.s .d (.s (.s .d (.c (.s .d .d) .d)) (.q [] [] [.p 0, .p 1, .p 2, .p 3, .p 5, .p 6, .p 7, .w 4 [4, 11, 12, 13, 14], .w 8 [8, 9, 10, 11, 12, 13, 14], .p 9, .p 10, .p 11, .p 12, .p 13, .o 14])))))))))))) .d)))))) (.s .d .d))))))

def slices_Clone_int_int.M  (s1 : Sl) (h2 : Heap) (Q : Sl → Heap → Prop) : Prop :=
    ((s1.a.isNone = true →
    Q ⟨none, 0, 0⟩ h2) ∧
    (s1.a.isNone = false →
    new h2 (([] : List (Den ((.int .i64) : Kd))).flatMap (Kd.cells ((.int .i64) : Kd))) fun p3 h4 =>
    appendM 1 8 h4 ⟨some p3, 0, 0⟩ s1 fun t5 h6 =>
    Q t5 h6))
def slices_Clone_int_int.mk : Mk := (.s .d (.s (.s .d (.c (.s .d .d) .d)) (.s .d .d)))

def ref4_Has.l1 (c_ref4_step : Sl → Int → Den kref4State → Int → Sl → Heap → (Sl → Heap → Prop) → Prop) (calls1 : Sl) (most2 : Int) (s6 : (Sl × Unit)) (go11 : (Sl × (Int × Unit)) → Heap → Prop) (s9 : (Sl × (Int × Unit))) (go18 : (Sl × (Int × Unit)) → Heap → Prop) (s16 : (Sl × (Int × Unit))) (h17 : Heap) : Prop :=
    (((decide (s16.2.1 < 4)) = true →
    (0 ≤ s9.2.1 ∧ s9.2.1 < (s6.1.len : Int)) ∧
    deref s6.1.a fun a19 =>
    ld kref4State h17 (a19.add ((s9.2.1 : Int).toNat * 5)) fun t20 =>
    c_ref4_step calls1 most2 t20 s16.2.1 s16.1 h17 fun r21 h22 =>
    go18 (r21, (w64 (s16.2.1 + 1)), ()) h22) ∧
    ((decide (s16.2.1 < 4)) = false →
    go11 (s16.1, (w64 (s9.2.1 + 1)), ()) h17))
def ref4_Has.l2 (c_ref4_over : Sl → Den kref4State → Heap → (Bool → Heap → Prop) → Prop) (c_ref4_step : Sl → Int → Den kref4State → Int → Sl → Heap → (Sl → Heap → Prop) → Prop) (calls1 : Sl) (most2 : Int) (Q : Bool → Heap → Prop) (go8 : (Sl × Unit) → Heap → Prop) (s6 : (Sl × Unit)) (go11 : (Sl × (Int × Unit)) → Heap → Prop) (s9 : (Sl × (Int × Unit))) (h10 : Heap) : Prop :=
    (((decide (s9.2.1 < (s6.1.len : Int))) = true →
    (0 ≤ s9.2.1 ∧ s9.2.1 < (s6.1.len : Int)) ∧
    deref s6.1.a fun a12 =>
    ld kref4State h10 (a12.add ((s9.2.1 : Int).toNat * 5)) fun t13 =>
    c_ref4_over calls1 t13 h10 fun r14 h15 =>
    ((r14 = true →
    Q true h15) ∧
    (r14 = false →
    Loop (ref4_Has.l1 c_ref4_step calls1 most2 s6 go11 s9) (s9.1, 0, ()) h15))) ∧
    ((decide (s9.2.1 < (s6.1.len : Int))) = false →
    go8 (s9.1, ()) h10))
def ref4_Has.l3 (c_ref4_over : Sl → Den kref4State → Heap → (Bool → Heap → Prop) → Prop) (c_ref4_step : Sl → Int → Den kref4State → Int → Sl → Heap → (Sl → Heap → Prop) → Prop) (calls1 : Sl) (most2 : Int) (Q : Bool → Heap → Prop) (go8 : (Sl × Unit) → Heap → Prop) (s6 : (Sl × Unit)) (h7 : Heap) : Prop :=
    (((decide ((0 : Int) < (s6.1.len : Int))) = true →
    Loop (ref4_Has.l2 c_ref4_over c_ref4_step calls1 most2 Q go8 s6) (⟨none, 0, 0⟩, 0, ()) h7) ∧
    ((decide ((0 : Int) < (s6.1.len : Int))) = false →
    Q false h7))
def ref4_Has.M (c_ref4_over : Sl → Den kref4State → Heap → (Bool → Heap → Prop) → Prop) (c_ref4_step : Sl → Int → Den kref4State → Int → Sl → Heap → (Sl → Heap → Prop) → Prop) (calls1 : Sl) (most2 : Int) (h3 : Heap) (Q : Bool → Heap → Prop) : Prop :=
    new h3 (([((fun _ => 0), (Sl.none, ()))] : List (Den kref4State)).flatMap (Kd.cells kref4State)) fun p4 h5 =>
    Loop (ref4_Has.l3 c_ref4_over c_ref4_step calls1 most2 Q) (⟨some p4, 1, 1⟩, ()) h5
def ref4_Has.mk : Mk := (.s .d (.s .d (.s (.b (.l [.slot 5 .sl] (.s (.s .d (.c .d .d)) (.b (.s .d (.s (.s .d (.b (.l [.slot 6 .sl, .slot 7 (.int .i64)] (.s (.s .d (.c .d .d)) (.s (.b (.s (.s .d (.c (.s .d .d) .d)) (.s .d (.b (.l [.slot 6 .sl, .slot 8 (.int .i64)] (.s (.s .d (.c .d .d)) (.s (.b .d) .d))))))) .d))))) .d)))))) (.s .d .d))))

def hist_sound.j1 (c_hist_may : Int → Int → Heap → (Bool → Heap → Prop) → Prop) (c1 : Den kapiCall) (Q : Bool → Heap → Prop) (s7 : Unit) (h8 : Heap) : Prop :=
    (((decide (c1.2.2.2.2.2.1 = 0)) = true →
    Q (decide (c1.2.2.2.2.1 = (-1))) h8) ∧
    ((decide (c1.2.2.2.2.2.1 = 0)) = false →
    (((decide (c1.2.2.2.1 ≤ c1.2.2.2.2.1)) = true →
    c_hist_may c1.2.1 c1.2.2.2.2.2.1 h8 fun r9 h10 =>
    Q r9 h10) ∧
    ((decide (c1.2.2.2.1 ≤ c1.2.2.2.2.1)) = false →
    Q false h8))))
def hist_sound.j2 (c_hist_may : Int → Int → Heap → (Bool → Heap → Prop) → Prop) (c1 : Den kapiCall) (Q : Bool → Heap → Prop) (s11 : (Bool × Unit)) (h12 : Heap) : Prop :=
    ((s11.1 = true →
    Q false h12) ∧
    (s11.1 = false →
    hist_sound.j1 c_hist_may c1 Q () h12))
def hist_sound.j3 (c_hist_may : Int → Int → Heap → (Bool → Heap → Prop) → Prop) (c1 : Den kapiCall) (Q : Bool → Heap → Prop) (s5 : Unit) (h6 : Heap) : Prop :=
    (((decide ((0 : Int) < c1.1)) = true →
    hist_sound.j2 c_hist_may c1 Q ((decide (c1.2.1 ≠ 2)), ()) h6) ∧
    ((decide ((0 : Int) < c1.1)) = false →
    hist_sound.j2 c_hist_may c1 Q (false, ()) h6))
def hist_sound.j4 (c_hist_may : Int → Int → Heap → (Bool → Heap → Prop) → Prop) (c1 : Den kapiCall) (Q : Bool → Heap → Prop) (s13 : (Bool × Unit)) (h14 : Heap) : Prop :=
    ((s13.1 = true →
    Q false h14) ∧
    (s13.1 = false →
    hist_sound.j3 c_hist_may c1 Q () h14))
def hist_sound.j5 (c_hist_may : Int → Int → Heap → (Bool → Heap → Prop) → Prop) (c1 : Den kapiCall) (Q : Bool → Heap → Prop) (s3 : Unit) (h4 : Heap) : Prop :=
    (((decide (c1.1 = 0)) = true →
    (((decide (c1.2.1 ≠ 0)) = true →
    hist_sound.j4 c_hist_may c1 Q ((decide (c1.2.1 ≠ 1)), ()) h4) ∧
    ((decide (c1.2.1 ≠ 0)) = false →
    hist_sound.j4 c_hist_may c1 Q (false, ()) h4))) ∧
    ((decide (c1.1 = 0)) = false →
    hist_sound.j4 c_hist_may c1 Q (false, ()) h4))
def hist_sound.j6 (c_hist_may : Int → Int → Heap → (Bool → Heap → Prop) → Prop) (c1 : Den kapiCall) (Q : Bool → Heap → Prop) (s15 : (Bool × Unit)) (h16 : Heap) : Prop :=
    ((s15.1 = true →
    Q false h16) ∧
    (s15.1 = false →
    hist_sound.j5 c_hist_may c1 Q () h16))
def hist_sound.M (c_hist_may : Int → Int → Heap → (Bool → Heap → Prop) → Prop) (c1 : Den kapiCall) (h2 : Heap) (Q : Bool → Heap → Prop) : Prop :=
    (((decide (c1.1 < 0)) = true →
    hist_sound.j6 c_hist_may c1 Q (true, ()) h2) ∧
    ((decide (c1.1 < 0)) = false →
    (((decide ((4 : Int) ≤ c1.1)) = true →
    hist_sound.j6 c_hist_may c1 Q (true, ()) h2) ∧
    ((decide ((4 : Int) ≤ c1.1)) = false →
    hist_sound.j6 c_hist_may c1 Q ((decide (c1.2.2.2.1 < 0)), ()) h2))))
def hist_sound.mk : Mk := (.s (.r [0]) (.j [] (.j [.slot 15 .bool] .d (.c (.s .d .d) .d)) (.j [] (.j [.slot 28 .bool] .d (.c (.s .d .d) .d)) (.j [] (.j [.slot 36 .bool] .d (.c (.s .d .d) .d)) (.s (.s .d (.c (.s .d .d) .d)) (.s .d .d))))))

def ref4_History.j1 (go12 : (Int × Unit) → Heap → Prop) (s10 : (Int × Unit)) (s13 : Unit) (h14 : Heap) : Prop :=
    go12 ((w64 (s10.1 + 1)), ()) h14
def ref4_History.j2 (Q : Bool → Heap → Prop) (go12 : (Int × Unit) → Heap → Prop) (s10 : (Int × Unit)) (s15 : (Bool × Unit)) (h16 : Heap) : Prop :=
    ((s15.1 = true →
    Q false h16) ∧
    (s15.1 = false →
    ref4_History.j1 go12 s10 () h16))
def ref4_History.l3 (calls1 : Sl) (Q : Bool → Heap → Prop) (go5 : (Int × Unit) → Heap → Prop) (s3 : (Int × Unit)) (go12 : (Int × Unit) → Heap → Prop) (s10 : (Int × Unit)) (h11 : Heap) : Prop :=
    (((decide (s10.1 < s3.1)) = true →
    (0 ≤ s10.1 ∧ s10.1 < (calls1.len : Int)) ∧
    deref calls1.a fun a17 =>
    (0 ≤ s3.1 ∧ s3.1 < (calls1.len : Int)) ∧
    deref calls1.a fun a18 =>
    ld ((.int .i64) : Kd) h11 ((a17.add ((s10.1 : Int).toNat * 7)).add 0) fun t19 =>
    ld ((.int .i64) : Kd) h11 ((a18.add ((s3.1 : Int).toNat * 7)).add 0) fun t20 =>
    (((decide (t19 = t20)) = true →
    (0 ≤ s10.1 ∧ s10.1 < (calls1.len : Int)) ∧
    deref calls1.a fun a21 =>
    ld ((.int .i64) : Kd) h11 ((a21.add ((s10.1 : Int).toNat * 7)).add 4) fun t22 =>
    (((decide (t22 = (-1))) = true →
    ref4_History.j2 Q go12 s10 (true, ()) h11) ∧
    ((decide (t22 = (-1))) = false →
    (0 ≤ s10.1 ∧ s10.1 < (calls1.len : Int)) ∧
    deref calls1.a fun a23 =>
    (0 ≤ s3.1 ∧ s3.1 < (calls1.len : Int)) ∧
    deref calls1.a fun a24 =>
    ld ((.int .i64) : Kd) h11 ((a23.add ((s10.1 : Int).toNat * 7)).add 4) fun t25 =>
    ld ((.int .i64) : Kd) h11 ((a24.add ((s3.1 : Int).toNat * 7)).add 3) fun t26 =>
    ref4_History.j2 Q go12 s10 ((decide (t26 ≤ t25)), ()) h11))) ∧
    ((decide (t19 = t20)) = false →
    ref4_History.j2 Q go12 s10 (false, ()) h11))) ∧
    ((decide (s10.1 < s3.1)) = false →
    go5 ((w64 (s3.1 + 1)), ()) h11))
def ref4_History.l4 (c_ref4_single : Den kapiCall → Heap → (Bool → Heap → Prop) → Prop) (calls1 : Sl) (Q : Bool → Heap → Prop) (go5 : (Int × Unit) → Heap → Prop) (s3 : (Int × Unit)) (h4 : Heap) : Prop :=
    (((decide (s3.1 < (calls1.len : Int))) = true →
    (0 ≤ s3.1 ∧ s3.1 < (calls1.len : Int)) ∧
    deref calls1.a fun a6 =>
    ld kapiCall h4 (a6.add ((s3.1 : Int).toNat * 7)) fun t7 =>
    c_ref4_single t7 h4 fun r8 h9 =>
    (((!r8) = true →
    Q false h9) ∧
    ((!r8) = false →
    Loop (ref4_History.l3 calls1 Q go5 s3) (0, ()) h9))) ∧
    ((decide (s3.1 < (calls1.len : Int))) = false →
    Q true h4))
def ref4_History.M (c_ref4_single : Den kapiCall → Heap → (Bool → Heap → Prop) → Prop) (calls1 : Sl) (h2 : Heap) (Q : Bool → Heap → Prop) : Prop :=
    Loop (ref4_History.l4 c_ref4_single calls1 Q) (0, ()) h2
def ref4_History.mk : Mk := (.s .d (.s (.s .d (.b (.l [.slot 3 (.int .i64)] (.s (.s .d (.c .d .d)) (.s (.b (.s (.s .d (.c (.s .d .d) .d)) (.s .d (.b (.l [.slot 4 (.int .i64)] (.s (.s .d (.c .d .d)) (.j [] (.b (.j [.slot 53 .bool] (.q [] [] [.p 0, .p 1, .p 2, .p 3, .p 5, .p 6, .p 7, .p 8, .w 4 [4, 10, 11, 12, 13, 14, 15, 16, 17, 18, 19, 20, 21, 22, 23, 24, 25, 26, 27, 28, 29, 30, 31], .w 9 [9, 10, 11, 12, 13, 14, 15, 16, 17, 18, 19, 20, 21, 22, 23, 24, 25, 26, 27, 28, 29, 30, 31], .p 10, .p 11, .p 12, .p 13, .p 14, .p 15, .w 16 [16, 17, 18, 19, 20, 21, 22, 23, 24, 25, 26, 27, 28, 29, 30, 31], .p 17, .p 18, .p 19, .p 20, .p 21, .p 22, .p 24, .p 25, .p 26, .p 27, .w 23 [23, 29, 30, 31], .w 28 [28, 29, 30, 31], .p 29, .p 30, .p 31]) (.c (.s .d .d) .d))) .d))))))) .d))))) (.s .d .d)))

def ref4_ahead.M  (x1 : Den kapiCall) (y2 : Den kapiCall) (h3 : Heap) (Q : Bool → Heap → Prop) : Prop :=
    (((decide ((0 : Int) ≤ x1.2.2.2.2.1)) = true →
    Q (decide (x1.2.2.2.2.1 < y2.2.2.2.1)) h3) ∧
    ((decide ((0 : Int) ≤ x1.2.2.2.2.1)) = false →
    Q false h3))
def ref4_ahead.mk : Mk := (.s (.r [0, 1]) (.s .d .d))

def hist_search_done.l1 (s1 : Option Addr) (taken2 : (Fin 4 → Int)) (Q : Bool → Heap → Prop) (t5 : (Fin 4 → Sl)) (go8 : (Int × Unit) → Heap → Prop) (s6 : (Int × Unit)) (go11 : (Int × Unit) → Heap → Prop) (s9 : (Int × Unit)) (h10 : Heap) : Prop :=
    (((decide (s9.1 < (((aget (n := 4) (a := (.sl : Kd)) t5 (s6.1 : Int).toNat).cut (((aget (n := 4) (a := ((.int .i64) : Kd)) taken2 (s6.1 : Int).toNat) : Int).toNat) ((aget (n := 4) (a := (.sl : Kd)) t5 (s6.1 : Int).toNat).len) 1).len : Int))) = true →
    (0 ≤ s9.1 ∧ s9.1 < (((aget (n := 4) (a := (.sl : Kd)) t5 (s6.1 : Int).toNat).cut (((aget (n := 4) (a := ((.int .i64) : Kd)) taken2 (s6.1 : Int).toNat) : Int).toNat) ((aget (n := 4) (a := (.sl : Kd)) t5 (s6.1 : Int).toNat).len) 1).len : Int)) ∧
    deref ((aget (n := 4) (a := (.sl : Kd)) t5 (s6.1 : Int).toNat).cut (((aget (n := 4) (a := ((.int .i64) : Kd)) taken2 (s6.1 : Int).toNat) : Int).toNat) ((aget (n := 4) (a := (.sl : Kd)) t5 (s6.1 : Int).toNat).len) 1).a fun a12 =>
    ld ((.int .i64) : Kd) h10 (a12.add ((s9.1 : Int).toNat * 1)) fun t13 =>
    deref s1 fun a14 =>
    ld (.sl : Kd) h10 (a14.add 0) fun t15 =>
    (0 ≤ t13 ∧ t13 < (t15.len : Int)) ∧
    deref t15.a fun a16 =>
    ld ((.int .i64) : Kd) h10 ((a16.add ((t13 : Int).toNat * 7)).add 5) fun t17 =>
    (((decide (t17 ≠ 0)) = true →
    Q false h10) ∧
    ((decide (t17 ≠ 0)) = false →
    go11 ((w64 (s9.1 + 1)), ()) h10))) ∧
    ((decide (s9.1 < (((aget (n := 4) (a := (.sl : Kd)) t5 (s6.1 : Int).toNat).cut (((aget (n := 4) (a := ((.int .i64) : Kd)) taken2 (s6.1 : Int).toNat) : Int).toNat) ((aget (n := 4) (a := (.sl : Kd)) t5 (s6.1 : Int).toNat).len) 1).len : Int))) = false →
    go8 ((w64 (s6.1 + 1)), ()) h10))
def hist_search_done.l2 (s1 : Option Addr) (taken2 : (Fin 4 → Int)) (Q : Bool → Heap → Prop) (t5 : (Fin 4 → Sl)) (go8 : (Int × Unit) → Heap → Prop) (s6 : (Int × Unit)) (h7 : Heap) : Prop :=
    (((decide (s6.1 < 4)) = true →
    (0 ≤ s6.1 ∧ s6.1 < (4 : Int)) ∧
    (0 ≤ s6.1 ∧ s6.1 < (4 : Int)) ∧
    (0 ≤ (aget (n := 4) (a := ((.int .i64) : Kd)) taken2 (s6.1 : Int).toNat) ∧ (aget (n := 4) (a := ((.int .i64) : Kd)) taken2 (s6.1 : Int).toNat) ≤ ((aget (n := 4) (a := (.sl : Kd)) t5 (s6.1 : Int).toNat).len : Int)) ∧
    Loop (hist_search_done.l1 s1 taken2 Q t5 go8 s6) (0, ()) h7) ∧
    ((decide (s6.1 < 4)) = false →
    Q true h7))
def hist_search_done.M  (s1 : Option Addr) (taken2 : (Fin 4 → Int)) (h3 : Heap) (Q : Bool → Heap → Prop) : Prop :=
    deref s1 fun a4 =>
    ld ((.arr 4 .sl) : Kd) h3 (a4.add 2) fun t5 =>
    Loop (hist_search_done.l2 s1 taken2 Q t5) (0, ()) h3
def hist_search_done.mk : Mk := (.s (.r [0]) (.s (.s .d (.b (.l [.slot 13 (.int .i64)] (.s .d (.s (.c .d .d) (.s (.b (.s .d (.s .d (.b (.l [.slot 23 (.int .i64)] (.s .d (.s (.c .d .d) (.s (.b (.s .d (.s .d (.c (.s .d .d) .d)))) .d)))))))) .d)))))) (.s .d .d)))

def hist_search_waits.j1 (go12 : (Int × Unit) → Heap → Prop) (s10 : (Int × Unit)) (s13 : Unit) (h14 : Heap) : Prop :=
    go12 ((w64 (s10.1 + 1)), ()) h14
def hist_search_waits.j2 (Q : Bool → Heap → Prop) (go12 : (Int × Unit) → Heap → Prop) (s10 : (Int × Unit)) (s21 : (Bool × Unit)) (h22 : Heap) : Prop :=
    ((s21.1 = true →
    Q true h22) ∧
    (s21.1 = false →
    hist_search_waits.j1 go12 s10 () h22))
def hist_search_waits.l3 (s1 : Option Addr) (taken2 : (Fin 4 → Int)) (c3 : Den kapiCall) (Q : Bool → Heap → Prop) (t6 : (Fin 4 → Sl)) (go9 : (Int × Unit) → Heap → Prop) (s7 : (Int × Unit)) (go12 : (Int × Unit) → Heap → Prop) (s10 : (Int × Unit)) (h11 : Heap) : Prop :=
    (((decide (s10.1 < (((aget (n := 4) (a := (.sl : Kd)) t6 (s7.1 : Int).toNat).cut (((aget (n := 4) (a := ((.int .i64) : Kd)) taken2 (s7.1 : Int).toNat) : Int).toNat) ((aget (n := 4) (a := (.sl : Kd)) t6 (s7.1 : Int).toNat).len) 1).len : Int))) = true →
    (0 ≤ s10.1 ∧ s10.1 < (((aget (n := 4) (a := (.sl : Kd)) t6 (s7.1 : Int).toNat).cut (((aget (n := 4) (a := ((.int .i64) : Kd)) taken2 (s7.1 : Int).toNat) : Int).toNat) ((aget (n := 4) (a := (.sl : Kd)) t6 (s7.1 : Int).toNat).len) 1).len : Int)) ∧
    deref ((aget (n := 4) (a := (.sl : Kd)) t6 (s7.1 : Int).toNat).cut (((aget (n := 4) (a := ((.int .i64) : Kd)) taken2 (s7.1 : Int).toNat) : Int).toNat) ((aget (n := 4) (a := (.sl : Kd)) t6 (s7.1 : Int).toNat).len) 1).a fun a15 =>
    ld ((.int .i64) : Kd) h11 (a15.add ((s10.1 : Int).toNat * 1)) fun t16 =>
    deref s1 fun a17 =>
    ld (.sl : Kd) h11 (a17.add 0) fun t18 =>
    (0 ≤ t16 ∧ t16 < (t18.len : Int)) ∧
    deref t18.a fun a19 =>
    ld kapiCall h11 (a19.add ((t16 : Int).toNat * 7)) fun t20 =>
    (((decide (t20.2.2.2.2.2.1 ≠ 0)) = true →
    hist_search_waits.j2 Q go12 s10 ((decide (t20.2.2.2.2.1 < c3.2.2.2.1)), ()) h11) ∧
    ((decide (t20.2.2.2.2.2.1 ≠ 0)) = false →
    hist_search_waits.j2 Q go12 s10 (false, ()) h11))) ∧
    ((decide (s10.1 < (((aget (n := 4) (a := (.sl : Kd)) t6 (s7.1 : Int).toNat).cut (((aget (n := 4) (a := ((.int .i64) : Kd)) taken2 (s7.1 : Int).toNat) : Int).toNat) ((aget (n := 4) (a := (.sl : Kd)) t6 (s7.1 : Int).toNat).len) 1).len : Int))) = false →
    go9 ((w64 (s7.1 + 1)), ()) h11))
def hist_search_waits.l4 (s1 : Option Addr) (taken2 : (Fin 4 → Int)) (c3 : Den kapiCall) (Q : Bool → Heap → Prop) (t6 : (Fin 4 → Sl)) (go9 : (Int × Unit) → Heap → Prop) (s7 : (Int × Unit)) (h8 : Heap) : Prop :=
    (((decide (s7.1 < 4)) = true →
    (0 ≤ s7.1 ∧ s7.1 < (4 : Int)) ∧
    (0 ≤ s7.1 ∧ s7.1 < (4 : Int)) ∧
    (0 ≤ (aget (n := 4) (a := ((.int .i64) : Kd)) taken2 (s7.1 : Int).toNat) ∧ (aget (n := 4) (a := ((.int .i64) : Kd)) taken2 (s7.1 : Int).toNat) ≤ ((aget (n := 4) (a := (.sl : Kd)) t6 (s7.1 : Int).toNat).len : Int)) ∧
    Loop (hist_search_waits.l3 s1 taken2 c3 Q t6 go9 s7) (0, ()) h8) ∧
    ((decide (s7.1 < 4)) = false →
    Q false h8))
def hist_search_waits.M  (s1 : Option Addr) (taken2 : (Fin 4 → Int)) (c3 : Den kapiCall) (h4 : Heap) (Q : Bool → Heap → Prop) : Prop :=
    deref s1 fun a5 =>
    ld ((.arr 4 .sl) : Kd) h4 (a5.add 2) fun t6 =>
    Loop (hist_search_waits.l4 s1 taken2 c3 Q t6) (0, ()) h4
def hist_search_waits.mk : Mk := (.s (.r [0, 1]) (.s (.s .d (.b (.l [.slot 16 (.int .i64)] (.s .d (.s (.c .d .d) (.s (.b (.s .d (.s .d (.b (.l [.slot 26 (.int .i64)] (.s .d (.s (.c .d .d) (.j [] (.b (.s .d (.s (.r [7]) (.j [.slot 46 .bool] .d (.c (.s .d .d) .d))))) .d)))))))) .d)))))) (.s .d .d)))

def ref4_over.j1 (go6 : (Int × Unit) → Heap → Prop) (s4 : (Int × Unit)) (s7 : Unit) (h8 : Heap) : Prop :=
    go6 ((w64 (s4.1 + 1)), ()) h8
def ref4_over.j2 (Q : Bool → Heap → Prop) (go6 : (Int × Unit) → Heap → Prop) (s4 : (Int × Unit)) (s11 : (Bool × Unit)) (h12 : Heap) : Prop :=
    ((s11.1 = true →
    Q false h12) ∧
    (s11.1 = false →
    ref4_over.j1 go6 s4 () h12))
def ref4_over.l3 (c_ref4_next : Sl → Int → Int → Heap → (Int → Heap → Prop) → Prop) (calls1 : Sl) (s2 : Den kref4State) (Q : Bool → Heap → Prop) (go6 : (Int × Unit) → Heap → Prop) (s4 : (Int × Unit)) (h5 : Heap) : Prop :=
    (((decide (s4.1 < 4)) = true →
    (0 ≤ s4.1 ∧ s4.1 < (4 : Int)) ∧
    c_ref4_next calls1 s4.1 (aget (n := 4) (a := ((.int .i64) : Kd)) s2.1 (s4.1 : Int).toNat) h5 fun r9 h10 =>
    (((decide ((0 : Int) ≤ r9)) = true →
    (0 ≤ r9 ∧ r9 < (calls1.len : Int)) ∧
    deref calls1.a fun a13 =>
    ld ((.int .i64) : Kd) h10 ((a13.add ((r9 : Int).toNat * 7)).add 4) fun t14 =>
    ref4_over.j2 Q go6 s4 ((decide ((0 : Int) ≤ t14)), ()) h10) ∧
    ((decide ((0 : Int) ≤ r9)) = false →
    ref4_over.j2 Q go6 s4 (false, ()) h10))) ∧
    ((decide (s4.1 < 4)) = false →
    Q true h5))
def ref4_over.M (c_ref4_next : Sl → Int → Int → Heap → (Int → Heap → Prop) → Prop) (calls1 : Sl) (s2 : Den kref4State) (h3 : Heap) (Q : Bool → Heap → Prop) : Prop :=
    Loop (ref4_over.l3 c_ref4_next calls1 s2 Q) (0, ()) h3
def ref4_over.mk : Mk := (.s (.r [0]) (.s (.s .d (.b (.l [.slot 5 (.int .i64)] (.s (.s .d (.c .d .d)) (.j [] (.b (.s .d (.j [.slot 27 .bool] .d (.c (.s .d .d) .d)))) .d))))) (.s .d .d)))

def ref4_step.j1 (c_ref4_Do : Sl → Den kapiCall → Int → Heap → ((Sl × (Bool × Unit)) → Heap → Prop) → Prop) (c_ref4_known : Sl → (Fin 4 → Int) → Heap → (Bool → Heap → Prop) → Prop) (calls1 : Sl) (most2 : Int) (s3 : Den kref4State) (who4 : Int) (later5 : Sl) (Q : Sl → Heap → Prop) (r7 : Int) (s9 : Unit) (h10 : Heap) : Prop :=
    (0 ≤ r7 ∧ r7 < (calls1.len : Int)) ∧
    deref calls1.a fun a11 =>
    ld kapiCall h10 (a11.add ((r7 : Int).toNat * 7)) fun t12 =>
    c_ref4_Do s3.2.1 t12 most2 h10 fun r13 h14 =>
    (((!r13.2.1) = true →
    Q later5 h14) ∧
    ((!r13.2.1) = false →
    (0 ≤ who4 ∧ who4 < (4 : Int)) ∧
    (0 ≤ who4 ∧ who4 < (4 : Int)) ∧
    c_ref4_known later5 (aset (n := 4) (a := ((.int .i64) : Kd)) s3.1 (who4 : Int).toNat (w64 ((aget (n := 4) (a := ((.int .i64) : Kd)) s3.1 (who4 : Int).toNat) + 1))) h14 fun r15 h16 =>
    ((r15 = true →
    Q later5 h16) ∧
    (r15 = false →
    new h16 (([((aset (n := 4) (a := ((.int .i64) : Kd)) s3.1 (who4 : Int).toNat (w64 ((aget (n := 4) (a := ((.int .i64) : Kd)) s3.1 (who4 : Int).toNat) + 1))), (r13.1, ()))] : List (Den kref4State)).flatMap (Kd.cells kref4State)) fun p17 h18 =>
    appendM 5 56 h18 later5 ⟨some p17, 1, 1⟩ fun t19 h20 =>
    Q t19 h20))))
def ref4_step.j2 (c_ref4_Do : Sl → Den kapiCall → Int → Heap → ((Sl × (Bool × Unit)) → Heap → Prop) → Prop) (c_ref4_known : Sl → (Fin 4 → Int) → Heap → (Bool → Heap → Prop) → Prop) (calls1 : Sl) (most2 : Int) (s3 : Den kref4State) (who4 : Int) (later5 : Sl) (Q : Sl → Heap → Prop) (r7 : Int) (s21 : (Bool × Unit)) (h22 : Heap) : Prop :=
    ((s21.1 = true →
    Q later5 h22) ∧
    (s21.1 = false →
    ref4_step.j1 c_ref4_Do c_ref4_known calls1 most2 s3 who4 later5 Q r7 () h22))
def ref4_step.M (c_ref4_next : Sl → Int → Int → Heap → (Int → Heap → Prop) → Prop) (c_ref4_free : Sl → Den kref4State → Int → Heap → (Bool → Heap → Prop) → Prop) (c_ref4_Do : Sl → Den kapiCall → Int → Heap → ((Sl × (Bool × Unit)) → Heap → Prop) → Prop) (c_ref4_known : Sl → (Fin 4 → Int) → Heap → (Bool → Heap → Prop) → Prop) (calls1 : Sl) (most2 : Int) (s3 : Den kref4State) (who4 : Int) (later5 : Sl) (h6 : Heap) (Q : Sl → Heap → Prop) : Prop :=
    (0 ≤ who4 ∧ who4 < (4 : Int)) ∧
    c_ref4_next calls1 who4 (aget (n := 4) (a := ((.int .i64) : Kd)) s3.1 (who4 : Int).toNat) h6 fun r7 h8 =>
    (((decide (r7 < 0)) = true →
    ref4_step.j2 c_ref4_Do c_ref4_known calls1 most2 s3 who4 later5 Q r7 (true, ()) h8) ∧
    ((decide (r7 < 0)) = false →
    c_ref4_free calls1 (s3.1, (s3.2.1, ())) r7 h8 fun r23 h24 =>
    ref4_step.j2 c_ref4_Do c_ref4_known calls1 most2 s3 who4 later5 Q r7 ((!r23), ()) h24))
def ref4_step.mk : Mk := (.s (.r [0]) (.s .d (.j [] (.j [.slot 30 .bool] .d (.c (.s .d .d) .d)) (.s (.q [] [] [.p 0, .p 2, .p 3, .p 4, .p 6, .w 1 [1, 7, 8, 9, 10, 11, 12], .w 5 [5, 7, 8, 9, 10, 11, 12], .o 7, .p 8, .p 9, .p 10, .p 11, .p 12]) (.s (.s .d (.c (.s .d .d) .d)) (.s (.r [4]) (.s .d (.s (.s .d (.c (.s .d .d) .d)) (.s .d .d)))))))))

def hist_may.M  (kind1 : Int) (code2 : Int) (h3 : Heap) (Q : Bool → Heap → Prop) : Prop :=
    (((decide (kind1 = 0)) = true →
    (((decide (code2 = 2)) = true →
    Q true h3) ∧
    ((decide (code2 = 2)) = false →
    Q (decide (code2 = 3)) h3))) ∧
    ((decide (kind1 = 0)) = false →
    (((decide (kind1 = 1)) = true →
    (((decide (code2 = 4)) = true →
    Q true h3) ∧
    ((decide (code2 = 4)) = false →
    Q (decide (code2 = 5)) h3))) ∧
    ((decide (kind1 = 1)) = false →
    (((decide (code2 = 4)) = true →
    Q true h3) ∧
    ((decide (code2 = 4)) = false →
    (((decide (code2 = 5)) = true →
    Q true h3) ∧
    ((decide (code2 = 5)) = false →
    Q (decide (code2 = 6)) h3))))))))
def hist_may.mk : Mk := (.s .d (.s (.s .d (.b (.s .d (.c (.s .d .d) (.s .d (.c (.s .d .d) .d)))))) (.s .d .d)))

def ref4_single.j1 (c_ref4_mayAnswer : Int → Int → Heap → (Bool → Heap → Prop) → Prop) (c1 : Den kapiCall) (Q : Bool → Heap → Prop) (s5 : Unit) (h6 : Heap) : Prop :=
    (((decide (c1.2.2.2.2.1 = (-1))) = true →
    Q (decide (c1.2.2.2.2.2.1 = 0)) h6) ∧
    ((decide (c1.2.2.2.2.1 = (-1))) = false →
    (((decide (c1.2.2.2.1 ≤ c1.2.2.2.2.1)) = true →
    c_ref4_mayAnswer c1.2.1 c1.2.2.2.2.2.1 h6 fun r7 h8 =>
    Q r7 h8) ∧
    ((decide (c1.2.2.2.1 ≤ c1.2.2.2.2.1)) = false →
    Q false h6))))
def ref4_single.j2 (c_ref4_mayAnswer : Int → Int → Heap → (Bool → Heap → Prop) → Prop) (c1 : Den kapiCall) (Q : Bool → Heap → Prop) (s9 : (Bool × Unit)) (h10 : Heap) : Prop :=
    ((s9.1 = true →
    Q false h10) ∧
    (s9.1 = false →
    ref4_single.j1 c_ref4_mayAnswer c1 Q () h10))
def ref4_single.j3 (c_ref4_mayAnswer : Int → Int → Heap → (Bool → Heap → Prop) → Prop) (c1 : Den kapiCall) (Q : Bool → Heap → Prop) (s3 : Unit) (h4 : Heap) : Prop :=
    (((decide (c1.1 = 0)) = true →
    (((decide (c1.2.1 ≠ 0)) = true →
    (((decide (c1.2.1 ≠ 1)) = true →
    ref4_single.j2 c_ref4_mayAnswer c1 Q (true, ()) h4) ∧
    ((decide (c1.2.1 ≠ 1)) = false →
    (((decide ((0 : Int) < c1.1)) = true →
    ref4_single.j2 c_ref4_mayAnswer c1 Q ((decide (c1.2.1 ≠ 2)), ()) h4) ∧
    ((decide ((0 : Int) < c1.1)) = false →
    ref4_single.j2 c_ref4_mayAnswer c1 Q (false, ()) h4))))) ∧
    ((decide (c1.2.1 ≠ 0)) = false →
    (((decide ((0 : Int) < c1.1)) = true →
    ref4_single.j2 c_ref4_mayAnswer c1 Q ((decide (c1.2.1 ≠ 2)), ()) h4) ∧
    ((decide ((0 : Int) < c1.1)) = false →
    ref4_single.j2 c_ref4_mayAnswer c1 Q (false, ()) h4))))) ∧
    ((decide (c1.1 = 0)) = false →
    (((decide ((0 : Int) < c1.1)) = true →
    ref4_single.j2 c_ref4_mayAnswer c1 Q ((decide (c1.2.1 ≠ 2)), ()) h4) ∧
    ((decide ((0 : Int) < c1.1)) = false →
    ref4_single.j2 c_ref4_mayAnswer c1 Q (false, ()) h4))))
def ref4_single.j4 (c_ref4_mayAnswer : Int → Int → Heap → (Bool → Heap → Prop) → Prop) (c1 : Den kapiCall) (Q : Bool → Heap → Prop) (s11 : (Bool × Unit)) (h12 : Heap) : Prop :=
    ((s11.1 = true →
    Q false h12) ∧
    (s11.1 = false →
    ref4_single.j3 c_ref4_mayAnswer c1 Q () h12))
def ref4_single.M (c_ref4_mayAnswer : Int → Int → Heap → (Bool → Heap → Prop) → Prop) (c1 : Den kapiCall) (h2 : Heap) (Q : Bool → Heap → Prop) : Prop :=
    (((decide (c1.1 < 0)) = true →
    ref4_single.j4 c_ref4_mayAnswer c1 Q (true, ()) h2) ∧
    ((decide (c1.1 < 0)) = false →
    (((decide ((3 : Int) < c1.1)) = true →
    ref4_single.j4 c_ref4_mayAnswer c1 Q (true, ()) h2) ∧
    ((decide ((3 : Int) < c1.1)) = false →
    ref4_single.j4 c_ref4_mayAnswer c1 Q ((decide (c1.2.2.2.1 < 0)), ()) h2))))
def ref4_single.mk : Mk := (.s (.r [0]) (.j [] (.j [.slot 15 .bool] .d (.c (.s .d .d) .d)) (.j [] (.j [.slot 38 .bool] .d (.c (.s .d .d) .d)) (.s (.s .d (.c (.s .d .d) .d)) (.s .d .d)))))

def ref4_next.j1 (go7 : Den kapiTodo → Heap → Prop) (s5 : Den kapiTodo) (s8 : (Int × Unit)) (h9 : Heap) : Prop :=
    go7 (s8.1, (w64 (s5.2.1 + 1)), ()) h9
def ref4_next.l2 (calls1 : Sl) (who2 : Int) (Q : Int → Heap → Prop) (go7 : Den kapiTodo → Heap → Prop) (s5 : Den kapiTodo) (h6 : Heap) : Prop :=
    (((decide (s5.2.1 < (calls1.len : Int))) = true →
    (0 ≤ s5.2.1 ∧ s5.2.1 < (calls1.len : Int)) ∧
    deref calls1.a fun a10 =>
    ld ((.int .i64) : Kd) h6 ((a10.add ((s5.2.1 : Int).toNat * 7)).add 0) fun t11 =>
    (((decide (t11 = who2)) = true →
    (((decide (s5.1 = 0)) = true →
    Q s5.2.1 h6) ∧
    ((decide (s5.1 = 0)) = false →
    ref4_next.j1 go7 s5 ((w64 (s5.1 - 1)), ()) h6))) ∧
    ((decide (t11 = who2)) = false →
    ref4_next.j1 go7 s5 (s5.1, ()) h6))) ∧
    ((decide (s5.2.1 < (calls1.len : Int))) = false →
    Q (-1) h6))
def ref4_next.M  (calls1 : Sl) (who2 : Int) (n3 : Int) (h4 : Heap) (Q : Int → Heap → Prop) : Prop :=
    Loop (ref4_next.l2 calls1 who2 Q) (n3, 0, ()) h4
def ref4_next.mk : Mk := (.s .d (.s (.s .d (.b (.l [.slot 2 (.int .i64), .slot 7 (.int .i64)] (.s (.s .d (.c .d .d)) (.j [.slot 2 (.int .i64)] (.b (.s .d (.c (.s (.s .d (.c (.s .d .d) .d)) .d) .d))) .d))))) (.s .d .d)))

def ref4_free.j1 (go7 : (Int × Unit) → Heap → Prop) (s5 : (Int × Unit)) (s8 : Unit) (h9 : Heap) : Prop :=
    go7 ((w64 (s5.1 + 1)), ()) h9
def ref4_free.j2 (Q : Bool → Heap → Prop) (go7 : (Int × Unit) → Heap → Prop) (s5 : (Int × Unit)) (s12 : (Bool × Unit)) (h13 : Heap) : Prop :=
    ((s12.1 = true →
    Q false h13) ∧
    (s12.1 = false →
    ref4_free.j1 go7 s5 () h13))
def ref4_free.l3 (c_ref4_next : Sl → Int → Int → Heap → (Int → Heap → Prop) → Prop) (c_ref4_ahead : Den kapiCall → Den kapiCall → Heap → (Bool → Heap → Prop) → Prop) (calls1 : Sl) (s2 : Den kref4State) (k3 : Int) (Q : Bool → Heap → Prop) (go7 : (Int × Unit) → Heap → Prop) (s5 : (Int × Unit)) (h6 : Heap) : Prop :=
    (((decide (s5.1 < 4)) = true →
    (0 ≤ s5.1 ∧ s5.1 < (4 : Int)) ∧
    c_ref4_next calls1 s5.1 (aget (n := 4) (a := ((.int .i64) : Kd)) s2.1 (s5.1 : Int).toNat) h6 fun r10 h11 =>
    (((decide ((0 : Int) ≤ r10)) = true →
    (((decide (r10 ≠ k3)) = true →
    (0 ≤ r10 ∧ r10 < (calls1.len : Int)) ∧
    deref calls1.a fun a14 =>
    (0 ≤ k3 ∧ k3 < (calls1.len : Int)) ∧
    deref calls1.a fun a15 =>
    ld kapiCall h11 (a14.add ((r10 : Int).toNat * 7)) fun t16 =>
    ld kapiCall h11 (a15.add ((k3 : Int).toNat * 7)) fun t17 =>
    c_ref4_ahead t16 t17 h11 fun r18 h19 =>
    ref4_free.j2 Q go7 s5 (r18, ()) h19) ∧
    ((decide (r10 ≠ k3)) = false →
    ref4_free.j2 Q go7 s5 (false, ()) h11))) ∧
    ((decide ((0 : Int) ≤ r10)) = false →
    ref4_free.j2 Q go7 s5 (false, ()) h11))) ∧
    ((decide (s5.1 < 4)) = false →
    Q true h6))
def ref4_free.M (c_ref4_next : Sl → Int → Int → Heap → (Int → Heap → Prop) → Prop) (c_ref4_ahead : Den kapiCall → Den kapiCall → Heap → (Bool → Heap → Prop) → Prop) (calls1 : Sl) (s2 : Den kref4State) (k3 : Int) (h4 : Heap) (Q : Bool → Heap → Prop) : Prop :=
    Loop (ref4_free.l3 c_ref4_next c_ref4_ahead calls1 s2 k3 Q) (0, ()) h4
def ref4_free.mk : Mk := (.s (.r [0]) (.s (.s .d (.b (.l [.slot 7 (.int .i64)] (.s (.s .d (.c .d .d)) (.j [] (.b (.s .d (.j [.slot 37 .bool] (.q [] [] [.p 0, .p 1, .p 2, .p 3, .p 4, .p 5, .p 6, .p 7, .p 8, .p 9, .p 10, .p 12, .p 13, .p 14, .w 11 [11, 16, 17], .w 15 [15, 16, 17], .o 16, .p 17]) (.c (.s .d .d) .d)))) .d))))) (.s .d .d)))

def ref4_known.l1 (l1 : Sl) (d2 : (Fin 4 → Int)) (Q : Bool → Heap → Prop) (go6 : (Int × Unit) → Heap → Prop) (s4 : (Int × Unit)) (h5 : Heap) : Prop :=
    (((decide (s4.1 < (l1.len : Int))) = true →
    (0 ≤ s4.1 ∧ s4.1 < (l1.len : Int)) ∧
    deref l1.a fun a7 =>
    ld ((.arr 4 (.int .i64)) : Kd) h5 ((a7.add ((s4.1 : Int).toNat * 5)).add 0) fun t8 =>
    (((eqK ((.arr 4 (.int .i64)) : Kd) t8 d2) = true →
    Q true h5) ∧
    ((eqK ((.arr 4 (.int .i64)) : Kd) t8 d2) = false →
    go6 ((w64 (s4.1 + 1)), ()) h5))) ∧
    ((decide (s4.1 < (l1.len : Int))) = false →
    Q false h5))
def ref4_known.M  (l1 : Sl) (d2 : (Fin 4 → Int)) (h3 : Heap) (Q : Bool → Heap → Prop) : Prop :=
    Loop (ref4_known.l1 l1 d2 Q) (0, ()) h3
def ref4_known.mk : Mk := (.s (.r [0]) (.s (.s .d (.b (.l [.slot 5 (.int .i64)] (.s (.s .d (.c .d .d)) (.s (.b (.s (.q [] [] [.p 0, .p 1, .p 2, .p 3, .w 4 [4, 6], .w 5 [5, 6], .p 6]) (.c (.s .d .d) .d))) .d))))) (.s .d .d)))

def ref4_mayAnswer.M  (kind1 : Int) (code2 : Int) (h3 : Heap) (Q : Bool → Heap → Prop) : Prop :=
    (((decide (kind1 = 0)) = true →
    (((decide (code2 = 2)) = true →
    Q true h3) ∧
    ((decide (code2 = 2)) = false →
    Q (decide (code2 = 3)) h3))) ∧
    ((decide (kind1 = 0)) = false →
    (((decide (kind1 = 1)) = true →
    (((decide (code2 = 4)) = true →
    Q true h3) ∧
    ((decide (code2 = 4)) = false →
    Q (decide (code2 = 5)) h3))) ∧
    ((decide (kind1 = 1)) = false →
    (((decide (code2 = 4)) = true →
    Q true h3) ∧
    ((decide (code2 = 4)) = false →
    (((decide (code2 = 5)) = true →
    Q true h3) ∧
    ((decide (code2 = 5)) = false →
    Q (decide (code2 = 6)) h3))))))))
def ref4_mayAnswer.mk : Mk := (.s .d (.s (.s .d (.b (.s .d (.c (.s .d .d) (.s .d (.c (.s .d .d) .d)))))) (.s .d .d)))

end Go.Mx
