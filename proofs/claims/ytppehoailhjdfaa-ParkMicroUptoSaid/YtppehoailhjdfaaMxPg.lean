/-
  ParkMicro: the moves, the law.
-/
import Derived.Test.YtppehoailhjdfaaMxPf
set_option linter.unusedVariables false
set_option linter.unusedSimpArgs false
set_option linter.unusedSectionVars false
namespace Go.Mx

def PAnsC (c : Den KPOp → Heap → (Den KP2 → Heap → Prop) → Prop) : Prop := ∀ {o : POp} {h : Heap} {Q : Den KP2 → Heap → Prop}, Q (o.answer.1, (o.answer.2, ())) h → c o.den h Q
def R9AnsC (c : Den KR9 → Heap → (Den KP2 → Heap → Prop) → Prop) : Prop := ∀ {r : R9} {h : Heap} {Q : Den KP2 → Heap → Prop}, Q (r.answer.1, (r.answer.2, ())) h → c r.den h Q
def PParkC (c : Den KPOp → Heap → (Bool → Heap → Prop) → Prop) : Prop := ∀ {o : POp} {h : Heap} {Q : Bool → Heap → Prop}, Q o.parked h → c o.den h Q
def R9ParkC (c : Den KR9 → Heap → (Bool → Heap → Prop) → Prop) : Prop := ∀ {r : R9} {h : Heap} {Q : Bool → Heap → Prop}, Q r.parked h → c r.den h Q
def R9DeadC (c : Heap → (Den KR9 → Heap → Prop) → Prop) : Prop := ∀ {h : Heap} {Q : Den KR9 → Heap → Prop}, Q R9.dead.den h → c h Q
theorem ifP {α : Type} {c : Prop} [Decidable c] {x y : α} {Q : α → Heap → Prop} {h : Heap} {A B : Prop} (hA : c → Q x h → A) (hB : ¬ c → Q y h → B) (hQ : Q (if c then x else y) h) : (decide c = true → A) ∧ (decide c = false → B) :=
  ⟨fun e => hA (of_decide_eq_true e) (by rw [if_pos (of_decide_eq_true e)] at hQ; exact hQ), fun e => hB (of_decide_eq_false e) (by rw [if_neg (of_decide_eq_false e)] at hQ; exact hQ)⟩
theorem pans_spec : PAnsC park_Answer.M := by
  intro o h Q hQ
  unfold POp.answer at hQ
  refine ⟨fun e => ?_, fun e => ⟨fun e2 => ?_, fun e2 => ?_⟩⟩
  · have e : o.st.kind = 0 := of_decide_eq_true e
    rw [if_pos e] at hQ; exact hQ
  · have e : ¬ o.st.kind = 0 := of_decide_eq_false e
    have e2 : o.st.at_ ≠ 0 := of_decide_eq_true e2
    rw [if_neg e, if_pos e2] at hQ; exact hQ
  · have e : ¬ o.st.kind = 0 := of_decide_eq_false e
    have e2 : ¬ o.st.at_ ≠ 0 := of_decide_eq_false e2
    rw [if_neg e, if_neg e2] at hQ; exact hQ
theorem r9ans_spec : R9AnsC ref9_Answer.M := by
  intro r h Q hQ
  unfold R9.answer at hQ
  refine ⟨fun e => ?_, fun e => ?_⟩
  · have e : r.at_ ≠ 0 := of_decide_eq_true e
    rw [if_pos e] at hQ; exact hQ
  · have e : ¬ r.at_ ≠ 0 := of_decide_eq_false e
    rw [if_neg e] at hQ; exact hQ
theorem ppark_spec : PParkC park_Parked.M := by
  intro o h Q hQ
  unfold POp.parked at hQ
  refine ⟨fun e => ?_, fun e => ?_⟩
  · have e : o.st.kind = 1 := of_decide_eq_true e
    rw [if_pos e] at hQ; exact hQ
  · have e : ¬ o.st.kind = 1 := of_decide_eq_false e
    rw [if_neg e] at hQ; exact hQ
theorem r9park_spec : R9ParkC ref9_Parked.M := fun q => q
theorem r9dead_spec : R9DeadC ref9_Dead.M := fun q => q
theorem RelP.dead : RelP [] POp.zero R9.dead := .inl ⟨rfl, .inl rfl, rfl, by decide⟩
theorem ElP.dead {h : Heap} {F : Nat → Prop} {o : POp} (hk : o.st.kind = 0 ∨ o.st.at_ = 0) (ha : o.answer = (1, 0)) : ElP h F o.den R9.dead.den :=
  ⟨[], o, R9.dead, rfl, rfl, .inl ⟨rfl, hk, ha, by decide⟩, (Own.nil _ _).arr, fun x q => absurd q no_blkM⟩
/-- A step that is refused. -/
theorem ElP.dark {h : Heap} {F : Nat → Prop} {o : POp} {r : R9} {ds : List (Den KP2)} (R : RelP ds o r) (a : Arr h KP2 r.ds ds) (b : ∀ x, blkOf r.ds x → h x ≠ none ∧ ¬ F x) : (r.answer.1 = 0 → ElP h F (darkP o).den R9.dead.den) ∧ (r.answer.1 ≠ 0 → ElP h F (darkP o).den r.den) := by
  unfold darkP
  rcases R with ⟨h1, h2, h3, h9⟩ | R
  · have e : (if o.st.kind = 0 then o else if o.st.at_ = 0 then o else { o with st := o.st.over 1 0 }) = o := by
      by_cases q : o.st.kind = 0
      · rw [if_pos q]
      · rw [if_neg q, if_pos (h2.resolve_left q)]
    rw [e]
    have ha : r.answer = (r.code, r.v) := by unfold R9.answer; rw [if_neg (fun z => z h1)]
    exact ⟨fun z => by rw [ha] at z; exact absurd z h9, fun _ => ⟨ds, o, r, rfl, rfl, .inl ⟨h1, h2, h3, h9⟩, a, b⟩⟩
  · obtain ⟨a0, b0⟩ := R.a0
    rw [if_neg R.k0, if_neg a0]
    have ha : r.answer = (0, 0) := by unfold R9.answer; rw [if_pos b0]
    refine ⟨fun _ => ElP.dead (.inr rfl) ?_, fun z => by rw [ha] at z; exact absurd rfl z⟩
    unfold POp.answer
    rw [if_neg (show ¬ (PSt.over o.st 1 0).kind = 0 from R.k0)]; rfl
def BornP (base workers : Int) (ds : Sl) (dl : List (Den KP2)) (c : Den KMv → Int → Int → Sl → Heap → ((Den KPOp × (Den KR9 × Unit)) → Heap → Prop) → Prop) : Prop := ∀ {k s v : Int} {h : Heap} {Q : (Den KPOp × (Den KR9 × Unit)) → Heap → Prop}, 0 ≤ k → k ≤ 4 → Arr h KP2 ds dl →
  (∀ d e h', le h h' → (∀ F : Nat → Prop, (∀ x, F x → h x ≠ none) → ElP h' F d e) → Q (d, (e, ())) h') → c (k, (s, (v, ()))) base workers ds h Q
section
variable {c3 : Den KMv → Int → Int → Sl → Heap → ((Den KPOp × (Den KR9 × Unit)) → Heap → Prop) → Prop} {c4 : Option Addr → Int → Heap → (Unit → Heap → Prop) → Prop} {c5 : Value → Den KPOp → Heap → (Den KPOp → Heap → Prop) → Prop}
  {c6 : Option Addr → Den KR9 → Heap → (Den KR9 → Heap → Prop) → Prop} {c7 : Heap → (Den KR9 → Heap → Prop) → Prop} {c8 : Int → Heap → ((Option Addr × (Int × Unit)) → Heap → Prop) → Prop} {c9 : Den KPOp → Heap → (Den KP2 → Heap → Prop) → Prop} {c10 : Den KR9 → Heap → (Den KP2 → Heap → Prop) → Prop}
  {c11 : Den KPOp → Heap → (Bool → Heap → Prop) → Prop} {c12 : Den KR9 → Heap → (Bool → Heap → Prop) → Prop}
  {Q : Bool → Heap → Prop} {h0 : Heap} {bA bM n : Nat} {m : AS} {f : PMf} {g : PMg} {S S' : Nat → Prop} {h : Heap}
abbrev PGo := (Int × (((Fin 4 → Den KPOp) × Unit) × (((Fin 4 → Den KR9) × Unit) × Unit))) → Heap → Prop
theorem pk_end (iA : PAnsC c9) (iR : R9AnsC c10) (iP : PParkC c11) (iK : R9ParkC c12) {r : Nat} (hr : r < 4) {go : PGo} {s25 : (Int × (((Fin 4 → Den KPOp) × Unit) × (((Fin 4 → Den KR9) × Unit) × Unit)))} (o : PMi h0 bA bM n m m f g S S' h)
    (hgo : go ((w64 (s25.1 + 1)), (f, ()), (g, ()), ()) h) : law9_ParkMicro.j3 c10 c9 c11 c12 Q go s25 ((r : Int), ((f, ()), ((g, ()), ()))) h := by
  have b1 : 0 ≤ (r : Int) ∧ (r : Int) < 4 := by omega
  obtain ⟨ds, p, q, q1, q2, q3, q4, q5⟩ := o.el r hr
  obtain ⟨e1, e2⟩ := q3.answer
  refine ⟨b1, ?_⟩
  dsimp only
  rw [Int.toNat_natCast, agetF hr, q1]
  refine iA ⟨b1, ?_⟩
  rw [agetG hr, q2]
  refine iR ?_
  rw [e1]
  refine ⟨fun e => absurd rfl (of_decide_eq_true e), fun _ => ⟨fun e => absurd rfl (of_decide_eq_true e), fun _ => ⟨b1, b1, iP ?_⟩⟩⟩
  refine iK ?_
  rw [e2]
  have : (!(q.parked == q.parked)) = false := by cases q.parked <;> rfl
  rw [this]
  exact ⟨fun e => (by cases e), fun _ => hgo⟩
theorem pk_step (iS : StepPC 24 c5) (iW : WhoM c4) (i6 : RStep9C c6) (iA : PAnsC c9) (iR : R9AnsC c10) (iP : PParkC c11) (iK : R9ParkC c12) (hn : n ≤ 900000000) {r : Nat} (hr : r < 4) {go : PGo} {i : Int} (o : PMi h0 bA bM n m m f g S S' h)
    (hgo : ∀ m f g S S' h', PMi h0 bA bM (n + 1) m m f g S S' h' → go ((w64 (i + 1)), (f, ()), (g, ()), ()) h') :
    c4 (some (ptr bA)) (r : Int) h fun r50 h51 =>
    st ki h51 ((ptr bM).add 2) (r : Int) fun h52 =>
    (0 ≤ (r : Int) ∧ (r : Int) < (4 : Int)) ∧
    c5 (Value.iface 24 (Kd.val .ptr (some (ptr bA)))) (aget (n := 4) (a := KPOp) f ((r : Int) : Int).toNat) h52 fun r53 h54 =>
    (0 ≤ (r : Int) ∧ (r : Int) < (4 : Int)) ∧
    (0 ≤ (r : Int) ∧ (r : Int) < (4 : Int)) ∧
    c6 (some (ptr bM)) (aget (n := 4) (a := KR9) g ((r : Int) : Int).toNat) h54 fun r55 h56 =>
    (0 ≤ (r : Int) ∧ (r : Int) < (4 : Int)) ∧
    law9_ParkMicro.j3 c10 c9 c11 c12 Q go (i, ((f, ()), ((g, ()), ()))) ((r : Int), ((aset (n := 4) (a := KPOp) f ((r : Int) : Int).toNat r53), ()), ((aset (n := 4) (a := KR9) g ((r : Int) : Int).toNat r55), ()), ()) h56 := by
  have b1 : 0 ≤ (r : Int) ∧ (r : Int) < 4 := by omega
  refine iW o.ra fun h1 a1 s1 => ?_
  have o1 := o.putA a1 s1 ⟨o.fit.lg, o.fit.cs, o.fit.sz⟩
  refine o1.rm.setWho (w := (r : Int)) fun h2 a2 s2 => ⟨b1, ?_⟩
  have o2 := o1.putM a2 s2
  rw [Int.toNat_natCast, agetF hr, agetG hr]
  obtain ⟨ds, p, q, q1, q2, q3, q4, q5⟩ := o2.el r hr
  have ft := o2.fit
  rw [q1, q2]
  obtain ⟨x1, x2⟩ := q3.step { m with who := (r : Int) }
  refine iS o2.ra ft (by omega) q3.safe fun S1 h3 a3 s3 => ⟨b1, b1, ?_⟩
  have ft3 : (stepP { m with who := (r : Int) } p).1.Fit (n + 1) := by
    unfold stepP
    refine pif (P := fun y : AS × POp => y.1.Fit (n + 1)) (fun _ => ⟨Nat.le_succ_of_le ft.lg, ft.cs, ft.sz⟩) fun _ => pif (P := fun y : AS × POp => y.1.Fit (n + 1)) (fun _ => ⟨Nat.le_succ_of_le ft.lg, ft.cs, ft.sz⟩) fun _ => pif (P := fun y : AS × POp => y.1.Fit (n + 1)) (fun _ => (ft.step p.look).1) fun _ => ?_
    split <;> exact (ft.actA p.st.req).1
  have o3 := o2.putA a3 s3 ft3
  have st3 : Step (fun x => S x ∨ S' x) (fun x => S1 x ∨ S' x) h2 h3 := ⟨s3.1.mono fun x q => .inl q, fun x q => q.elim (fun q => (s3.2 x q).imp .inl id) fun q => .inl (.inr q)⟩
  have q4' : Arr h3 KP2 q.ds ds := Arr.ext st3.1 q4 (fun x p => (q5 x p).2)
  have q5' : ∀ x, blkOf q.ds x → h3 x ≠ none ∧ ¬ (S1 x ∨ S' x) := fun x p => ⟨fun c => (q5 x p).1 (st3.1.2 x c), st3.off (T := blkOf q.ds) (fun x p => (q5 x p).2) (fun x p => (q5 x p).1) x p⟩
  refine i6 o3.rm ft (by omega) (q3.r9ok q4') fun S4 h4 a4 s4 => ⟨b1, ?_⟩
  rw [← x1] at a4
  have o4 := o3.putM a4 s4
  have st4 : Step (fun x => S1 x ∨ S' x) (fun x => S1 x ∨ S4 x) h3 h4 := ⟨s4.1.mono fun x q => .inr q, fun x q => q.elim (fun q => .inl (.inl q)) fun q => (s4.2 x q).imp .inr id⟩
  have E : ElP h4 (fun x => S1 x ∨ S4 x) (stepP { m with who := (r : Int) } p).2.den (stepR9 ds { m with who := (r : Int) } q).2.den := by
    refine ⟨ds, _, _, rfl, rfl, x2, ?_, fun x hx => ?_⟩
    · rw [stepR9_ds]; exact Arr.ext st4.1 q4' (fun x p => (q5' x p).2)
    · rw [stepR9_ds] at hx
      exact ⟨fun c => (q5' x hx).1 (st4.1.2 x c), st4.off (T := blkOf q.ds) (fun x p => (q5' x p).2) (fun x p => (q5' x p).1) x hx⟩
  have o5 := o4.putE (r := r) E
  exact pk_end iA iR iP iK hr o5 (hgo _ _ _ _ _ _ o5)
theorem pk_dark (iS : DarkPC c5) (iD : R9DeadC c7) (iA : PAnsC c9) (iR : R9AnsC c10) (iP : PParkC c11) (iK : R9ParkC c12) (hn : n ≤ 900000000) {r : Nat} (hr : r < 4) {go : PGo} {i : Int} (o : PMi h0 bA bM n m m f g S S' h)
    (hgo : ∀ m f g S S' h', PMi h0 bA bM (n + 1) m m f g S S' h' → go ((w64 (i + 1)), (f, ()), (g, ()), ()) h') :
    (0 ≤ (r : Int) ∧ (r : Int) < (4 : Int)) ∧
    c5 Value.nilIface (aget (n := 4) (a := KPOp) f ((r : Int) : Int).toNat) h fun r57 h58 =>
    (0 ≤ (r : Int) ∧ (r : Int) < (4 : Int)) ∧
    (0 ≤ (r : Int) ∧ (r : Int) < (4 : Int)) ∧
    c10 (aget (n := 4) (a := KR9) g ((r : Int) : Int).toNat) h58 fun r59 h60 =>
    (((decide (r59.1 = 0)) = true →
    c7 h60 fun r61 h62 =>
    (0 ≤ (r : Int) ∧ (r : Int) < (4 : Int)) ∧
    law9_ParkMicro.j3 c10 c9 c11 c12 Q go (i, ((f, ()), ((g, ()), ()))) ((r : Int), ((aset (n := 4) (a := KPOp) f ((r : Int) : Int).toNat r57), ()), ((aset (n := 4) (a := KR9) g ((r : Int) : Int).toNat r61), ()), ()) h62) ∧
    ((decide (r59.1 = 0)) = false →
    law9_ParkMicro.j3 c10 c9 c11 c12 Q go (i, ((f, ()), ((g, ()), ()))) ((r : Int), ((aset (n := 4) (a := KPOp) f ((r : Int) : Int).toNat r57), ()), (g, ()), ()) h60)) := by
  have b1 : 0 ≤ (r : Int) ∧ (r : Int) < 4 := by omega
  refine ⟨b1, ?_⟩
  rw [Int.toNat_natCast, agetF hr, agetG hr]
  obtain ⟨ds, p, q, q1, q2, q3, q4, q5⟩ := o.el r hr
  rw [q1, q2]
  refine iS fun h1 l1 => ⟨b1, b1, iR ?_⟩
  have o1 := o.more l1 (Nat.le_succ n)
  obtain ⟨E1, E2⟩ := ElP.dark (F := fun x => S x ∨ S' x) q3 (q4.le l1) (fun x hx => ⟨fun c => (q5 x hx).1 (l1.none c), (q5 x hx).2⟩)
  refine ⟨fun e => ?_, fun e => ?_⟩
  · have e : q.answer.1 = 0 := of_decide_eq_true e
    refine iD ⟨b1, ?_⟩
    have o5 := o1.putE (r := r) (E1 e)
    exact pk_end iA iR iP iK hr o5 (hgo _ _ _ _ _ _ o5)
  · have e : q.answer.1 ≠ 0 := of_decide_eq_false e
    have o5 := o1.putE (r := r) (E2 e)
    have hg : aset (n := 4) (a := KR9) g r q.den = g := by
      funext j
      unfold aset
      by_cases c : j.val = r
      · rw [if_pos c, ← q2]; congr 1; exact Fin.ext c.symm
      · rw [if_neg c]
    rw [hg] at o5
    exact pk_end iA iR iP iK hr o5 (hgo _ _ _ _ _ _ o5)
theorem none_refusesA {w : Int} {t : Bool} {r : Ra} : arenaA ⟨0, [], [], w, t⟩ r = (none, ⟨0, [], [], w, t⟩) := by
  cases r with
  | rq r => exact none_refuses
  | add a d => exact if_neg fun h => by obtain ⟨a, b⟩ := h; simp at b; omega
theorem pk_deny (iS : StepPC 24 c5) (i8 : NewM c8) (i6 : RStep9C c6) (iA : PAnsC c9) (iR : R9AnsC c10) (iP : PParkC c11) (iK : R9ParkC c12) (hn : n ≤ 900000000) {r : Nat} (hr : r < 4) {go : PGo} {i : Int} (o : PMi h0 bA bM n m m f g S S' h)
    (hgo : ∀ m f g S S' h', PMi h0 bA bM (n + 1) m m f g S S' h' → go ((w64 (i + 1)), (f, ()), (g, ()), ()) h') :
    c8 0 h fun r63 h64 =>
    (((decide (r63.2.1 ≠ 0)) = true →
    Q false h64) ∧
    ((decide (r63.2.1 ≠ 0)) = false →
    (0 ≤ (r : Int) ∧ (r : Int) < (4 : Int)) ∧
    c5 (Value.iface 24 (Kd.val (.ptr : Kd) r63.1)) (aget (n := 4) (a := KPOp) f ((r : Int) : Int).toNat) h64 fun r65 h66 =>
    (0 ≤ (r : Int) ∧ (r : Int) < (4 : Int)) ∧
    new h66 (KMem.cells (Sl.none, (0, (0, (Sl.none, ()))))) fun p67 h68 =>
    (0 ≤ (r : Int) ∧ (r : Int) < (4 : Int)) ∧
    c6 (some p67) (aget (n := 4) (a := KR9) g ((r : Int) : Int).toNat) h68 fun r69 h70 =>
    (0 ≤ (r : Int) ∧ (r : Int) < (4 : Int)) ∧
    law9_ParkMicro.j3 c10 c9 c11 c12 Q go (i, ((f, ()), ((g, ()), ()))) ((r : Int), ((aset (n := 4) (a := KPOp) f ((r : Int) : Int).toNat r65), ()), ((aset (n := 4) (a := KR9) g ((r : Int) : Int).toNat r69), ()), ()) h70)) := by
  have b1 : 0 ≤ (r : Int) ∧ (r : Int) < 4 := by omega
  refine i8 fun bN SN h1 a1 => ⟨fun e => absurd rfl (of_decide_eq_true e), fun _ => ⟨b1, ?_⟩⟩
  rw [Int.toNat_natCast, agetF hr, agetG hr]
  obtain ⟨ds, p, q, q1, q2, q3, q4, q5⟩ := o.el r hr
  rw [q1, q2]
  have ft0 : AS.Fit ⟨0, [], [], 0, false⟩ 0 := ⟨by simp, by simp, by simp⟩
  have ft1 : AS.Fit ⟨0, [], [], 0, true⟩ 0 := ⟨by simp, by simp, by simp⟩
  refine iS a1 ft0 (by omega) q3.safe fun S1 h2 a2 s2 => ⟨b1, ?_⟩
  have m1 : (stepP ⟨0, [], [], 0, false⟩ p).1 = ⟨0, [], [], 0, false⟩ := by
    unfold stepP
    refine pif (P := fun y : AS × POp => y.1 = ⟨0, [], [], 0, false⟩) (fun _ => rfl) fun _ => pif (P := fun y : AS × POp => y.1 = ⟨0, [], [], 0, false⟩) (fun _ => rfl) fun _ => pif (P := fun y : AS × POp => y.1 = ⟨0, [], [], 0, false⟩) (fun _ => by rw [none_step]) fun _ => ?_
    rw [none_refusesA]
  rw [m1] at a2
  have l2 : le h h2 := a2.le
  refine Obj.new (k := KMem) fun bX h3 hb ob lb => ⟨b1, ?_⟩
  have l3 := l2.trans lb
  have M1 : RMem h2 bX ⟨0, [], [], 0, true⟩ (fpA bX Sl.none Sl.none) h3 := ⟨rfl, Sl.none, Sl.none, rfl, ob, (New.nil h3 ki).base lb, (New.nil h3 KAcc).base lb, hb, no_blkM, no_blkM, fun x q _ => no_blkM q⟩
  refine i6 M1 ft1 (by omega) (q3.r9ok (q4.le l3)) fun S4 h4 a4 s4 => ⟨b1, ?_⟩
  have l4 : le h h4 := l2.trans a4.le
  -- the same machines, whatever the log is told
  have x : stepP ⟨0, [], [], 0, false⟩ p = (⟨0, [], [], 0, false⟩, (stepP ⟨0, [], [], 0, true⟩ p).2) := by
    refine Prod.ext m1 ?_
    show (stepP ⟨0, [], [], 0, false⟩ p).2 = (stepP ⟨0, [], [], 0, true⟩ p).2
    unfold stepP
    rw [none_refusesA, none_refusesA, none_step, none_step]
    by_cases z : p.st.kind = 0
    · rw [if_pos z, if_pos z]
    by_cases z2 : p.st.at_ = 0
    · rw [if_neg z, if_neg z, if_pos z2, if_pos z2]
    by_cases z3 : p.st.at_ = 4
    · rw [if_neg z, if_neg z, if_neg z2, if_neg z2, if_pos z3, if_pos z3]
    · rw [if_neg z, if_neg z, if_neg z2, if_neg z2, if_neg z3, if_neg z3]
  obtain ⟨_, x2⟩ := q3.step ⟨0, [], [], 0, true⟩
  rw [x]
  have o4 := o.more l4 (Nat.le_succ n)
  have E : ElP h4 (fun x => S x ∨ S' x) (stepP ⟨0, [], [], 0, true⟩ p).2.den (stepR9 ds ⟨0, [], [], 0, true⟩ q).2.den := by
    refine ⟨ds, _, _, rfl, rfl, x2, ?_, fun x hx => ?_⟩
    · rw [stepR9_ds]; exact q4.le l4
    · rw [stepR9_ds] at hx
      exact ⟨fun c => (q5 x hx).1 (l4.none c), (q5 x hx).2⟩
  have o5 := o4.putE (r := r) E
  exact pk_end iA iR iP iK hr o5 (hgo _ _ _ _ _ _ o5)
theorem pk_copy (iA : PAnsC c9) (iR : R9AnsC c10) (iP : PParkC c11) (iK : R9ParkC c12) {r : Nat} (hr : r < 4) {go : PGo} {i : Int} (o : PMi h0 bA bM n m m f g S S' h)
    (hgo : ∀ m f g S S' h', PMi h0 bA bM (n + 1) m m f g S S' h' → go ((w64 (i + 1)), (f, ()), (g, ()), ()) h') :
    (4 : Int) ≠ 0 ∧
    (0 ≤ (r : Int) ∧ (r : Int) < (4 : Int)) ∧
    (0 ≤ (Int.tmod (w64 ((r : Int) + 1)) 4) ∧ (Int.tmod (w64 ((r : Int) + 1)) 4) < (4 : Int)) ∧
    (4 : Int) ≠ 0 ∧
    (0 ≤ (r : Int) ∧ (r : Int) < (4 : Int)) ∧
    (0 ≤ (Int.tmod (w64 ((r : Int) + 1)) 4) ∧ (Int.tmod (w64 ((r : Int) + 1)) 4) < (4 : Int)) ∧
    (4 : Int) ≠ 0 ∧
    law9_ParkMicro.j3 c10 c9 c11 c12 Q go (i, ((f, ()), ((g, ()), ()))) ((Int.tmod (w64 ((r : Int) + 1)) 4), ((aset (n := 4) (a := KPOp) f ((Int.tmod (w64 ((r : Int) + 1)) 4) : Int).toNat (aget (n := 4) (a := KPOp) f ((r : Int) : Int).toNat)), ()), ((aset (n := 4) (a := KR9) g ((Int.tmod (w64 ((r : Int) + 1)) 4) : Int).toNat (aget (n := 4) (a := KR9) g ((r : Int) : Int).toNat)), ()), ()) h := by
  have b1 : 0 ≤ (r : Int) ∧ (r : Int) < 4 := by omega
  have hw : w64 ((r : Int) + 1) = (r : Int) + 1 := by rw [w64_of] <;> omega
  have hq : Int.tmod ((r : Int) + 1) 4 = (((r + 1) % 4 : Nat) : Int) := by rw [Int.tmod_eq_emod_of_nonneg (by omega)]; omega
  rw [hw, hq]
  have hq4 : (r + 1) % 4 < 4 := Nat.mod_lt _ (by decide)
  generalize (r + 1) % 4 = q at hq4
  have b2 : 0 ≤ (q : Int) ∧ (q : Int) < 4 := by omega
  rw [Int.toNat_natCast, Int.toNat_natCast, agetF hr, agetG hr]
  have o5 := (o.putE (r := q) (o.el r hr)).more (fun _ _ e => e) (Nat.le_succ n)
  exact ⟨by decide, b1, b2, by decide, b1, b2, by decide, pk_end iA iR iP iK hq4 o5 (hgo _ _ _ _ _ _ o5)⟩
theorem pk_move {base workers : Int} {dsl : Sl} {dl : List (Den KP2)} (i3 : BornP base workers dsl dl c3) (iW : WhoM c4) (iS : StepPC 24 c5) (iD : DarkPC c5) (i6 : RStep9C c6) (i7 : R9DeadC c7) (i8 : NewM c8) (iA : PAnsC c9) (iR : R9AnsC c10) (iP : PParkC c11) (iK : R9ParkC c12) (hn : n ≤ 900000000) {r : Nat} (hr : r < 4) {go : PGo} {i size : Int} {bg mv : Sl} {w : Den KMv} {k : Bool} (hk : k = true → 0 ≤ (w.1 : Int) ∧ (w.1 : Int) ≤ 4)
    (ad : Arr h KP2 dsl dl) (o : PMi h0 bA bM n m m f g S S' h)
    (hgo : ∀ m f g S S' h', PMi h0 bA bM (n + 1) m m f g S S' h' → go ((w64 (i + 1)), (f, ()), (g, ()), ()) h') :
    law9_ParkMicro.j4 c7 c3 c4 c5 c6 c10 c8 c9 c11 c12 Q (size, (bg, (base, (workers, (dsl, (mv, ())))))) (some (ptr bA), (true, ())) (ptr bM) go (i, ((f, ()), ((g, ()), ()))) w (r : Int) (k, ()) h := by
  have b1 : 0 ≤ (r : Int) ∧ (r : Int) < 4 := by omega
  refine ⟨fun e => ?_, fun _ => ⟨fun _ => pk_step iS iW i6 iA iR iP iK hn hr o hgo, fun _ => ⟨fun _ => pk_dark iD i7 iA iR iP iK hn hr o hgo, fun _ => ⟨fun _ => pk_deny iS i8 i6 iA iR iP iK hn hr o hgo, fun _ => ⟨fun _ => pk_copy iA iR iP iK hr o hgo, fun _ => ?_⟩⟩⟩⟩⟩
  · obtain ⟨k0, k4⟩ := hk e
    refine i3 k0 k4 ad fun d' e' h' l' E => ⟨b1, b1, ?_⟩
    rw [Int.toNat_natCast]
    have o5 := (o.more l' (Nat.le_succ n)).putE (r := r) (E _ fun x hx => o.live hx)
    exact pk_end iA iR iP iK hr o5 (hgo _ _ _ _ _ _ o5)
  · have o5 := o.more (fun _ _ e => e) (Nat.le_succ n)
    exact pk_end iA iR iP iK hr o5 (hgo _ _ _ _ _ _ o5)
end
end Go.Mx
