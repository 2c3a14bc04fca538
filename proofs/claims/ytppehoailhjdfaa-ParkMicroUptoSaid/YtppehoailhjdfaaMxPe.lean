/-
  Parking: the walks of the reference's machines.
-/
import Derived.Test.YtppehoailhjdfaaMxPd
set_option linter.unusedVariables false
set_option linter.unusedSimpArgs false
set_option linter.unusedSectionVars false
namespace Go.Mx

def R2C (f : R9 → Int → R9) (c : Den KR9 → Int → Heap → (Den KR9 → Heap → Prop) → Prop) : Prop := ∀ {r : R9} {x : Int} {h : Heap} {Q : Den KR9 → Heap → Prop}, Q (f r x).den h → c r.den x h Q
def REndC (c : Den KR9 → Int → Int → Heap → (Den KR9 → Heap → Prop) → Prop) : Prop := ∀ {r : R9} {x v : Int} {h : Heap} {Q : Den KR9 → Heap → Prop}, Q (r.end_ x v).den h → c r.den x v h Q
def RAroundC (c : Den KR9 → Int → Den KR9 → Heap → (Den KR9 → Heap → Prop) → Prop) : Prop := ∀ {r t : R9} {a : Int} {h : Heap} {Q : Den KR9 → Heap → Prop}, Q (r.around a t).den h → c r.den a t.den h Q
def RWhoC (c : Den KR9 → Heap → (Int → Heap → Prop) → Prop) : Prop := ∀ {r : R9} {h : Heap} {Q : Int → Heap → Prop}, r.workers ≠ 0 → Q r.who h → c r.den h Q
theorem r9to_spec : R2C R9.to ref9_Op_to.M := fun q => q
theorem r9end_spec : REndC ref9_Op_end.M := fun q => q
theorem r9who_spec : RWhoC ref9_Op_who.M := fun w q => ⟨w, q⟩
theorem r9around_spec : RAroundC ref9_Op_around.M := by
  intro r t a h Q hQ
  unfold R9.around at hQ
  refine ⟨fun e => ?_, fun e => ?_⟩
  · have e : r.workers ≤ w64 (r.k + 1) := of_decide_eq_true e
    rw [if_pos e] at hQ; exact hQ
  · have e : ¬ r.workers ≤ w64 (r.k + 1) := of_decide_eq_false e
    rw [if_neg e] at hQ; exact hQ
theorem ifR {c : Prop} [Decidable c] {x y : R9} {Q : Den KR9 → Heap → Prop} {h : Heap} {A B : Prop} (hA : c → Q x.den h → A) (hB : ¬ c → Q y.den h → B) (hQ : Q (R9.den (if c then x else y)) h) : (decide c = true → A) ∧ (decide c = false → B) :=
  ⟨fun e => hA (of_decide_eq_true e) (by rw [if_pos (of_decide_eq_true e)] at hQ; exact hQ), fun e => hB (of_decide_eq_false e) (by rw [if_neg (of_decide_eq_false e)] at hQ; exact hQ)⟩
theorem r9rested_spec {ct ca ce} (iT : R2C R9.to ct) (iA : RAroundC ca) (iE : REndC ce) : R2C R9.rested (ref9_Op_rested.M ct ca ce) := by
  intro r v h Q hQ
  have e0 : Q (r.end_ r.how 0).den h → ref9_Op_rested.j1 ce Q ((r.at_, (r.self, (r.k, (r.how, (r.base, (r.workers, (r.ds, (r.t, (r.code, (r.v, ())))))))))), (0, (0, (0, (0, (0, (0, (Sl.none, (0, (0, (0, ())))))))))), ()) h := fun q => iE (r := r) q
  exact ifR (fun _ q => iT (r := r) q) (fun _ q => ifR (fun _ q => iT (r := r) q) (fun _ q => ifR (fun _ q => ifR (fun _ q => iT (r := { r with how := 17 }) q) (fun _ q => iT (r := r) (iA (r := r) (t := r.to 6) q)) q)
    (fun _ q => ifR (fun _ q => iT (r := { r with t := v }) q) (fun _ q => ifR (fun _ q => ifR (fun _ q => iT (r := { r with how := 16 }) q) (fun _ q => iT (r := r) (iA (r := r) (t := r.to 6) q)) q)
      (fun _ q => ifR (fun _ q => ifR (fun _ q => q) (fun _ q => iE (r := r) q) q) (fun _ q => ifR (fun _ q => ifR (fun _ q => iT (r := r) q) (fun _ q => e0 q) q) (fun _ q => e0 q) q) q) q) q) q) q) hQ
theorem r9told_spec {ce ca ct cw} (iE : REndC ce) (iA : RAroundC ca) (iT : R2C R9.to ct) (iW : RWhoC cw) {r : R9} {v : Int} {h : Heap} {Q : Den KR9 → Heap → Prop} (hw : r.workers ≠ 0) (hQ : Q (r.told v).den h) : ref9_Op_told.M ce ca ct cw r.den v h Q := by
  have e0 : Q (r.around 14 (r.end_ 20 0)).den h → ref9_Op_told.j1 ce ca r.den Q ((0, (0, (0, (0, (0, (0, (Sl.none, (0, (0, (0, ())))))))))), ()) h := fun q => iE (r := r) (iA (r := r) (t := r.end_ 20 0) q)
  exact ifR (fun _ q => ifR (fun _ q => iE (r := r) q) (fun _ q => iE (r := r) (iA (r := r) (t := r.end_ 19 0) q)) q)
    (fun _ q => ifR (fun _ q => ifR (fun _ q => iT (r := r) q) (fun _ q => iE (r := r) (iA (r := r) (t := r.end_ 19 0) q)) q)
    (fun _ q => ifR (fun _ q => iW (r := r) hw (iE (r := r) q)) (fun _ q => ifR (fun _ q => ifR (fun _ q => iE (r := r) q) (fun _ q => iE (r := r) q) q)
      (fun _ q => ifR (fun _ q => ifR (fun _ q => iT (r := r) q) (fun _ q => e0 q) q) (fun _ q => e0 q) q) q) q) q) hQ
def wAdd (a d : Int) : Wn := (3, (a, (d, (0, (0, (0, ()))))))
def Ra.want : Ra → Wn
  | .rq r => r.want
  | .add a d => wAdd a d
theorem ifW {c : Prop} [Decidable c] {x y : Ra} {Q : Wn → Heap → Prop} {h : Heap} {A B : Prop} (hA : c → Q x.want h → A) (hB : ¬ c → Q y.want h → B) (hQ : Q (Ra.want (if c then x else y)) h) : (decide c = true → A) ∧ (decide c = false → B) :=
  ⟨fun e => hA (of_decide_eq_true e) (by rw [if_pos (of_decide_eq_true e)] at hQ; exact hQ), fun e => hB (of_decide_eq_false e) (by rw [if_neg (of_decide_eq_false e)] at hQ; exact hQ)⟩
/-- What the reference's machine reads of its list. -/
structure R9Ok (h : Heap) (ds : List (Den KP2)) (r : R9) : Prop where
  w : r.at_ ≠ 0 → r.workers ≠ 0
  d : r.at_ = 4 ∨ r.at_ = 5 → Arr h KP2 r.ds ds ∧ 0 ≤ r.who ∧ r.who < (ds.length : Int)
theorem r9want_spec {cw} (iW : RWhoC cw) {r : R9} {ds : List (Den KP2)} {h : Heap} {Q : Wn → Heap → Prop} (h0 : r.at_ ≠ 0) (ok : R9Ok h ds r) (hQ : Q (r.req ds).want h) : ref9_Op_want.M cw r.den h Q := by
  unfold R9.req at hQ
  have ldq : ∀ {K : Int → Prop}, (r.at_ = 4 ∨ r.at_ = 5) → K (dqAt ds r.who).1 → (0 ≤ r.who ∧ r.who < (r.ds.len : Int)) ∧ deref r.ds.a fun a => ld ki h ((a.add ((r.who : Int).toNat * 2)).add 0) K := fun {K} h4 hK => by
    obtain ⟨a, b, c⟩ := ok.d h4
    have hl := a.1
    obtain ⟨ad, ha⟩ := a.addr (by omega)
    refine ⟨⟨b, by omega⟩, ?_⟩
    rw [ha]
    have hx : ds[(r.who).toNat]? = some (dqAt ds r.who) := by unfold dqAt; rw [List.getElem?_eq_getElem (by omega)]; rfl
    exact a.ldPart ha hx (kp := ki) (y := (dqAt ds r.who).1) (off := 0) ⟨[], _, rfl, rfl⟩ (sz := 2) rfl hK
  have j2 : ∀ {b : Bool}, (b = true → r.at_ = 10 ∨ r.at_ = 14) → (b = true → Q (Rq.want (.cas (w64 (w64 (r.base + 2) + r.who)) 1 0)) h) → (b = false → Q (Ra.want (if r.at_ = 9 then .rq (.ld r.base) else if r.at_ = 13 then .rq (.st (w64 (r.base + 1)) 1) else .add r.base (-1))) h) → ref9_Op_want.j2 cw r.den Q (b, ()) h := fun {b} _ q1 q2 =>
    ⟨fun e => iW (r := r) (ok.w h0) (q1 e), fun e => ifW (fun _ q => q) (fun _ q => ifW (fun _ q => q) (fun _ q => q) q) (q2 e)⟩
  have j3 : ∀ {b : Bool}, (b = true → Q (Rq.want (.ld (w64 (r.base + 1)))) h) → (b = false → Q (Ra.want (if r.at_ = 4 then .rq (.ld (dqAt ds r.who).1) else if r.at_ = 5 then .rq (.ld (w64 ((dqAt ds r.who).1 + 1))) else if r.at_ = 6 then .rq (.ld (w64 (w64 (r.base + 2) + r.self)))
      else if r.at_ = 7 then .rq (.cas (w64 (w64 (r.base + 2) + r.self)) 1 0) else if r.at_ = 10 then .rq (.cas (w64 (w64 (r.base + 2) + r.who)) 1 0) else if r.at_ = 14 then .rq (.cas (w64 (w64 (r.base + 2) + r.who)) 1 0)
      else if r.at_ = 9 then .rq (.ld r.base) else if r.at_ = 13 then .rq (.st (w64 (r.base + 1)) 1) else .add r.base (-1))) h) → ref9_Op_want.j3 cw r.den Q (b, ()) h := fun {b} q1 q2 =>
    ⟨fun e => q1 e, fun e => ifW (fun c q => iW (r := r) (ok.w h0) (ldq (.inl c) q)) (fun _ q => ifW (fun c q => iW (r := r) (ok.w h0) (ldq (.inr c) q)) (fun _ q => ifW (fun _ q => q) (fun _ q => ifW (fun _ q => q) (fun n10 q => ⟨fun e => ?_, fun e => ?_⟩) q) q) q) (q2 e)⟩
  · refine ifW (fun _ q => q) (fun _ q => ifW (fun _ q => q) (fun n3 q => ⟨fun e => ?_, fun e => ?_⟩) q) hQ
    · have c : r.at_ = 3 := of_decide_eq_true e
      show ref9_Op_want.j3 cw r.den Q (decide (r.at_ = 3), ()) h
      rw [if_pos c] at q
      rw [decide_eq_true c]
      exact j3 (fun _ => q) (fun z => by cases z)
    · have c : ¬ r.at_ = 3 := of_decide_eq_false e
      show ref9_Op_want.j3 cw r.den Q (decide (r.at_ = 12), ()) h
      rw [if_neg c] at q
      by_cases d : r.at_ = 12
      · rw [if_pos d] at q
        rw [decide_eq_true d]
        exact j3 (fun _ => q) (fun z => by cases z)
      · rw [if_neg d] at q
        rw [decide_eq_false d]
        exact j3 (fun z => by cases z) (fun _ => q)
  · have c : r.at_ = 10 := of_decide_eq_true e
    rw [if_pos c] at q
    show ref9_Op_want.j2 cw r.den Q (decide (r.at_ = 10), ()) h
    rw [decide_eq_true c]
    exact j2 (fun _ => .inl c) (fun _ => q) (fun z => by cases z)
  · have c : ¬ r.at_ = 10 := of_decide_eq_false e
    rw [if_neg c] at q
    by_cases c : r.at_ = 14
    · rw [if_pos c] at q
      show ref9_Op_want.j2 cw r.den Q (decide (r.at_ = 14), ()) h
      rw [decide_eq_true c]
      exact j2 (fun _ => .inr c) (fun _ => q) (fun z => by cases z)
    · rw [if_neg c] at q
      show ref9_Op_want.j2 cw r.den Q (decide (r.at_ = 14), ()) h
      rw [decide_eq_false c]
      exact j2 (fun z => by cases z) (fun z => by cases z) (fun _ => q)
end Go.Mx
