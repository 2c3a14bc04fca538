/-
  The reference's memory (plunderref21): acts.
-/
import Derived.Test.YtppehoailhjdfabMxVb
import Derived.Test.YtppehoailhjdfabMxBm
set_option linter.unusedVariables false
set_option linter.unusedSimpArgs false
set_option linter.unusedSectionVars false
namespace Go.Mx

def RDrainC (c : Option Addr → Int → Heap → (Unit → Heap → Prop) → Prop) : Prop := ∀ {h0 h : Heap} {bm : Nat} {M : BM} {S : Nat → Prop} {L k : Nat} {Q : Unit → Heap → Prop}, RmR h0 bm M S h → M.Ok L → L + 64 ≤ 1000000000 → k < M.n →
  (∀ S' h', RmR h0 bm (M.drain k) S' h' → Step S S' h h' → Q () h') → c (some (ptr bm)) k h Q
theorem RmS.rowQ {h0 h g : Heap} {bm ba : Nat} {c l : Sl} {qa : Addr} {qn qc : Nat} {els : List Sl} {who : Int} {M : BM} (o : RmS h0 h bm ba c l ⟨some qa, qn, qc⟩ els who M) {k : Nat} (hk : k < M.n) : ∃ sl, els[k]? = some sl ∧ New h0 h KWt sl (M.q k) ∧ (0 ≤ (k : Int) ∧ (k : Int) < (qn : Int)) ∧ qn = M.n := by
  have qln := o.q.out.len
  have qel := o.q.len
  rw [List.length_map, List.length_range] at qel
  dsimp only at qln
  obtain ⟨sl, hsl⟩ : ∃ sl, els[k]? = some sl := ⟨els[k]'(by omega), by simp⟩
  exact ⟨sl, hsl, o.q.row k sl _ hsl (range_get M.q hk), ⟨by omega, by omega⟩, by omega⟩
theorem RmS.qsome {h0 h : Heap} {bm ba : Nat} {c l qs : Sl} {els : List Sl} {who : Int} {M : BM} (o : RmS h0 h bm ba c l qs els who M) (hk : 0 < M.n) : ∃ qa qn qc, qs = ⟨some qa, qn, qc⟩ := by
  have qln := o.q.out.len
  have qel := o.q.len
  rw [List.length_map, List.length_range] at qel
  obtain ⟨qa, qn, qc⟩ := qs
  dsimp only at qln
  cases qa with
  | none => obtain ⟨a, e⟩ := o.q.out.arr.addr (by dsimp only; omega); cases e
  | some qa => exact ⟨qa, qn, qc, rfl⟩
theorem drainN_succ (k : Nat) : ∀ (i : Nat) (M : BM), BM.drainN k (i + 1) M = (BM.drainN k i M).flush k
  | 0, M => rfl
  | i + 1, M => by rw [BM.drainN, drainN_succ k i]; rfl
theorem rdrain_spec {cf} (iF : RFlushC cf) : RDrainC (ref21_Memory_Drain.M cf) := by
  intro h0 h bm M S L k Q R ok hL hk hQ
  have hql := ok.ql k
  have h64 := ok.r64
  refine Loop.idxB (M.q k).length (fun i _ g => ∃ S', RmR h0 bm (BM.drainN k i M) S' g ∧ Step S S' h g) ⟨S, R, .refl _ _⟩ ?_
  rintro i s g go hi ⟨S', R', s'⟩ hgo
  have oki := BM.drainN_ok (k := k) i ok
  obtain ⟨a1, a2, a3, a4, a5, a6, a7⟩ := BM.drainN_same (k := k) i M
  have R1 := R'
  obtain ⟨ba, c, l, qs, els, who, rfl, o⟩ := R'
  obtain ⟨qa, qn, qc, rfl⟩ := o.qsome (by omega)
  obtain ⟨sl, hsl, row, hb, hqn⟩ := o.rowQ (g := g) (k := k) (by omega)
  have rln := row.len
  rw [a7, List.length_drop] at rln
  refine ⟨fun _ => o.ld2 ⟨fun _ => o.ld2 ⟨hb, o.q.out.arr.ldAt rfl hsl rfl ?_⟩, fun e => absurd hb.2 (of_decide_eq_false e)⟩, fun e => absurd hb.1 (of_decide_eq_false e)⟩
  show ref21_Memory_Drain.j2 cf (some (ptr bm)) (k : Int) Q go (decide ((0 : Int) < (sl.len : Int)), ()) g
  by_cases q : (0 : Int) < (sl.len : Int)
  · rw [decide_eq_true q]
    refine ⟨fun _ => iF R1 oki (by omega) (fun q => absurd ⟨by omega, by omega⟩ q) fun j S2 g2 ej hj R2 s2 => ?_, fun e => (by cases e)⟩
    obtain rfl : k = j := by omega
    refine hgo (by omega) () g2 ⟨S2, ?_, s'.trans s2⟩
    rw [drainN_succ]; exact R2
  · rw [decide_eq_false q]
    refine ⟨fun e => (by cases e), fun _ => ?_⟩
    obtain rfl : i = (M.q k).length := by omega
    exact hQ _ g R1 s'

def RInC (c : Option Addr → Int → Heap → (Bool → Heap → Prop) → Prop) : Prop := ∀ {h0 h : Heap} {bm : Nat} {M : BM} {S : Nat → Prop} {a : Int} {Q : Bool → Heap → Prop}, RmR h0 bm M S h → Q (decide (M.In a)) h → c (some (ptr bm)) a h Q
theorem rin_spec : RInC ref21_Memory_inUse.M := by
  intro h0 h bm M S a Q R hQ
  obtain ⟨ba, c, l, qs, els, who, rfl, o⟩ := R
  have hc := o.ar.cell.len
  refine ⟨fun e => ?_, fun e => ?_⟩
  · have e : 0 ≤ a := of_decide_eq_true e
    refine o.ld0 (o.ar.ld1 ?_)
    have : decide (a < (c.len : Int)) = decide (M.In a) := decide_eq_decide.2 (by unfold BM.In; omega)
    rw [this]; exact hQ
  · have e : ¬ 0 ≤ a := of_decide_eq_false e
    rw [decide_eq_false (by unfold BM.In; omega)] at hQ
    exact hQ
def BM.refE (M : BM) (t : AMv) : Int := if t.2.1 = 4 then (if t.2.2.2.1 < 1 then 21 else if M.sz - (M.cs.length : Int) < t.2.2.2.1 then 22 else 0) else if M.In t.2.2.1 then 0 else 20
def RRefuC (c : Option Addr → AMv → Heap → (Int → Heap → Prop) → Prop) : Prop := ∀ {h0 h : Heap} {bm : Nat} {M : BM} {S : Nat → Prop} {L : Nat} {t : AMv} {Q : Int → Heap → Prop}, RmR h0 bm M S h → M.Ok L → Q (M.refE t) h → c (some (ptr bm)) t h Q
theorem rrefu_spec {ci} (iI : RInC ci) : RRefuC (ref21_Memory_refused.M ci) := by
  intro h0 h bm M S L t Q R ok hQ
  obtain ⟨t0, t1, t2, t3, t4, tu⟩ := t
  change Int at t1 t2 t3
  unfold BM.refE at hQ
  dsimp only at hQ
  refine ⟨fun e => ?_, fun e => ?_⟩
  · have e : t1 = 4 := of_decide_eq_true e
    rw [if_pos e] at hQ
    refine ⟨fun f => ?_, fun f => ?_⟩
    · have f : t3 < 1 := of_decide_eq_true f
      rw [if_pos f] at hQ; exact hQ
    have f : ¬ t3 < 1 := of_decide_eq_false f
    rw [if_neg f] at hQ
    obtain ⟨ba, c, l, qs, els, who, rfl, o⟩ := R
    have hc := o.ar.cell.len
    have hf := ok.cs
    have hz := ok.sz
    have hw : w64 (M.sz - (c.len : Int)) = M.sz - (M.cs.length : Int) := by rw [← hc, w64_of] <;> omega
    refine o.ld0 (o.ar.ld0 (o.ld0 (o.ar.ld1 ?_)))
    show ((decide (w64 (M.sz - (c.len : Int)) < t3) = true → _) ∧ (decide (w64 (M.sz - (c.len : Int)) < t3) = false → _))
    rw [hw]
    refine ⟨fun d => ?_, fun d => ?_⟩
    · rw [if_pos (of_decide_eq_true d)] at hQ; exact hQ
    · rw [if_neg (of_decide_eq_false d)] at hQ; exact hQ
  · have e : ¬ t1 = 4 := of_decide_eq_false e
    rw [if_neg e] at hQ
    refine iI R ?_
    by_cases q : M.In t2
    · rw [decide_eq_true q]
      rw [if_pos q] at hQ
      exact ⟨fun e => (by cases e), fun _ => hQ⟩
    · rw [decide_eq_false q]
      rw [if_neg q] at hQ
      exact ⟨fun _ => hQ, fun e => (by cases e)⟩

def RActC (c : Option Addr → Int → AMv → Heap → (Eff → Heap → Prop) → Prop) : Prop := ∀ {h0 h : Heap} {bm : Nat} {M : BM} {S : Nat → Prop} {L k : Nat} {t : AMv} {Q : Eff → Heap → Prop}, RmR h0 bm M S h → M.Ok L → L ≤ 900000000 → k < M.n →
  (∀ S' h', RmR h0 bm (M.act k t).1 S' h' → Step S S' h h' → Q (M.act k t).2 h') → c (some (ptr bm)) k t h Q
section
variable {cd : Option Addr → Int → Heap → (Unit → Heap → Prop) → Prop} {cr : Option Addr → AMv → Heap → (Int → Heap → Prop) → Prop} {cf : Option Addr → Int → Heap → (Bool → Heap → Prop) → Prop} {ca : Option Addr → AMv → Heap → (Eff → Heap → Prop) → Prop} (iD : RDrainC cd) (iR : RRefuC cr) (iF : RFlushC cf) (iA : RDoC ca)
include iA
theorem rdo_tail {h0 h : Heap} {bm : Nat} {M : BM} {S : Nat → Prop} {L k : Nat} {t : AMv} {Q : Eff → Heap → Prop} (R : RmR h0 bm M S h) (ok : M.Ok L) (hL : L ≤ 1000000000) {cs' : List Int} {f : Eff} (hc : cact M.sz M.cs t = (cs', f)) (hf : f.2.2.1 = 0)
    (hQ : ∀ S' h', RmR h0 bm (BM.log { M with cs := cs' } (toldP (k : Int) t f)) S' h' → Step S S' h h' → Q f h') {s : Den KEf × Unit} : ref21_Memory_Do.j1 ca (some (ptr bm)) (k : Int) t Q s h := by
  obtain ⟨ba, c, l, qs, els, who, rfl, o⟩ := R
  refine o.ld0 (deref_some ?_)
  refine o.ar.actor fun h1 a1 s1 => ?_
  obtain ⟨o1, t1⟩ := o.arena (M' := M) a1 s1 rfl rfl rfl o.wt
  refine o1.ld0 (iA o1.ar (Nat.le_trans ok.lg hL) ok.cs ok.sz fun c' l' h2 a2 s2 => ?_)
  have a2 : RaS h0 h2 ba c' l' M.sz (cact M.sz M.cs t).1 (if (cact M.sz M.cs t).2.2.2.1 = 0 then M.lg ++ [toldP (k : Int) t (cact M.sz M.cs t).2] else M.lg) (k : Int) := a2
  show Q (cact M.sz M.cs t).2 h2
  rw [hc] at a2 ⊢
  dsimp only at a2
  rw [if_pos hf] at a2
  have a3 : RaS h0 h2 ba c' l' (BM.log { M with cs := cs' } (toldP (k : Int) t f)).sz (BM.log { M with cs := cs' } (toldP (k : Int) t f)).cs (BM.log { M with cs := cs' } (toldP (k : Int) t f)).lg (k : Int) := by
    show RaS h0 h2 ba c' l' M.sz cs' (wl M.wt M.lg _) (k : Int)
    rw [o.wt]; exact a2
  obtain ⟨o2, t2⟩ := o1.arena (M' := BM.log { M with cs := cs' } (toldP (k : Int) t f)) a3 s2 rfl rfl rfl o.wt
  exact hQ _ h2 ⟨ba, c', l', qs, els, _, rfl, o2⟩ (t1.trans t2)
include iD iR iF
theorem ract_spec : RActC (ref21_Memory_Do.M cd cr cf ca) := by
  intro h0 h bm M S L k t Q R ok hL hk hQ
  obtain ⟨t0, t1, t2, t3, t4, tu⟩ := t
  change Int at t1 t2 t3 t4
  have hql := ok.ql k
  have h64 := ok.r64
  have hlg := ok.lg
  have out : ∀ {e : Int}, M.act k (t0, (t1, (t2, (t3, (t4, tu))))) = (M, (0, (false, (e, ())))) → Q (0, (false, (e, ()))) h := fun e => by
    rw [e] at hQ; exact hQ S h R (.refl _ _)
  have k23 : ¬ (0 ≤ t1 ∧ t1 ≤ 5) → ref21_Memory_Do.j5 cd cr cf ca (some (ptr bm)) (k : Int) (t0, (t1, (t2, (t3, (t4, tu))))) Q (true, ()) h := by
    intro q
    refine ⟨fun _ => out ?_, fun e => (by cases e)⟩
    unfold BM.act
    dsimp only
    rw [if_neg (show ¬ t1 = 0 by omega), if_neg (show ¬ t1 = 1 by omega), if_neg (show ¬ t1 = 2 by omega), if_neg (show ¬ t1 = 3 by omega), if_neg (show ¬ t1 = 4 by omega), if_neg (show ¬ t1 = 5 by omega)]; rfl
  have main : 0 ≤ t1 ∧ t1 ≤ 5 → ref21_Memory_Do.j5 cd cr cf ca (some (ptr bm)) (k : Int) (t0, (t1, (t2, (t3, (t4, tu))))) Q (false, ()) h := by
    intro hr
    refine ⟨fun e => (by cases e), fun _ => ⟨fun e => ?_, fun e => iR R ok ?_⟩⟩
    · have e : t1 = 5 := of_decide_eq_true e
      subst e
      exact iD R ok (by omega) hk fun S' h' R' s' => hQ S' h' R' s'
    have n5 : ¬ t1 = 5 := of_decide_eq_false e
    -- refused
    by_cases hz : M.refE (t0, (t1, (t2, (t3, (t4, tu))))) ≠ 0
    · refine ⟨fun _ => out ?_, fun e => absurd hz (of_decide_eq_false e)⟩
      show M.act k (t0, (t1, (t2, (t3, (t4, tu))))) = (M, (0, (false, (M.refE (t0, (t1, (t2, (t3, (t4, tu))))), ()))))
      have key : ∀ v, M.refE (t0, (t1, (t2, (t3, (t4, tu))))) = v → M.act k (t0, (t1, (t2, (t3, (t4, tu))))) = (M, (0, (false, (v, ())))) → M.act k (t0, (t1, (t2, (t3, (t4, tu))))) = (M, (0, (false, (M.refE (t0, (t1, (t2, (t3, (t4, tu))))), ())))) := fun v e1 e2 => by rw [e1]; exact e2
      by_cases q4 : t1 = 4
      · subst q4
        have un : M.refE (t0, (4, (t2, (t3, (t4, tu))))) = if t3 < 1 then 21 else if M.sz - (M.cs.length : Int) < t3 then 22 else 0 := if_pos rfl
        have ua : M.act k (t0, (4, (t2, (t3, (t4, tu))))) = ((M.reserve k t3).1, ef (M.reserve k t3).2.1 (M.reserve k t3).2.2) := by
          unfold BM.act
          dsimp only
          rw [if_neg (show ¬ (4 : Int) = 0 by decide), if_neg (show ¬ (4 : Int) = 1 by decide), if_neg (show ¬ (4 : Int) = 2 by decide), if_neg (show ¬ (4 : Int) = 3 by decide), if_pos rfl]
        by_cases c1 : t3 < 1
        · refine key 21 (by rw [un, if_pos c1]) ?_
          rw [ua, show M.reserve k t3 = (M, (0, 21)) from if_pos c1]; rfl
        · by_cases c2 : M.sz - (M.cs.length : Int) < t3
          · refine key 22 (by rw [un, if_neg c1, if_pos c2]) ?_
            rw [ua, show M.reserve k t3 = (M, (0, 22)) by unfold BM.reserve; rw [if_neg c1, if_pos c2]]; rfl
          · rw [un, if_neg c1, if_neg c2] at hz; exact absurd rfl hz
      · have un : M.refE (t0, (t1, (t2, (t3, (t4, tu))))) = if M.In t2 then 0 else 20 := if_neg q4
        by_cases c : M.In t2
        · rw [un, if_pos c] at hz; exact absurd rfl hz
        · refine key 20 (by rw [un, if_neg c]) ?_
          unfold BM.act
          dsimp only
          by_cases q0 : t1 = 0
          · rw [if_pos q0]; unfold BM.load; rw [if_neg c]; rfl
          rw [if_neg q0]
          by_cases q1 : t1 = 1
          · rw [if_pos q1]; unfold BM.store; rw [if_neg c]; rfl
          rw [if_neg q1]
          by_cases q2 : t1 = 2
          · rw [if_pos q2]; unfold BM.cas; rw [if_neg c]
          rw [if_neg q2, if_pos (show t1 = 3 by omega)]
          unfold BM.add; rw [if_neg c]; rfl
    have hz : M.refE (t0, (t1, (t2, (t3, (t4, tu))))) = 0 := Decidable.not_not.1 hz
    refine ⟨fun e => absurd hz (of_decide_eq_true e), fun _ => ?_⟩
    unfold BM.refE at hz
    dsimp only at hz
    unfold BM.act at hQ
    dsimp only at hQ
    have dsame := M.drain_same k
    obtain ⟨d1, d2, d3, d4, d5, d6, d7⟩ := dsame
    have okd := ok.drain k
    refine ⟨fun e => ?_, fun e => ?_⟩
    · -- load
      have e : t1 = 0 := of_decide_eq_true e
      subst e
      rw [if_neg (show ¬ (0 : Int) = 4 by decide)] at hz
      have q : M.In t2 := Decidable.not_not.1 fun q => by rw [if_neg q] at hz; cases hz
      rw [if_pos rfl] at hQ
      have R0 := R
      obtain ⟨ba, c, l, qs, els, who, rfl, o⟩ := R
      obtain ⟨qa, qn, qc, rfl⟩ := o.qsome (by omega)
      obtain ⟨sl, hsl, row, hb, hqn⟩ := o.rowQ (g := h) (k := k) hk
      have rln := row.len
      have rQ : ∀ {K : Sl → Prop}, K sl → ld .sl h (qa.add (k * 1)) K := fun hK => o.q.out.arr.ldAt rfl hsl rfl hK
      refine o.ld2 ⟨hb, rQ ?_⟩
      have hw0 : w64 ((sl.len : Int) - 1) = ((M.q k).length : Int) - 1 := by rw [← rln, w64_of (by omega) (by omega)]
      show Loop _ (w64 ((sl.len : Int) - 1), _) h
      rw [hw0]
      refine Loop.idxB (M.q k).length (fun n s g => s.1 = ((M.q k).length : Int) - 1 - n ∧ g = h ∧ (M.q k).reverse.find? (fun w => decide (w.1 = t2)) = ((M.q k).reverse.drop n).find? (fun w => decide (w.1 = t2))) ⟨by simp, rfl, rfl⟩ ?_
      rintro n ⟨i, u⟩ g go hn ⟨hi, rfl, hf⟩ hgo
      dsimp only at hi
      refine ⟨fun e => ?_, fun e => ?_⟩
      · have e : (0 : Int) ≤ i := of_decide_eq_true e
        have hlt : n < (M.q k).length := by omega
        obtain ⟨sa, sn, sc⟩ := sl
        dsimp only at rln
        cases sa with
        | none => obtain ⟨a, e⟩ := row.arr.addr (by dsimp only; omega); cases e
        | some sa =>
        obtain ⟨p, rfl⟩ := Int.eq_ofNat_of_zero_le e
        have hbp : 0 ≤ (p : Int) ∧ (p : Int) < (sn : Int) := ⟨by omega, by omega⟩
        have hx : (M.q k)[p]? = some ((M.q k)[p]'(by omega)) := by simp
        have hrev : (M.q k).reverse.drop n = (M.q k)[p]'(by omega) :: (M.q k).reverse.drop (n + 1) := by
          have h1 : n < (M.q k).reverse.length := by rw [List.length_reverse]; exact hlt
          rw [List.drop_eq_getElem_cons h1]
          congr 1
          rw [List.getElem_reverse]
          congr 1
          omega
        generalize (M.q k)[p]'(by omega) = x at hx hrev
        rw [hrev, List.find?_cons] at hf
        obtain ⟨x1, x2, xu⟩ := x
        refine o.ld2 ⟨hb, rQ ⟨hbp, row.arr.ldPart (kp := ki) (off := 0) (y := x1) rfl hx ⟨[], _, rfl, rfl⟩ rfl ⟨fun d => ?_, fun d => ?_⟩⟩⟩
        · have d' : x1 = t2 := of_decide_eq_true d
          refine o.ld2 ⟨hb, rQ ⟨hbp, row.arr.ldPart (kp := ki) (off := 1) (y := x2) rfl hx ⟨[_], _, rfl, rfl⟩ rfl ?_⟩⟩
          rw [decide_eq_true d'] at hf
          have : M.load k t2 = (M, (x2, 0)) := by
            unfold BM.load seenW
            rw [if_pos q, hf]; rfl
          rw [this] at hQ
          exact hQ _ g R0 (.refl _ _)
        · rw [show decide (x1 = t2) = false from d] at hf
          exact hgo hlt _ _ ⟨by show w64 ((p : Int) - 1) = _; rw [w64_of] <;> omega, rfl, hf⟩
      · have e : ¬ (0 : Int) ≤ i := of_decide_eq_false e
        rw [List.drop_of_length_le (by rw [List.length_reverse]; omega)] at hf
        have this : M.load k t2 = (M.log ((k : Int), (0, (t2, (M.at' t2, (0, (true, ())))))), (M.at' t2, 0)) := by
          unfold BM.load seenW
          rw [if_pos q, hf]; rfl
        rw [this] at hQ
        refine rdo_tail iA (k := k) (t := (t0, (0, (t2, (t3, (t4, tu)))))) R0 ok (by omega) (cs' := M.cs) (f := ef (M.at' t2) 0) ?_ rfl fun S' h' R' s' => hQ S' h' R' s'
        unfold cact
        exact (if_pos rfl).trans (if_pos q)
    have n0 : ¬ t1 = 0 := of_decide_eq_false e
    rw [if_neg n0] at hQ
    refine ⟨fun e => ?_, fun e => ?_⟩
    · -- store
      have e : t1 = 1 := of_decide_eq_true e
      subst e
      rw [if_neg (show ¬ (1 : Int) = 4 by decide)] at hz
      have q : M.In t2 := Decidable.not_not.1 fun q => by rw [if_neg q] at hz; cases hz
      rw [if_pos rfl] at hQ
      unfold BM.store at hQ
      rw [if_pos q] at hQ
      dsimp only at hQ
      have put : ∀ {M1 : BM} {S1 : Nat → Prop} {h1 : Heap}, RmR h0 bm M1 S1 h1 → Step S S1 h h1 → k < M1.n → (M1.q k).length ≤ 64 → (∀ S' h', RmR h0 bm (M1.setq k (M1.q k ++ [(t2, (t3, ()))])) S' h' → Step S S' h h' → Q (ef 0 0) h') → ref21_Memory_Do.j3 (some (ptr bm)) (k : Int) (t0, (1, (t2, (t3, (t4, tu))))) Q () h1 := by
        intro M1 S1 h1 R1 s1 hk1 hl1 hQ1
        obtain ⟨ba, c, l, qs, els, who, rfl, o⟩ := R1
        obtain ⟨qa, qn, qc, rfl⟩ := o.qsome (by omega)
        obtain ⟨sl, hsl, row, hb, hqn⟩ := o.rowQ (g := h1) (k := k) hk1
        have rln := row.len
        refine o.ld2 (o.ld2 ⟨hb, o.q.out.arr.ldAt rfl hsl rfl ?_⟩)
        refine row.app3 (x := (t2, (t3, ()))) rfl rfl (by omega) fun t5 h2 n2 x2 b2 => ?_
        have o2bm : ¬ blkOf sl bm := fun z => o.dm (.inr ⟨sl, List.mem_of_getElem? hsl, z⟩)
        have ob2 := o.obj.ext x2 o2bm
        refine ⟨ob2.sees (kf := .sl) (y := ⟨some qa, qn, qc⟩) ⟨[_, _], _, rfl, rfl⟩, hb, o.q.put (p := (k : Int)) (i := k) rfl hsl n2 x2 b2 rfl fun h3 q3 s3 => ?_⟩
        rw [range_setq] at q3
        obtain ⟨o3, t6⟩ := o.queue (M' := M1.setq k (M1.q k ++ [(t2, (t3, ()))])) q3 s3 rfl rfl rfl rfl rfl
        exact hQ1 _ h3 ⟨ba, c, l, _, _, _, rfl, o3⟩ (s1.trans t6)
      have R0 := R
      obtain ⟨ba, c, l, qs, els, who, rfl, o⟩ := R
      obtain ⟨qa, qn, qc, rfl⟩ := o.qsome (by omega)
      obtain ⟨sl, hsl, row, hb, hqn⟩ := o.rowQ (g := h) (k := k) hk
      have rln := row.len
      refine o.ld2 ⟨hb, o.q.out.arr.ldAt rfl hsl rfl (o.ld1 ⟨fun d => ?_, fun d => ?_⟩)⟩
      · have d : (sl.len : Int) = (M.room : Int) := of_decide_eq_true d
        rw [if_pos (by omega)] at hQ
        refine iF R0 ok (by omega) (fun z => absurd ⟨by omega, by omega⟩ z) fun j S1 h1 ej hj R1 s1 => ?_
        obtain rfl : k = j := by omega
        obtain ⟨b1, b2, b3, b4, b5, b6, b7⟩ := M.flush_same k
        exact put R1 s1 (by omega) (by rw [b7, List.length_drop]; omega) hQ
      · have d : ¬ (sl.len : Int) = (M.room : Int) := of_decide_eq_false d
        rw [if_neg (by omega)] at hQ
        exact put R0 (.refl _ _) hk (by omega) hQ
    have n1 : ¬ t1 = 1 := of_decide_eq_false e
    rw [if_neg n1] at hQ
    refine iD R ok (by omega) hk fun S1 h1 R1 s1 => ?_
    by_cases q2 : t1 = 2
    · subst q2
      rw [if_neg (show ¬ (2 : Int) = 4 by decide)] at hz
      have q : M.In t2 := Decidable.not_not.1 fun q => by rw [if_neg q] at hz; cases hz
      rw [if_pos rfl] at hQ
      have this : M.cas k t2 t3 t4 = (BM.log { M.drain k with cs := if (M.drain k).at' t2 = t3 then (M.drain k).cs.set t2.toNat t4 else (M.drain k).cs } ((k : Int), (2, (t2, (t3, (t4, (decide ((M.drain k).at' t2 = t3), ())))))), (decide ((M.drain k).at' t2 = t3), 0)) := by
        unfold BM.cas
        rw [if_pos q]
      rw [this] at hQ
      have q1 : (M.drain k).In t2 := by unfold BM.In at *; rw [d5]; exact q
      refine rdo_tail iA (k := k) (t := (t0, (2, (t2, (t3, (t4, tu)))))) R1 okd (by omega) (cs' := if (M.drain k).at' t2 = t3 then (M.drain k).cs.set t2.toNat t4 else (M.drain k).cs) (f := (0, (decide ((M.drain k).at' t2 = t3), (0, ())))) ?_ rfl fun S' h' R' s' => hQ S' h' R' (s1.trans s')
      unfold cact
      exact (if_neg (show ¬ (2 : Int) = 0 by decide)).trans ((if_neg (show ¬ (2 : Int) = 1 by decide)).trans ((if_pos rfl).trans (if_pos q1)))
    rw [if_neg q2] at hQ
    by_cases q3 : t1 = 3
    · subst q3
      rw [if_neg (show ¬ (3 : Int) = 4 by decide)] at hz
      have q : M.In t2 := Decidable.not_not.1 fun q => by rw [if_neg q] at hz; cases hz
      rw [if_pos rfl] at hQ
      have this : M.add k t2 t3 = (BM.log { M.drain k with cs := (M.drain k).cs.set t2.toNat (w64 ((M.drain k).at' t2 + t3)) } ((k : Int), (3, (t2, (t3, (w64 ((M.drain k).at' t2 + t3), (true, ())))))), (w64 ((M.drain k).at' t2 + t3), 0)) := by
        unfold BM.add
        rw [if_pos q]
      rw [this] at hQ
      have q1 : (M.drain k).In t2 := by unfold BM.In at *; rw [d5]; exact q
      refine rdo_tail iA (k := k) (t := (t0, (3, (t2, (t3, (t4, tu)))))) R1 okd (by omega) (cs' := (M.drain k).cs.set t2.toNat (w64 ((M.drain k).at' t2 + t3))) (f := ef (w64 ((M.drain k).at' t2 + t3)) 0) ?_ rfl fun S' h' R' s' => hQ S' h' R' (s1.trans s')
      unfold cact
      exact (if_neg (show ¬ (3 : Int) = 0 by decide)).trans ((if_neg (show ¬ (3 : Int) = 1 by decide)).trans ((if_neg (show ¬ (3 : Int) = 2 by decide)).trans ((if_pos rfl).trans (if_pos q1))))
    rw [if_neg q3] at hQ
    obtain rfl : t1 = 4 := by omega
    rw [if_pos rfl] at hz hQ
    have c1 : ¬ t3 < 1 := fun c => by rw [if_pos c] at hz; cases hz
    rw [if_neg c1] at hz
    have c2 : ¬ M.sz - (M.cs.length : Int) < t3 := fun c => by rw [if_pos c] at hz; cases hz
    have this : M.reserve k t3 = (BM.log { M.drain k with cs := (M.drain k).cs ++ List.replicate t3.toNat 0 } ((k : Int), (4, (((M.drain k).cs.length : Int), (t3, (0, (true, ())))))), (((M.drain k).cs.length : Int), 0)) := by
      unfold BM.reserve
      rw [if_neg c1, if_neg c2]
    rw [this] at hQ
    refine rdo_tail iA (k := k) (t := (t0, (4, (t2, (t3, (t4, tu)))))) R1 okd (by omega) (cs' := (M.drain k).cs ++ List.replicate t3.toNat 0) (f := ef ((M.drain k).cs.length : Int) 0) ?_ rfl fun S' h' R' s' => hQ S' h' R' (s1.trans s')
    unfold cact
    exact (if_neg (show ¬ (4 : Int) = 0 by decide)).trans ((if_neg (show ¬ (4 : Int) = 1 by decide)).trans ((if_neg (show ¬ (4 : Int) = 2 by decide)).trans ((if_neg (show ¬ (4 : Int) = 3 by decide)).trans ((if_pos rfl).trans ((if_neg c1).trans (if_neg (by rw [d3, d5]; exact c2)))))))
  refine ⟨fun e => k23 ?_, fun e => ?_⟩
  · have e : t1 < 0 := of_decide_eq_true e
    omega
  · have e : ¬ t1 < 0 := of_decide_eq_false e
    show ref21_Memory_Do.j5 cd cr cf ca _ _ _ Q (decide ((5 : Int) < t1), ()) h
    by_cases z : (5 : Int) < t1
    · rw [decide_eq_true z]; exact k23 (by omega)
    · rw [decide_eq_false z]; exact main (by omega)
end

end Go.Mx
