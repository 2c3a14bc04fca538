/-
  Chapter 22, outright: the law ExploreOnce; alike scripts end alike, effect by effect.
-/
import Derived.Test.YtipihecaaakagaaMxYc
set_option linter.unusedVariables false
set_option linter.unusedSimpArgs false
set_option linter.unusedSectionVars false
namespace Go.Mx

theorem sum_take_le (l : List Nat) (i : Nat) : (l.take i).sum ≤ l.sum := by
  conv => rhs; rw [← List.take_append_drop i l, List.sum_append]
  omega
theorem exploreOnce_spec {s : Sc} {t : Sl} {h0 : Heap} {bs ps : List Int} {xss : List (List Ac)} (r : ScR h0 s bs xss) (hs : Small bs xss) (hp : Arr h0 ki t ps) (hpn : ps.length ≤ 1048576) {Q : Bool → Heap → Prop} (hQ : ∀ h', le h0 h' → Q true h')
    {c1 : Sc → Heap → (Sc → Heap → Prop) → Prop} {c3 : Sc → Heap → ((Sl × (Int × Unit)) → Heap → Prop) → Prop} {c4 : Sc → Sl → Heap → (Sl → Heap → Prop) → Prop} {c5 : Sc → Sl → Sl → Heap → ((Bool × (Int × Unit)) → Heap → Prop) → Prop}
    {c6 : Sc → Sl → Heap → (Den K2 → Heap → Prop) → Prop} {c7 : Heap → (Bool → Heap → Prop) → Prop} {c8 : Sc → Heap → (Int → Heap → Prop) → Prop}
    (i1 : ∀ {Q : Sc → Heap → Prop}, (∀ c bs' xss' h', le h0 h' → ScR h' c bs' xss' → FitP c.1 bs' xss' → Q c h') → c1 s h0 Q)
    (iS : ∀ {s : Sc} {h : Heap} {bs : List Int} {xss : List (List Ac)} {Q : Sl → Heap → Prop}, ScR h s bs xss → FitP s.1 bs xss → Arr h ki t ps → (∀ l qs h', New h h' ki l qs → ScriptP (xss.map List.length) qs → Q l h') → c4 s t h Q)
    (iE : ∀ {s : Sc} {h : Heap} {bs : List Int} {xss : List (List Ac)} {Q : (Sl × (Int × Unit)) → Heap → Prop}, ScR h s bs xss → Small bs xss → (∀ o h', FoR h h' o (expP s.1 bs.length xss (chkE s.1 bs.length xss)) → Q (o, (chkE s.1 bs.length xss, ())) h') → c3 s h Q)
    (iT : ∀ {h : Heap} {Q : Bool → Heap → Prop}, (∀ h', le h h' → Q true h') → c7 h Q)
    (iA : ∀ {s : Sc} {t u : Sl} {h : Heap} {bs ps qs : List Int} {xss : List (List Ac)} {Q : (Bool × (Int × Unit)) → Heap → Prop}, ScR h s bs xss → Small bs xss → (Arr h ki t ps ∧ ps.length ≤ 1048576) → (Arr h ki u qs ∧ qs.length ≤ 1048576) → (∀ b e h', AlR s.1 bs.length xss ps qs b e → le h h' → Q (b, (e, ())) h') → c5 s t u h Q)
    (iK : ∀ {s : Sc} {t : Sl} {h : Heap} {bs ps : List Int} {xss : List (List Ac)} {Q : Den K2 → Heap → Prop}, ScR h s bs xss → Small bs xss → Arr h ki t ps → ps.length ≤ 1048576 → (∀ e h', Rdy s.1 bs.length xss ps e → le h h' → Q (kinP s.1 bs.length xss ps e, (e, ())) h') → c6 s t h Q)
    (iN : ∀ {s : Sc} {h : Heap} {bs : List Int} {xss : List (List Ac)} {Q : Int → Heap → Prop}, ScR h s bs xss → xss.length ≤ 4 → (xss.map List.length).sum ≤ 7 → Q (mult (xss.map List.length) : Int) h → c8 s h Q) :
    law22_ExploreOnce.M c1 c4 c3 c7 c5 c6 c8 s t h0 Q := by
  refine i1 fun c bs xss h1 l1 r1 f => ?_
  have hs := f.small
  have hc := f.ok
  have f0 := f
  obtain ⟨_, _, hz2, hx4, hsum, hbad⟩ := f
  refine iS r1 f0 (hp.le l1) fun sl p h2 n2 hS => ?_
  have hq10 := ten hs.2.1 hs.2.2 hc hS
  have l2 := n2.le
  refine iE (r1.le l2) hs fun ex h3 exR => ?_
  rw [hc] at exR ⊢
  obtain ⟨elsX, n3⟩ := exR
  have l3 := n3.le
  have sx := expS_small (sz := c.1) (nb := bs.length) (len := bs.length) hs.2.1 hs.2.2 hc.symm
  have hX : expP c.1 bs.length xss 0 = expS c.1 bs.length xss := by unfold expP; rw [if_pos rfl]
  have n3 : Nest h2 h3 ki ex elsX (expS c.1 bs.length xss) := by rw [← hX]; exact n3
  rw [hX] at sx
  refine dcs (fun q => absurd rfl q) (fun _ => iT fun h4 l4 => ⟨fun q => (by cases q), fun _ => ?_⟩)
  have n34 := n3.more l4
  have exl := n34.out.len
  have hxl := n34.len
  let kinN : List Int → Nat := fun q => ((allS xss).filter (sameB c.1 bs.length xss q)).length
  have hall : (allS xss).length ≤ 1048576 := allS_len hx4 (by omega)
  have hks : ((expS c.1 bs.length xss).map kinN).sum = (allS xss).length := kin_sum
  refine Loop.up (expS c.1 bs.length xss).length (fun s => s.2.2.1) (fun i st k => le h4 k ∧ st.1 = ((((expS c.1 bs.length xss).take i).filter fun q => sameB c.1 bs.length xss q p).length : Int) ∧ st.2.1 = ((((expS c.1 bs.length xss).take i).map kinN).sum : Int)) rfl
    ⟨.refl _, rfl, rfl⟩ ?_
  rintro i ⟨fd, sm, i', u⟩ k go hi hcc ⟨lk, hfd, hsm⟩ hgo
  dsimp only at hcc hfd hsm; subst hcc; subst hfd; subst hsm
  have le4 : le h1 h4 := (l2.trans l3).trans l4
  refine dcs (fun e => ?_) (fun e => ?_)
  · have e : (i : Int) < (ex.len : Int) := e
    have hie : i < (expS c.1 bs.length xss).length := by omega
    have hix : i < elsX.length := by omega
    have rdx : ∀ {k' : Heap} {K : Sl → Prop}, le h4 k' → K elsX[i] → (0 ≤ (i : Int) ∧ (i : Int) < (ex.len : Int)) ∧ deref ex.a fun a => ld (.sl : Kd) k' (a.add ((i : Int).toNat * 1)) K := fun {k' K} l hK => by
      refine ⟨⟨Int.natCast_nonneg i, e⟩, (n34.more l).out.arr.at (Int.natCast_nonneg i) e rfl fun sl' hsl => ?_⟩
      rw [Int.toNat_natCast, List.getElem?_eq_getElem hix] at hsl
      obtain rfl := Option.some.inj hsl
      exact hK
    have hqS := expS_script (List.getElem_mem hie)
    have hq10' := ten hs.2.1 hs.2.2 hc hqS
    have hrow := fun {k' : Heap} (l : le h4 k') => ((n34.more l).row i _ _ (List.getElem?_eq_getElem hix) (List.getElem?_eq_getElem hie)).arr
    refine rdx lk (iA (r1.le (le4.trans lk)) hs ⟨hrow lk, by omega⟩ ⟨n2.arr.le ((l3.trans l4).trans lk), by omega⟩ fun b ea h20 al l20 => rdx (lk.trans l20) (iK (r1.le ((le4.trans lk).trans l20)) hs (hrow (lk.trans l20)) (by omega) fun ek h24 hr l24 => ?_))
    obtain ⟨e0, hr0, al⟩ := al
    obtain rfl : e0 = 0 := (hr0.2 hc).1 hqS
    obtain rfl : ek = 0 := (hr.2 hc).1 hqS
    rcases al with ⟨q, _⟩ | ⟨_, q, _⟩ | ⟨_, _, rfl, hb⟩
    · exact absurd rfl q
    · exact absurd hS q
    have hkin : kinP c.1 bs.length xss (expS c.1 bs.length xss)[i] 0 = (kinN (expS c.1 bs.length xss)[i] : Int) := by
      unfold kinP; rw [if_pos rfl, kin_eq hqS]
    have hkp : 1 ≤ kinN (expS c.1 bs.length xss)[i] := kin_pos hqS
    have tk : ((expS c.1 bs.length xss).take (i + 1)).map kinN = ((expS c.1 bs.length xss).take i).map kinN ++ [kinN (expS c.1 bs.length xss)[i]] := by rw [take_succ' _ hie, List.map_append]; rfl
    have hs1 : (((expS c.1 bs.length xss).take (i + 1)).map kinN).sum = (((expS c.1 bs.length xss).take i).map kinN).sum + kinN (expS c.1 bs.length xss)[i] := by rw [tk, List.sum_append]; simp
    have hs2 : (((expS c.1 bs.length xss).take (i + 1)).map kinN).sum ≤ (allS xss).length := by rw [← hks, List.map_take]; exact sum_take_le _ _
    have hfl : (((expS c.1 bs.length xss).take i).filter fun q => sameB c.1 bs.length xss q p).length ≤ i := by
      have := List.length_filter_le (fun q => sameB c.1 bs.length xss q p) ((expS c.1 bs.length xss).take i)
      rw [List.length_take] at this; omega
    have hsame : b = sameB c.1 bs.length xss (expS c.1 bs.length xss)[i] p := by
      have h2 := sameB_alk (sz := c.1) (len := bs.length) hqS hS
      cases b with
      | true => exact ((h2.2 (hb.1 rfl))).symm
      | false =>
        cases hx : sameB c.1 bs.length xss (expS c.1 bs.length xss)[i] p with
        | true => exact (hb.2 (h2.1 hx))
        | false => rfl
    have w1 := w64_up' (n := (expS c.1 bs.length xss).length) hie (by omega)
    have w2 : w64 ((((((expS c.1 bs.length xss).take i).map kinN).sum : Nat) : Int) + kinP c.1 bs.length xss (expS c.1 bs.length xss)[i] 0) = ((((expS c.1 bs.length xss).take (i + 1)).map kinN).sum : Int) := by
      rw [hkin, hs1, w64_of (by omega) (by omega)]; rfl
    have lf : le h4 h24 := (lk.trans l20).trans l24
    refine dcs (fun q => absurd rfl q) (fun _ => dcs (fun q => absurd rfl q) (fun _ => ⟨fun q => ?_, fun _ => ?_⟩))
    · have q := of_decide_eq_true q
      have q : kinP c.1 bs.length xss (expS c.1 bs.length xss)[i] 0 < 1 := q
      rw [hkin] at q; omega
    · refine bcs (fun z => ?_) (fun z => ?_)
      · have z : b = true := z
        refine hgo hie _ _ w1 ⟨lf, ?_, w2⟩
        show w64 (((((expS c.1 bs.length xss).take i).filter fun q => sameB c.1 bs.length xss q p).length : Int) + 1) = _
        rw [w64_of (by omega) (by omega), filter_step' _ _ hie, if_pos (by rw [← hsame]; exact z)]; rfl
      · have z : b = false := z
        refine hgo hie _ _ w1 ⟨lf, ?_, w2⟩
        rw [filter_step' _ _ hie, if_neg (by rw [← hsame, z]; exact fun q => (by cases q))]; rfl
  · have e : ¬ (i : Int) < (ex.len : Int) := e
    obtain rfl : i = (expS c.1 bs.length xss).length := by omega
    have hfo : ((expS c.1 bs.length xss).filter fun q => sameB c.1 bs.length xss q p).length = 1 := found_one hS
    rw [List.take_length]
    refine dcs (fun _ => ?_) (fun q => absurd (show (((expS c.1 bs.length xss).filter fun q => sameB c.1 bs.length xss q p).length : Int) = 1 by rw [hfo]; rfl) q)
    refine iN (r1.le (le4.trans lk)) hx4 hsum ?_
    have : ((((expS c.1 bs.length xss).map kinN).sum : Nat) : Int) = (mult (xss.map List.length) : Int) := by rw [hks, allS_mult hx4 hsum]
    show Q (decide (((((expS c.1 bs.length xss).map kinN).sum : Nat) : Int) = (mult (xss.map List.length) : Int))) k
    rw [decide_eq_true this]
    exact hQ _ ((l1.trans le4).trans lk)

/-! ### alike scripts end alike, effect by effect -/
theorem Alk.cons {α : Type} (bd : α → α → Bool) {a : α} {es m : List α} (h : Alk bd es m) : Alk bd (a :: es) (a :: m) := ⟨[], es, rfl, fun f hf => (by cases hf), h⟩
theorem Alk.swap {α : Type} (bd : α → α → Bool) : ∀ (u : List α) {x y : α} {v : List α}, bd x y = false → Alk bd (u ++ x :: y :: v) (u ++ y :: x :: v)
  | [], x, y, v, h => ⟨[x], v, rfl, fun f hf => by rw [List.mem_singleton.1 hf]; exact h, ⟨[], v, rfl, fun f hf => (by cases hf), Alk.refl bd v⟩⟩
  | a :: u, x, y, v, h => Alk.cons bd (Alk.swap bd u h)
/-- Behind as many of each comes the same. -/
theorem evL_tail {A B : List Int} (h : ∀ w, cnt A w = cnt B w) : ∀ b : List Int, ∃ r, evL (A ++ b) = evL A ++ r ∧ evL (B ++ b) = evL B ++ r := fun b => by
  induction b using rev_ind with
  | nil => exact ⟨[], by simp, by simp⟩
  | append_singleton b z ih =>
    obtain ⟨r, h1, h2⟩ := ih
    refine ⟨r ++ [(z, cnt (A ++ b) z.toNat)], ?_, ?_⟩
    · rw [← List.append_assoc, evL_snoc, h1, List.append_assoc]
    · rw [← List.append_assoc, evL_snoc, h2, List.append_assoc, cnt_app, cnt_app, h]
theorem evL_swap {a b : List Int} {x y : Int} (hx : 0 ≤ x) (hy : 0 ≤ y) (hne : x ≠ y) : ∃ r, evL (a ++ x :: y :: b) = evL a ++ (x, cnt a x.toNat) :: (y, cnt a y.toNat) :: r ∧ evL (a ++ y :: x :: b) = evL a ++ (y, cnt a y.toNat) :: (x, cnt a x.toNat) :: r := by
  have two : ∀ {x y : Int}, 0 ≤ x → 0 ≤ y → x ≠ y → evL ((a ++ [x]) ++ [y]) = evL a ++ [(x, cnt a x.toNat), (y, cnt a y.toNat)] := fun {x y} hx hy hne => by
    have hz : cnt [x] y.toNat = 0 := by rw [cnt_one, if_neg (by omega)]
    rw [evL_snoc, evL_snoc, cnt_app, hz, Nat.add_zero, List.append_assoc]; rfl
  have hc : ∀ w, cnt ((a ++ [x]) ++ [y]) w = cnt ((a ++ [y]) ++ [x]) w := fun w => by rw [cnt_app, cnt_app, cnt_app, cnt_app]; omega
  obtain ⟨r, h1, h2⟩ := evL_tail hc b
  refine ⟨r, ?_, ?_⟩
  · rw [show a ++ x :: y :: b = ((a ++ [x]) ++ [y]) ++ b from by simp, h1, two hx hy hne, List.append_assoc]; rfl
  · rw [show a ++ y :: x :: b = ((a ++ [y]) ++ [x]) ++ b from by simp, h2, two hy hx (fun q => hne q.symm), List.append_assoc]; rfl
theorem script_perm {lens : List Nat} {p q : List Int} (h : p.Perm q) (hp : ScriptP lens p) : ScriptP lens q := ⟨fun x hx => hp.1 x (h.symm.subset hx), fun i l hl => by rw [← cnt_perm h]; exact hp.2 i l hl⟩

section
variable {sz : Int} {nb : Nat} {xss : List (List Ac)}
def endQ (sz : Int) (nb : Nat) (xss : List (List Ac)) (s : CellsOk sz nb × List (List Ef)) (e : Ev) : CellsOk sz nb × List (List Ef) :=
  if badE (actE xss e) = false ∧ 0 ≤ e.1 then (cellQ sz nb xss s.1 e, s.2.set e.1.toNat (((s.2[e.1.toNat]?).getD []) ++ [(actP sz s.1.1 (actE xss e)).1])) else s
theorem endQ_ok {s : CellsOk sz nb × List (List Ef)} {e : Ev} (h : badE (actE xss e) = false ∧ 0 ≤ e.1) : endQ sz nb xss s e = (cellQ sz nb xss s.1 e, s.2.set e.1.toNat (((s.2[e.1.toNat]?).getD []) ++ [(actP sz s.1.1 (actE xss e)).1])) := by unfold endQ; rw [if_pos h]
theorem endQ_no {s : CellsOk sz nb × List (List Ef)} {e : Ev} (h : ¬ (badE (actE xss e) = false ∧ 0 ≤ e.1)) : endQ sz nb xss s e = s := by unfold endQ; rw [if_neg h]
theorem bdE_ne {sz len : Int} {a b : Ev} (h : bdE sz len xss a b = false) : a.1 ≠ b.1 := fun q => by
  unfold bdE bdA at h
  exact of_decide_eq_false h (.inl q)
theorem endQ_comm (s : CellsOk sz nb × List (List Ef)) (a b : Ev) (h : bdE sz nb xss a b = false) : endQ sz nb xss (endQ sz nb xss s a) b = endQ sz nb xss (endQ sz nb xss s b) a := by
  by_cases ha : badE (actE xss a) = false ∧ 0 ≤ a.1
  · by_cases hb : badE (actE xss b) = false ∧ 0 ≤ b.1
    · have hne := bdE_ne h
      have hn : a.1.toNat ≠ b.1.toNat := by omega
      have h' : bdE sz nb xss b a = false := by rw [bdE_sym]; exact h
      have nd : ∀ {a b : Ev}, bdE sz nb xss a b = false → ¬ DepI sz nb (actE xss a).2.1 (actE xss a).2.2.1 (actE xss a).2.2.2.1 (actE xss b).2.1 (actE xss b).2.2.1 (actE xss b).2.2.2.1 := fun {a b} h q => by
        unfold bdE bdA at h
        exact of_decide_eq_false h (.inr q)
      have e1 := (act_comm (len := (nb : Int)) (Int.ofNat_le.2 s.1.2.1) s.1.2.2 ha.1 hb.1 (nd h)).1
      have e2 := (act_comm (len := (nb : Int)) (Int.ofNat_le.2 s.1.2.1) s.1.2.2 hb.1 ha.1 (nd h')).1
      rw [endQ_ok ha, endQ_ok hb, endQ_ok hb, endQ_ok ha]
      dsimp only
      rw [cellQ_ok ha.1, cellQ_ok hb.1, e1, e2]
      refine Prod.ext (cellQ_comm s.1 a b h) ?_
      dsimp only
      rw [List.getElem?_set_ne hn, List.getElem?_set_ne (fun q => hn q.symm), List.set_comm _ _ hn]
    · rw [endQ_no hb, endQ_no (s := s) hb]
  · rw [endQ_no ha, endQ_no (s := endQ sz nb xss s b) ha]
theorem play_full {bs : List Int} (h1 : nb ≤ bs.length) (h2 : (bs.length : Int) ≤ sz) : ∀ {ps : List Int}, InR xss.length ps → (∀ e ∈ evL ps, badE (actE xss e) = false) → playP sz bs xss ps = ((((evL ps).foldl (endQ sz nb xss) (⟨bs, h1, h2⟩, List.replicate xss.length [])).1.1), ((evL ps).foldl (endQ sz nb xss) (⟨bs, h1, h2⟩, List.replicate xss.length [])).2) := fun {ps} => by
  induction ps using rev_ind with
  | nil => intro _ _; rfl
  | append_singleton ps p ih =>
    intro hin hok
    have hin1 : InR xss.length ps := fun q hq => hin q (List.mem_append_left _ hq)
    have hp := hin p (by simp)
    rw [evL_snoc] at hok ⊢
    have ih := ih hin1 fun e he => hok e (List.mem_append_left _ he)
    have hb := hok (p, cnt ps p.toNat) (by simp)
    rw [List.foldl_append]
    simp only [List.foldl_cons, List.foldl_nil]
    rw [endQ_ok ⟨hb, hp.1⟩, cellQ_ok hb]
    have hpl : playP sz bs xss (ps ++ [p]) = stepP sz xss (playP sz bs xss ps) p := by unfold playP; rw [List.foldl_append]; rfl
    have hc := playP_cnt (sz := sz) (bs := bs) hin1 (i := p.toNat) (by omega)
    rw [hpl]
    unfold stepP actE
    dsimp only
    rw [hc, ih]
theorem play_alk {bs p q : List Int} (h2 : (bs.length : Int) ≤ sz) (hbad : badsE xss = false) (hp : ScriptP (xss.map List.length) p) (hq : ScriptP (xss.map List.length) q) (h : Alk (bdE sz bs.length xss) (evL p) (evL q)) : playP sz bs xss p = playP sz bs xss q := by
  have ok : ∀ {p : List Int}, ScriptP (xss.map List.length) p → InR xss.length p ∧ ∀ e ∈ evL p, badE (actE xss e) = false := fun {p} hp => by
    have hin := hp.1
    rw [List.length_map] at hin
    refine ⟨hin, fun e he => ?_⟩
    obtain ⟨e0, e1⟩ := (evL_mem (fun q hq => (hin q hq).1) e).1 he
    have hx : e.1.toNat < xss.length := by
      rcases Nat.lt_or_ge e.1.toNat xss.length with z | z
      · exact z
      · rw [cnt_none hin z] at e1; exact absurd e1 (Nat.not_lt_zero _)
    have hxx : xss[e.1.toNat]? = some xss[e.1.toNat] := by simp [hx]
    have hl := hp.2 e.1.toNat xss[e.1.toNat].length (by rw [List.getElem?_map, hxx]; rfl)
    have hlt : e.2 < xss[e.1.toNat].length := by omega
    have hy : xss[e.1.toNat][e.2]? = some (xss[e.1.toNat][e.2]) := List.getElem?_eq_getElem hlt
    have := bads_no hbad hxx hy
    unfold actE xAt
    rw [hxx]
    show badE ((xss[e.1.toNat][e.2]?).getD ac0) = false
    rw [hy]; exact this
  obtain ⟨a1, a2⟩ := ok hp
  obtain ⟨b1, b2⟩ := ok hq
  rw [play_full (nb := bs.length) (Nat.le_refl _) h2 a1 a2, play_full (nb := bs.length) (Nat.le_refl _) h2 b1 b2, Alk.fold (bdE sz bs.length xss) endQ_comm h]
end
end Go.Mx
