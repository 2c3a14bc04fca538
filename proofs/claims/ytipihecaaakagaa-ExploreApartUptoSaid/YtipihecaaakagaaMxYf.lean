/-
  Chapter 22, outright: the law ExploreApart.
-/
import Derived.Test.YtipihecaaakagaaMxYc
set_option linter.unusedVariables false
set_option linter.unusedSimpArgs false
set_option linter.unusedSectionVars false
namespace Go.Mx

/-- Where all depend on one another nothing may change places. -/
theorem alk_rigid {α : Type} (bd : α → α → Bool) : ∀ {m es : List α}, (∀ a ∈ es, ∀ b ∈ es, bd a b = true) → Alk bd es m → es = m
  | [], es, _, h => h
  | e :: m, es, hb, ⟨l1, l2, h1, h2, h3⟩ => by
    subst h1
    cases l1 with
    | nil => rw [List.nil_append] at h3 ⊢; rw [alk_rigid bd (fun a ha b hb' => hb a (List.mem_cons_of_mem _ ha) b (List.mem_cons_of_mem _ hb')) h3]
    | cons f l1 =>
      have := hb f (by simp) e (by simp)
      rw [h2 f (by simp)] at this; cases this
/-- Where only the same actor's depend all orders are alike. -/
theorem alk_free (bd : Ev → Ev → Bool) : ∀ {m es : List Ev}, (∀ a ∈ es, ∀ b ∈ es, bd a b = true → whoE a = whoE b) → (∀ w, es.filter (fun e => decide (whoE e = w)) = m.filter fun e => decide (whoE e = w)) → Alk bd es m
  | [], es, _, h => by
    cases es with
    | nil => exact rfl
    | cons e es =>
      have := h (whoE e)
      simp at this
  | e :: m, es, hb, h => by
    have he := h (whoE e)
    rw [List.filter_cons_of_pos (p := fun f => decide (whoE f = whoE e)) (l := m) (decide_eq_true rfl)] at he
    obtain ⟨l1, l2, h1, h2, h3, h4⟩ := List.filter_eq_cons_iff.1 he
    have h2 : ∀ f ∈ l1, whoE f ≠ whoE e := fun f hf q => h2 f hf (decide_eq_true q)
    refine ⟨l1, l2, h1, fun f hf => ?_, alk_free bd (fun a ha b hb' => hb a ?_ b ?_) fun w => ?_⟩
    · cases hbd : bd f e with
      | false => rfl
      | true => exact absurd (hb f (by rw [h1]; simp [hf]) e (by rw [h1]; simp) hbd) (h2 f hf)
    · rw [h1]; rcases List.mem_append.1 ha with q | q <;> simp [q]
    · rw [h1]; rcases List.mem_append.1 hb' with q | q <;> simp [q]
    · by_cases c : whoE e = w
      · subst c
        rw [List.filter_append, h4]
        have : l1.filter (fun f => decide (whoE f = whoE e)) = [] := List.filter_eq_nil_iff.2 fun f hf => by simp [h2 f hf]
        rw [this, List.nil_append]
      · have hw := h w
        rw [h1, List.filter_append, List.filter_cons_of_neg (by simp [c]), List.filter_cons_of_neg (by simp [c])] at hw
        rw [List.filter_append]; exact hw

theorem mult_pos4 : ∀ a < 8, ∀ b < 8 - a, ∀ c < 8 - a - b, ∀ d < 8 - a - b - c, 0 < mult [a, b, c, d] := by decide
theorem mult_pos {rs : List Nat} (h4 : rs.length ≤ 4) (h7 : rs.sum ≤ 7) : 0 < mult rs := by
  match rs, h4, h7 with
  | [], _, _ => decide
  | [a], _, h7 => simp at h7; exact (by decide : ∀ a < 8, 0 < mult [a]) a (by omega)
  | [a, b], _, h7 => simp at h7; exact (by decide : ∀ a < 8, ∀ b < 8 - a, 0 < mult [a, b]) a (by omega) b (by omega)
  | [a, b, c], _, h7 => simp at h7; exact (by decide : ∀ a < 8, ∀ b < 8 - a, ∀ c < 8 - a - b, 0 < mult [a, b, c]) a (by omega) b (by omega) c (by omega)
  | [a, b, c, d], _, h7 => simp at h7; exact mult_pos4 a (by omega) b (by omega) c (by omega) d (by omega)
  | _ :: _ :: _ :: _ :: _ :: _, h4, _ => simp at h4

/-- Each actor's acts are stores into one cell: the same for all, or each its own. -/
def StoreP (one : Bool) (xss : List (List Ac)) : Prop := ∀ (i : Nat) (xs : List Ac), xss[i]? = some xs → ∀ x ∈ xs, iK x = 1 ∧ iA x = if one = true then 0 else (i : Int)
section
variable {one : Bool} {xss : List (List Ac)}
theorem StoreP.at (h : StoreP one xss) {p : List Int} (hp : ScriptP (xss.map List.length) p) {e : Ev} (he : e ∈ evL p) : whoE e < xss.length ∧ e.1 = (whoE e : Int) ∧ iK (actE xss e) = 1 ∧ iA (actE xss e) = if one = true then 0 else (whoE e : Int) := by
  have hin := hp.1
  rw [List.length_map] at hin
  obtain ⟨e0, e1⟩ := (evL_mem (fun q hq => (hin q hq).1) e).1 he
  have hx : e.1.toNat < xss.length := by
    rcases Nat.lt_or_ge e.1.toNat xss.length with z | z
    · exact z
    · rw [cnt_none hin z] at e1; exact absurd e1 (Nat.not_lt_zero _)
  have hxx : xss[e.1.toNat]? = some xss[e.1.toNat] := by simp [hx]
  have hl := hp.2 e.1.toNat xss[e.1.toNat].length (by rw [List.getElem?_map, hxx]; rfl)
  have hlt : e.2 < xss[e.1.toNat].length := by omega
  have hy : xss[e.1.toNat][e.2]? = some (xss[e.1.toNat][e.2]) := List.getElem?_eq_getElem hlt
  have ha : actE xss e = xss[e.1.toNat][e.2] := by unfold actE xAt; rw [hxx]; show (xss[e.1.toNat][e.2]?).getD ac0 = _; rw [hy]; rfl
  rw [ha]
  exact ⟨hx, by unfold whoE; omega, h _ _ hxx _ (List.getElem_mem hlt)⟩
theorem one_bd (h : StoreP true xss) {p : List Int} (hp : ScriptP (xss.map List.length) p) : ∀ a ∈ evL p, ∀ b ∈ evL p, bdE 4 4 xss a b = true := fun a ha b hb => by
  obtain ⟨_, _, a1, a2⟩ := h.at hp ha
  obtain ⟨_, _, b1, b2⟩ := h.at hp hb
  rw [if_pos rfl] at a2 b2
  unfold bdE bdA
  refine decide_eq_true (.inr (.inr (.inr (.inr ?_))))
  show Touch 4 (iK (actE xss a)) (iA (actE xss a)) ∧ Touch 4 (iK (actE xss b)) (iA (actE xss b)) ∧ iA (actE xss a) = iA (actE xss b) ∧ (iK (actE xss a) ≠ 0 ∨ iK (actE xss b) ≠ 0)
  rw [a1, a2, b1, b2]
  unfold Touch
  decide
theorem own_bd (h : StoreP false xss) {p : List Int} (hp : ScriptP (xss.map List.length) p) : ∀ a ∈ evL p, ∀ b ∈ evL p, bdE 4 4 xss a b = true → whoE a = whoE b := fun a ha b hb q => by
  obtain ⟨_, a0, a1, a2⟩ := h.at hp ha
  obtain ⟨_, b0, b1, b2⟩ := h.at hp hb
  rw [if_neg (by decide)] at a2 b2
  unfold bdE bdA at q
  rcases of_decide_eq_true q with q | q
  · have q : a.1 = b.1 := q
    omega
  · have q : (Give (iK (actE xss a)) (iV (actE xss a)) ∧ Give (iK (actE xss b)) (iV (actE xss b))) ∨ (Give (iK (actE xss a)) (iV (actE xss a)) ∧ Touch 4 (iK (actE xss b)) (iA (actE xss b)) ∧ 4 ≤ iA (actE xss b)) ∨ (Give (iK (actE xss b)) (iV (actE xss b)) ∧ Touch 4 (iK (actE xss a)) (iA (actE xss a)) ∧ 4 ≤ iA (actE xss a)) ∨ (Touch 4 (iK (actE xss a)) (iA (actE xss a)) ∧ Touch 4 (iK (actE xss b)) (iA (actE xss b)) ∧ iA (actE xss a) = iA (actE xss b) ∧ (iK (actE xss a) ≠ 0 ∨ iK (actE xss b) ≠ 0)) := q
    rw [a1, b1] at q
    rcases q with ⟨⟨q, _⟩, _⟩ | ⟨⟨q, _⟩, _⟩ | ⟨⟨q, _⟩, _⟩ | ⟨_, _, q, _⟩
    · exact absurd q (by decide)
    · exact absurd q (by decide)
    · exact absurd q (by decide)
    · omega
theorem one_exp (h : StoreP true xss) : expS 4 4 xss = allS xss := by
  unfold expS
  rw [List.filter_eq_self]
  intro p hp
  have hS := allS_mem.1 hp
  obtain ⟨q, hq, ha⟩ := least_ex (sz := 4) (len := 4) hS
  have := alk_rigid _ (one_bd h hS) ha
  have hpq : p = q := by rw [← evL_fst p, this, evL_fst]
  rw [hpq]
  exact (List.mem_filter.1 hq).2
theorem one_kin (h : StoreP true xss) {p : List Int} (hS : ScriptP (xss.map List.length) p) : ((allS xss).filter (sameB 4 4 xss p)).length = 1 :=
  filter_one (allS_nodup xss) (allS_mem.2 hS) ((sameB_alk hS hS).2 (Alk.refl _ _)) fun q hq hb => by
    have := alk_rigid _ (one_bd h hS) ((sameB_alk hS (allS_mem.1 hq)).1 hb)
    rw [← evL_fst q, ← this, evL_fst]
theorem own_alk (h : StoreP false xss) {p q : List Int} (hS : ScriptP (xss.map List.length) p) (hSq : ScriptP (xss.map List.length) q) : Alk (bdE 4 4 xss) (evL p) (evL q) :=
  alk_free _ (own_bd h hS) (hS.same2 hSq).filt
theorem own_exp (h : StoreP false xss) (hne : 0 < (allS xss).length) : (expS 4 4 xss).length = 1 := by
  obtain ⟨p, hp⟩ := List.exists_mem_of_length_pos hne
  obtain ⟨q, hq, _⟩ := least_ex (sz := 4) (len := 4) (allS_mem.1 hp)
  refine filter_one (allS_nodup xss) (List.mem_filter.1 hq).1 (List.mem_filter.1 hq).2 fun y hy hl => ?_
  have hy2 : y ∈ expS 4 4 xss := List.mem_filter.2 ⟨hy, hl⟩
  exact least_unique hy2 hq (own_alk h (allS_mem.1 hy) (expS_script hq))
theorem own_kin (h : StoreP false xss) {p : List Int} (hS : ScriptP (xss.map List.length) p) : ((allS xss).filter (sameB 4 4 xss p)).length = (allS xss).length := by
  rw [List.filter_eq_self.2]
  intro q hq
  exact (sameB_alk hS (allS_mem.1 hq)).2 (own_alk h hS (allS_mem.1 hq))
theorem fin_one {sz : Int} {bs : List Int} {L : List (List Int)} (h : L.length = 1) : (finL sz bs xss L).length = 1 := by
  obtain ⟨q, rfl⟩ := List.length_eq_one_iff.1 h
  rfl
theorem StoreP.snoc (h : StoreP one xss) {xs : List Ac} (hx : ∀ x ∈ xs, iK x = 1 ∧ iA x = if one = true then 0 else ((xss.length : Nat) : Int)) : StoreP one (xss ++ [xs]) := fun i ys hy x hxm => by
  by_cases c : i < xss.length
  · rw [List.getElem?_append_left c] at hy; exact h i ys hy x hxm
  · rw [List.getElem?_append_right (by omega)] at hy
    have hi : i = xss.length := by
      have := (List.getElem?_eq_some_iff.1 hy).1
      rw [List.length_singleton] at this; omega
    subst hi
    rw [Nat.sub_self] at hy
    obtain rfl := Option.some.inj hy
    exact hx x hxm
theorem StoreP.good (h : StoreP one xss) : badsE xss = false := by
  unfold badsE
  refine List.any_eq_false.2 fun xs hxs => ?_
  obtain ⟨i, hi⟩ := List.mem_iff_getElem?.1 hxs
  rw [List.any_eq_true]
  rintro ⟨x, hx, hb⟩
  have h1 : x.2.1 = 1 := (h i xs hi x hx).1
  unfold badE at hb
  rw [h1] at hb
  exact absurd hb (by decide)
end

theorem exploreApart_spec {t : Sl} {one : Bool} {h0 : Heap} {ls : List Int} (ht : Arr h0 ki t ls) (hn : ls.length ≤ 1048576) {Q : Bool → Heap → Prop} (hQ : ∀ h', le h0 h' → Q true h')
    {cm : Int → Int → Heap → (Int → Heap → Prop) → Prop} {c2 c3 : Sc → Heap → ((Sl × (Int × Unit)) → Heap → Prop) → Prop} {c6 : Sc → Sl → Heap → (Den K2 → Heap → Prop) → Prop} {c7 : Heap → (Bool → Heap → Prop) → Prop} {c8 : Sc → Heap → (Int → Heap → Prop) → Prop}
    (im : ∀ {x n h Q}, law22_mod.M x n h Q → cm x n h Q)
    (iN : ∀ {s : Sc} {h : Heap} {bs : List Int} {xss : List (List Ac)} {Q : Int → Heap → Prop}, ScR h s bs xss → xss.length ≤ 4 → (xss.map List.length).sum ≤ 7 → Q (mult (xss.map List.length) : Int) h → c8 s h Q)
    (iE : ∀ {s : Sc} {h : Heap} {bs : List Int} {xss : List (List Ac)} {Q : (Sl × (Int × Unit)) → Heap → Prop}, ScR h s bs xss → Small bs xss → (∀ o h', FoR h h' o (expP s.1 bs.length xss (chkE s.1 bs.length xss)) → Q (o, (chkE s.1 bs.length xss, ())) h') → c3 s h Q)
    (iF : ∀ {s : Sc} {h : Heap} {bs : List Int} {xss : List (List Ac)} {Q : (Sl × (Int × Unit)) → Heap → Prop}, ScR h s bs xss → Small bs xss → (∀ o h', FoR h h' o (finP s.1 bs xss (chkE s.1 bs.length xss)) → Q (o, (chkE s.1 bs.length xss, ())) h') → c2 s h Q)
    (iT : ∀ {h : Heap} {Q : Bool → Heap → Prop}, (∀ h', le h h' → Q true h') → c7 h Q)
    (jK : ∀ {s : Sc} {t : Sl} {h : Heap} {bs ps : List Int} {xss : List (List Ac)} {Q : Den K2 → Heap → Prop}, ScR h s bs xss → Small bs xss → Arr h ki t ps → ps.length ≤ 1048576 → (∀ e h', Rdy s.1 bs.length xss ps e → le h h' → Q (kinP s.1 bs.length xss ps e, (e, ())) h') → c6 s t h Q) :
    law22_ExploreApart.M cm c8 c3 c2 c7 c6 t one h0 Q := by
  have htl := ht.1
  intro p4 hp4
  have l5 := le_upd hp4 (.cells (([0, 0, 0, 0] : List (Den ki)).flatMap (Kd.cells ki)) false)
  refine newApps3 ((New.nil h0 ki).more l5) (x := ⟨some (ptr p4), 4, 4⟩) (ys := [0, 0, 0, 0]) ⟨rfl, Nat.le_refl _, ?_⟩ rfl rfl (by show (0 + 4) * 8 ≤ _; decide) fun t6 h7 n7 _ _ => ?_
  · have e1 : upd h0 p4 (.cells (([0, 0, 0, 0] : List (Den ki)).flatMap (Kd.cells ki)) false) p4 = some (.cells (([0, 0, 0, 0] : List (Den ki)).flatMap (Kd.cells ki) ++ []) false) := by rw [List.append_nil]; exact upd_same _ _ _
    exact cellsAt_blk e1
  rw [List.nil_append] at n7
  have l7 := n7.le
  refine Loop.up ls.length (fun s => s.2.1) (fun i st k => ∃ o els yss, st.2.2.1 = (4, (t6, (o, ()))) ∧ st.1 = (((yss.map List.length).sum : Nat) : Int) ∧ yss.length = i ∧ i ≤ 4 ∧ (yss.map List.length).sum ≤ 7 ∧ StoreP one yss ∧ Nest h7 k kapiAct o els yss)
    rfl ⟨⟨none, 0, 0⟩, [], [], rfl, rfl, rfl, by omega, by decide, fun i xs h => (by cases h), Nest.nil h7 _⟩ ?_
  rintro i ⟨n0, i', c', u⟩ k go hi hcc ⟨o, els, yss, hc', hn0, hyl, hi4, hsum, hst, nn⟩ hgo
  dsimp only at hcc hc' hn0; subst hcc; subst hc'; subst hn0
  have lk := nn.le
  have stop : law22_ExploreApart.j3 c8 c3 c2 c7 c6 one Q ((4, (t6, (o, ()))), ()) k := by
    have r : ScR k (4, (t6, (o, ()))) [0, 0, 0, 0] yss := ⟨(n7.more lk).arr, els, nn.out.arr, nn.len, fun j sl xs a b => (nn.row j sl xs a b).arr⟩
    have f : FitP 4 [0, 0, 0, 0] yss := ⟨by decide, by decide, by decide, by omega, hsum, hst.good⟩
    have hs := f.small
    have hc : chkE 4 ([0, 0, 0, 0] : List Int).length yss = 0 := f.ok
    have hx4 : yss.length ≤ 4 := by omega
    refine iN r hx4 hsum (iE r hs fun ex h13 exR => ?_)
    have exR : FoR k h13 ex (expP 4 4 yss (chkE 4 ([0, 0, 0, 0] : List Int).length yss)) := exR
    rw [hc] at exR
    have hX : expP 4 4 yss 0 = expS 4 4 yss := by unfold expP; rw [if_pos rfl]
    rw [hX] at exR
    obtain ⟨elsX, n3⟩ := exR
    refine iF (r.le n3.le) hs fun fn h15 fnR => ?_
    have fnR : FoR h13 h15 fn (finP 4 [0, 0, 0, 0] yss (chkE 4 ([0, 0, 0, 0] : List Int).length yss)) := fnR
    rw [hc] at fnR
    have hF : finP 4 [0, 0, 0, 0] yss 0 = finL 4 [0, 0, 0, 0] yss (expS 4 4 yss) := by unfold finP; rw [if_pos rfl]; rfl
    rw [hF] at fnR
    obtain ⟨elsF, n4⟩ := fnR
    have a1 := n3.out.len
    have a2 := n3.len
    have b1 := n4.out.len
    have b2 := n4.len
    have hall := allS_mult hx4 hsum
    have hpos : 0 < (allS yss).length := by rw [hall]; exact mult_pos (by rw [List.length_map]; omega) hsum
    have hexp : 0 < (expS 4 4 yss).length := by
      obtain ⟨p, hp⟩ := List.exists_mem_of_length_pos hpos
      obtain ⟨q, hq, _⟩ := least_ex (sz := 4) (len := 4) (allS_mem.1 hp)
      exact List.length_pos_of_mem hq
    refine dcs (fun z => absurd hc z) (fun _ => dcs (fun z => absurd hc z) (fun _ => dcs (fun z => absurd (show (ex.len : Int) < 1 from z) (by omega)) (fun _ => iT fun h25 l25 => ⟨fun z => (by cases z), fun _ => ?_⟩)))
    have n3' := n3.more (n4.le.trans l25)
    have hx0 : (expS 4 4 yss)[0]? = some (expS 4 4 yss)[0] := List.getElem?_eq_getElem hexp
    have he0 : elsX[0]? = some (elsX[0]'(by omega)) := List.getElem?_eq_getElem (by omega)
    have hqS := expS_script (List.getElem_mem hexp)
    have hq10 := ten hs.2.1 hs.2.2 hc hqS
    refine ⟨⟨Int.le_refl _, show (0 : Int) < (ex.len : Int) by omega⟩, n3'.out.arr.at (i := 0) (Int.le_refl _) (show (0 : Int) < (ex.len : Int) by omega) rfl fun sl hsl => ?_⟩
    have hsl : elsX[0]? = some sl := hsl
    rw [he0] at hsl
    obtain rfl := Option.some.inj hsl
    have l1325 : le h13 h25 := n4.le.trans l25
    refine jK (r.le (n3.le.trans l1325)) hs (n3'.row 0 _ _ he0 hx0).arr (by omega) fun e h21 hr l21 => ?_
    obtain rfl : e = 0 := (hr.2 hc).1 hqS
    have hkin : kinP 4 ([0, 0, 0, 0] : List Int).length yss (expS 4 4 yss)[0] 0 = (((allS yss).filter (sameB 4 4 yss (expS 4 4 yss)[0])).length : Int) := by
      unfold kinP; rw [if_pos rfl, kin_eq hqS]; rfl
    have lf : le h0 h21 := ((l7.trans lk).trans (n3.le.trans l1325)).trans l21
    refine dcs (fun z => absurd rfl z) (fun _ => bcs (fun z => ?_) (fun z => ?_))
    · have z : one = true := z
      subst z
      have hk1 := one_kin hst hqS
      refine dcs (fun _ => ?_) (fun z => absurd (show (ex.len : Int) = (mult (yss.map List.length) : Int) by rw [← hall, ← one_exp hst]; omega) z)
      show Q (decide (kinP 4 ([0, 0, 0, 0] : List Int).length yss (expS 4 4 yss)[0] 0 = 1)) h21
      rw [hkin, hk1, decide_eq_true (show ((1 : Nat) : Int) = 1 from rfl)]
      exact hQ _ lf
    · have z : one = false := z
      subst z
      have hk1 := own_kin hst hqS
      have he1 := own_exp hst hpos
      have hf1 := fin_one (sz := 4) (bs := [0, 0, 0, 0]) (xss := yss) he1
      refine dcs (fun _ => dcs (fun _ => ?_) (fun z => absurd (show kinP 4 ([0, 0, 0, 0] : List Int).length yss (expS 4 4 yss)[0] 0 = (mult (yss.map List.length) : Int) by rw [hkin, hk1, hall]) z)) (fun z => absurd (show (ex.len : Int) = 1 by omega) z)
      show Q (decide ((fn.len : Int) = 1)) h21
      rw [decide_eq_true (show (fn.len : Int) = 1 by omega)]
      exact hQ _ lf
  refine dcs (fun e => ⟨fun e4 => ?_, fun _ => stop⟩) (fun e => ⟨fun q => (by cases q), fun _ => stop⟩)
  have e : (i : Int) < (t.len : Int) := e
  have e4 : (i : Int) < 4 := of_decide_eq_true e4
  have hil : i < ls.length := by omega
  refine ⟨⟨Int.natCast_nonneg i, e⟩, (ht.le (l7.trans lk)).at (Int.natCast_nonneg i) e rfl fun x0 _ => ?_⟩
  refine im (mod22_spec (by decide) (by decide) fun rr hr0 hr4 => ?_)
  refine Loop.up rr.toNat (fun s => s.2.2.1) (fun j st k3 => ∃ ys : List Ac, st.1 = (((yss.map List.length).sum + j : Nat) : Int) ∧ ys.length = j ∧ (yss.map List.length).sum + j ≤ 7 ∧ (∀ x ∈ ys, iK x = 1 ∧ iA x = if one = true then 0 else ((yss.length : Nat) : Int)) ∧ New k k3 kapiAct st.2.1 ys)
    rfl ⟨[], rfl, rfl, by omega, fun x hx => (by cases hx), New.nil k _⟩ ?_
  rintro j ⟨n1, l, j', u3⟩ k3 go3 hj hc3 ⟨ys, hn1, hyj, hj7, hgood, nl⟩ hgo3
  dsimp only at hc3 hn1 nl; subst hc3; subst hn1
  have hlj := nl.len
  have stop3 : law22_ExploreApart.j5 go ((((yss.map List.length).sum : Nat) : Int), ((i : Int), ((4, (t6, (o, ()))), u))) (((((yss.map List.length).sum + j : Nat) : Int)), (l, ())) k3 := by
    have hol := nn.out.len
    have hnl := nn.len
    refine (nn.more nl.le).snoc (nl.base lk) (fun x hx hy => nn.live hy (nl.new x hx)) (by omega) fun o' h5 n5 x5 b5 => ?_
    refine hgo hil _ _ (w64_up' (n := ls.length) hil (by omega)) ⟨o', els ++ [l], yss ++ [ys], rfl, ?_, by simp [hyl], by omega, ?_, hst.snoc hgood, n5⟩
    · show (((yss.map List.length).sum + j : Nat) : Int) = _
      rw [List.map_append, List.sum_append]; simp [hyj]
    · rw [List.map_append, List.sum_append]; simp [hyj]; exact hj7
  refine dcs (fun e5 => ⟨fun e7 => ?_, fun _ => stop3⟩) (fun e5 => ⟨fun q => (by cases q), fun _ => stop3⟩)
  have e5 : (j : Int) < rr := e5
  have e7 : (((yss.map List.length).sum + j : Nat) : Int) < 7 := of_decide_eq_true e7
  have hjx : j < rr.toNat := by omega
  have step : ∀ {a v : Int}, (a = if one = true then 0 else ((yss.length : Nat) : Int)) → law22_ExploreApart.j7 go3 ((((yss.map List.length).sum + j : Nat) : Int), (l, ((j : Int), u3))) ((0, (1, (a, (v, (0, ()))))), ()) k3 := fun {a v} ha => by
    refine nl.app rfl rfl (by show (l.len + 1) * 40 ≤ _; omega) fun l' h6 n6 => ?_
    refine hgo3 hjx _ _ (w64_up' (n := rr.toNat) hjx (by omega)) ⟨_, ?_, by rw [List.length_append, hyj]; rfl, by omega, fun y hy => ?_, n6⟩
    · show w64 ((((yss.map List.length).sum + j : Nat) : Int) + 1) = _
      rw [w64_of (by omega) (by omega)]; rfl
    · rcases List.mem_append.1 hy with hy | hy
      · exact hgood y hy
      · obtain rfl := List.mem_singleton.1 hy
        exact ⟨rfl, ha⟩
  refine bcs (fun z => ?_) (fun z => ?_)
  · have z : one = true := z
    exact step (by rw [if_pos z])
  · have z : one = false := z
    exact step (by rw [if_neg (by rw [z]; decide), hyl])
end Go.Mx
