/-
  Chapter 22, outright: what the law's own functions make: a scene that fits, a script.
  Chapter 22, outright, the plain laws: how many scripts there are; each is alike to just one of the least.
-/
import Derived.Test.YtipihecaaakagaaMxKz
set_option linter.unusedVariables false
set_option linter.unusedSimpArgs false
set_option linter.unusedSectionVars false
namespace Go.Mx

theorem mod22_spec {x n : Int} (hn : 0 < n) (hb : n ≤ 1000000) {h : Heap} {Q : Int → Heap → Prop} (hQ : ∀ r, 0 ≤ r → r < n → Q r h) : law22_mod.M x n h Q := by
  have h1 : Int.tmod x n < n := Int.tmod_lt_of_pos x hn
  have h2 : -n < Int.tmod x n := Int.lt_tmod_of_pos x hn
  refine ⟨by omega, dcs (fun z => ?_) (fun z => ?_)⟩
  · have z : Int.tmod x n < 0 := z
    show Q (w64 (Int.tmod x n + n)) h
    rw [w64_of (by omega) (by omega)]
    exact hQ _ (by omega) (by omega)
  · have z : ¬ Int.tmod x n < 0 := z
    exact hQ _ (by omega) (by omega)

/-- A scene that the laws take: at most 8 cells, four actors, 7 acts. -/
def FitP (sz : Int) (bs : List Int) (xss : List (List Ac)) : Prop := 0 ≤ sz ∧ sz ≤ 8 ∧ (bs.length : Int) ≤ sz ∧ xss.length ≤ 4 ∧ (xss.map List.length).sum ≤ 7 ∧ badsE xss = false
theorem len_le_sum {α : Type} {xss : List (List α)} {xs : List α} (h : xs ∈ xss) : xs.length ≤ (xss.map List.length).sum := by
  induction xss with
  | nil => cases h
  | cons y l ih =>
    rw [List.map_cons, List.sum_cons]
    rcases List.mem_cons.1 h with rfl | h
    · omega
    · have := ih h; omega
theorem FitP.small {sz : Int} {bs : List Int} {xss : List (List Ac)} (f : FitP sz bs xss) : Small bs xss := by
  obtain ⟨h1, h2, h3, h4, h5, h6⟩ := f
  exact ⟨by omega, by omega, fun xs hx => by have := len_le_sum hx; omega⟩
theorem FitP.ok {sz : Int} {bs : List Int} {xss : List (List Ac)} (f : FitP sz bs xss) : chkE sz bs.length xss = 0 := by
  have hs := f.small
  obtain ⟨h1, h2, h3, h4, h5, h6⟩ := f
  unfold chkE
  rw [if_neg (by omega), if_neg (by rw [actsE_sum hs.2.1 hs.2.2]; omega), if_neg (by rw [h6]; exact fun q => (by cases q))]

theorem bads_snoc {xss : List (List Ac)} {xs : List Ac} (h : badsE xss = false) (h2 : ∀ x ∈ xs, badE x = false) : badsE (xss ++ [xs]) = false := by
  unfold badsE at *
  rw [List.any_append, h, Bool.false_or, List.any_cons, List.any_nil, Bool.or_false]
  cases e : xs.any badE with
  | false => rfl
  | true =>
    obtain ⟨x, hx, hb⟩ := List.any_eq_true.1 e
    rw [h2 x hx] at hb; cases hb

theorem fit22_spec {s : Sc} {h : Heap} {bs : List Int} {xss : List (List Ac)} (r : ScR h s bs xss) (hs : Small bs xss) {cm : Int → Int → Heap → (Int → Heap → Prop) → Prop} (im : ∀ {x n h Q}, law22_mod.M x n h Q → cm x n h Q) {Q : Sc → Heap → Prop}
    (hQ : ∀ c bs' xss' h', le h h' → ScR h' c bs' xss' → FitP c.1 bs' xss' → Q c h') : law22_fit.M cm s h Q := by
  obtain ⟨size, bg, lsl, u0⟩ := s
  change Int at size
  obtain ⟨r1, sls, r2, r3, r4⟩ := r
  dsimp only at r1 r2
  have hbl : bg.len = bs.length := r1.1.symm
  have hll : lsl.len = xss.length := by rw [← r3, r2.1]
  have hs1 := hs.1
  have hs2 := hs.2.1
  refine im (mod22_spec (by decide) (by decide) fun z hz0 hz9 => ?_)
  refine Loop.up bs.length (fun s => s.1) (fun i st k => ∃ t, st.2.1 = (z, (t, (Sl.none, ()))) ∧ (i : Int) ≤ z ∧ New h k ki t (bs.take i)) rfl ⟨⟨none, 0, 0⟩, rfl, hz0, New.nil h ki⟩ ?_
  rintro i ⟨i', c', u⟩ k go hi hc ⟨t, hc', hiz, nt⟩ hgo
  dsimp only at hc hc'; subst hc; subst hc'
  have htl := nt.len
  rw [List.length_take] at htl
  -- behind the cells
  have next : ∀ {bs' : List Int}, (bs'.length : Int) ≤ z → New h k ki t bs' → law22_fit.j10 cm (size, (bg, (lsl, u0))) Q ((z, (t, (Sl.none, ()))), ()) k := fun {bs'} hb' nt' => by
    refine Loop.up xss.length (fun s => s.2.1) (fun i st k2 => ∃ o els yss, st.2.2.1 = (z, (t, (o, ()))) ∧ st.1 = (((yss.map List.length).sum : Nat) : Int) ∧ yss.length = i ∧ i ≤ 4 ∧ (yss.map List.length).sum ≤ 7 ∧ badsE yss = false ∧ Go.Mx.le k k2 ∧ Nest k k2 kapiAct o els yss)
      rfl ⟨⟨none, 0, 0⟩, [], [], rfl, rfl, rfl, by omega, by decide, rfl, .refl _, Nest.nil k _⟩ ?_
    rintro i ⟨n0, i', c', u⟩ k2 go2 hi2 hc2 ⟨o, els, yss, hc', hn0, hyl, hi4, hsum, hbad, lk, nn⟩ hgo2
    dsimp only at hc2 hc' hn0; subst hc2; subst hc'; subst hn0
    have stop : law22_fit.j1 Q ((z, (t, (o, ()))), ()) k2 := by
      refine hQ (z, (t, (o, ()))) bs' yss k2 (nt'.le.trans lk) ⟨(nt'.more lk).arr, els, nn.out.arr, nn.len, fun j sl xs a b => (nn.row j sl xs a b).arr⟩ ⟨hz0, ?_, hb', ?_, hsum, hbad⟩
      · show z ≤ 8; omega
      · omega
    refine dcs (fun e => ⟨fun e4 => ?_, fun _ => stop⟩) (fun e => ⟨fun q => (by cases q), fun _ => stop⟩)
    have e : (i : Int) < (lsl.len : Int) := e
    have e4 : (i : Int) < 4 := of_decide_eq_true e4
    have hix : i < xss.length := by omega
    have hsi : sls[i]? = some (sls[i]'(by omega)) := by simp
    have hxi : xss[i]? = some xss[i] := by simp
    have hrow := r4 i _ _ hsi hxi
    have hxl := hrow.1
    have hxs := hs.2.2 _ (List.getElem_mem hix)
    have lkk := nt'.le.trans lk
    have rdl : ∀ {k' : Heap} {K : Sl → Prop}, Go.Mx.le h k' → K (sls[i]'(by omega)) → (0 ≤ (i : Int) ∧ (i : Int) < (lsl.len : Int)) ∧ deref lsl.a fun a => ld (.sl : Kd) k' (a.add ((i : Int).toNat * 1)) K := fun {k' K} l hK => by
      refine ⟨⟨Int.natCast_nonneg i, e⟩, (r2.le l).at (Int.natCast_nonneg i) e rfl fun y hy' => ?_⟩
      rw [Int.toNat_natCast, hsi] at hy'
      obtain rfl := Option.some.inj hy'
      exact hK
    refine Loop.up xss[i].length (fun s => s.2.2.1) (fun j st k3 => ∃ ys : List Ac, st.1 = (((yss.map List.length).sum + j : Nat) : Int) ∧ ys.length = j ∧ (yss.map List.length).sum + j ≤ 7 ∧ (∀ x ∈ ys, badE x = false) ∧ New k2 k3 kapiAct st.2.1 ys)
      rfl ⟨[], rfl, rfl, by omega, fun x hx => (by cases hx), New.nil k2 _⟩ ?_
    rintro j ⟨n1, l, j', u3⟩ k3 go3 hj hc3 ⟨ys, hn1, hyj, hj7, hgood, nl⟩ hgo3
    dsimp only at hc3 hn1 nl; subst hc3; subst hn1
    have hlj := nl.len
    have stop3 : law22_fit.j3 go2 ((((yss.map List.length).sum : Nat) : Int), ((i : Int), ((z, (t, (o, ()))), u))) (((((yss.map List.length).sum + j : Nat) : Int)), (l, ())) k3 := by
      have hol := nn.out.len
      have hnl := nn.len
      refine (nn.more nl.le).snoc (nl.base lk) (fun x hx hy => nn.live hy (nl.new x hx)) (by omega) fun o' h5 n5 x5 b5 => ?_
      refine hgo2 hix _ _ (w64_up' (n := xss.length) hix (by omega)) ⟨o', els ++ [l], yss ++ [ys], rfl, ?_, by simp [hyl], by omega, ?_, bads_snoc hbad hgood, n5.le, n5⟩
      · show (((yss.map List.length).sum + j : Nat) : Int) = _
        rw [List.map_append, List.sum_append]; simp [hyj]
      · rw [List.map_append, List.sum_append]; simp [hyj]; exact hj7
    refine rdl (lkk.trans nl.le) (dcs (fun e5 => ⟨fun e7 => ?_, fun _ => stop3⟩) (fun e5 => ⟨fun q => (by cases q), fun _ => stop3⟩))
    have e5 : (j : Int) < ((sls[i]'(by omega)).len : Int) := e5
    have e7 : (((yss.map List.length).sum + j : Nat) : Int) < 7 := of_decide_eq_true e7
    have hjx : j < xss[i].length := by omega
    refine rdl (lkk.trans nl.le) ⟨⟨Int.natCast_nonneg j, e5⟩, (hrow.le (lkk.trans nl.le)).at (Int.natCast_nonneg j) e5 rfl fun x hx => ?_⟩
    refine im (mod22_spec (by decide) (by decide) fun kd hk0 hk5 => ?_)
    refine nl.app rfl rfl (by show (l.len + 1) * 40 ≤ _; omega) fun l' h6 n6 => ?_
    refine hgo3 hjx _ _ (w64_up' (n := xss[i].length) hjx (by omega)) ⟨_, ?_, by rw [List.length_append, hyj]; rfl, by omega, fun y hy => ?_, n6⟩
    · show w64 ((((yss.map List.length).sum + j : Nat) : Int) + 1) = _
      rw [w64_of (by omega) (by omega)]; rfl
    · rcases List.mem_append.1 hy with hy | hy
      · exact hgood y hy
      · obtain rfl : y = _ := by simpa using hy
        unfold badE
        show (decide (kd < 0) || decide (4 < kd)) = false
        rw [decide_eq_false (by omega), decide_eq_false (by omega)]; rfl
  have stop : law22_fit.j12 cm (size, (bg, (lsl, u0))) Q go ((i : Int), ((z, (t, (Sl.none, ()))), u)) (false, ()) k := by
    refine ⟨fun q => (by cases q), fun _ => next (bs' := bs.take i) (by rw [List.length_take]; omega) nt⟩
  refine dcs (fun e => ⟨fun e2 => ?_, fun _ => stop.2 rfl⟩) (fun e => stop)
  have e : (i : Int) < (bg.len : Int) := e
  have e2 : (i : Int) < z := of_decide_eq_true e2
  have hib : i < bs.length := by omega
  refine ⟨⟨Int.natCast_nonneg i, e⟩, (r1.le nt.le).at (Int.natCast_nonneg i) e rfl fun x hx => ?_⟩
  rw [Int.toNat_natCast, List.getElem?_eq_getElem hib] at hx
  obtain rfl := Option.some.inj hx
  refine nt.app rfl rfl (by show (t.len + 1) * 8 ≤ _; omega) fun t' h6 n6 => ?_
  refine hgo hib _ _ (w64_up' (n := bs.length) hib (by omega)) ⟨t', rfl, by omega, ?_⟩
  rw [take_succ' bs hib]
  exact n6

theorem total22_spec {s : Sc} {h : Heap} {bs : List Int} {xss : List (List Ac)} (r : ScR h s bs xss) (f : FitP s.1 bs xss) {Q : Int → Heap → Prop} (hQ : Q (((xss.map List.length).sum : Nat) : Int) h) : law22_total.M s h Q := by
  obtain ⟨size, bg, lsl, u0⟩ := s
  obtain ⟨r1, sls, r2, r3, r4⟩ := r
  dsimp only at r1 r2
  obtain ⟨_, _, _, hx4, hsum, _⟩ := f
  have hll : lsl.len = xss.length := by rw [← r3, r2.1]
  refine Loop.up xss.length (fun s => s.2.1) (fun i st k => k = h ∧ st.1 = ((((xss.take i).map List.length).sum : Nat) : Int)) rfl ⟨rfl, rfl⟩ ?_
  rintro i ⟨n, i', u⟩ k go hi hc ⟨rfl, hn⟩ hgo
  dsimp only at hc hn; subst hc; subst hn
  refine dcs (fun e => ?_) (fun e => ?_)
  · have e : (i : Int) < (lsl.len : Int) := e
    have hix : i < xss.length := by omega
    have hsi : sls[i]? = some (sls[i]'(by omega)) := by simp
    have hxl := (r4 i _ xss[i] hsi (by simp)).1
    refine ⟨⟨Int.natCast_nonneg i, e⟩, r2.at (Int.natCast_nonneg i) e rfl fun y hy' => ?_⟩
    rw [Int.toNat_natCast, hsi] at hy'
    obtain rfl := Option.some.inj hy'
    have h1 : ((xss.take (i + 1)).map List.length).sum = ((xss.take i).map List.length).sum + xss[i].length := by rw [take_succ' xss hix, List.map_append, List.sum_append]; simp
    have h2 : ((xss.take (i + 1)).map List.length).sum ≤ (xss.map List.length).sum := by
      conv => rhs; rw [← List.take_append_drop (i + 1) xss, List.map_append, List.sum_append]
      omega
    refine hgo hix _ _ (w64_up' (n := xss.length) hix (by omega)) ⟨rfl, ?_⟩
    show w64 ((((xss.take i).map List.length).sum : Nat) + ((sls[i]'(by omega)).len : Int)) = _
    rw [w64_of (by omega) (by omega)]; omega
  · have e : ¬ (i : Int) < (lsl.len : Int) := e
    obtain rfl : i = xss.length := by omega
    rw [List.take_length]; exact hQ

def canL (xss : List (List Ac)) (qs : List Int) (w : Nat) : List Int := ((List.range w).filter fun o : Nat => decide (cnt qs o < lensAt xss o)).map fun o : Nat => (o : Int)
theorem canL_succ (xss : List (List Ac)) (qs : List Int) (w : Nat) : canL xss qs (w + 1) = canL xss qs w ++ if cnt qs w < lensAt xss w then [(w : Int)] else [] := by
  unfold canL
  rw [List.range_succ, List.filter_append, List.map_append]
  congr 1
  by_cases h : cnt qs w < lensAt xss w
  · rw [if_pos h]; simp [h]
  · rw [if_neg h]; simp [h]
theorem canL_mem {xss : List (List Ac)} {qs : List Int} {w : Nat} {x : Int} (h : x ∈ canL xss qs w) : ∃ o : Nat, x = (o : Int) ∧ o < w ∧ cnt qs o < lensAt xss o := by
  unfold canL at h
  obtain ⟨o, ho, rfl⟩ := List.mem_map.1 h
  obtain ⟨h1, h2⟩ := List.mem_filter.1 ho
  exact ⟨o, rfl, List.mem_range.1 h1, of_decide_eq_true h2⟩
theorem canL_len (xss : List (List Ac)) (qs : List Int) (w : Nat) : (canL xss qs w).length ≤ w := by
  unfold canL
  rw [List.length_map]
  exact Nat.le_trans (List.length_filter_le _ _) (by rw [List.length_range]; exact Nat.le_refl _)
theorem canL_some {xss : List (List Ac)} {qs : List Int} (hin : InR xss.length qs) (hle : ∀ w, cnt qs w ≤ lensAt xss w) (hl : qs.length < (xss.map List.length).sum) : 0 < (canL xss qs xss.length).length := by
  rcases Nat.eq_zero_or_pos (canL xss qs xss.length).length with h | h
  · exfalso
    have h0 := List.eq_nil_of_length_eq_zero h
    have : qs.length = (xss.map List.length).sum := (all_done hin hle).2 fun w hw => by
      have h1 := hle w
      rcases Nat.lt_or_ge (cnt qs w) (lensAt xss w) with c | c
      · have : (w : Int) ∈ canL xss qs xss.length := List.mem_map.2 ⟨w, List.mem_filter.2 ⟨List.mem_range.2 hw, decide_eq_true c⟩, rfl⟩
        rw [h0] at this; cases this
      · omega
    omega
  · exact h
theorem script22_spec {s : Sc} {t : Sl} {h : Heap} {bs ps : List Int} {xss : List (List Ac)} (r : ScR h s bs xss) (f : FitP s.1 bs xss) (hp : Arr h ki t ps) (hpn : ps.length ≤ 1048576)
    {ct : Sc → Heap → (Int → Heap → Prop) → Prop} {cm : Int → Int → Heap → (Int → Heap → Prop) → Prop} (it : ∀ {s h Q}, law22_total.M s h Q → ct s h Q) (im : ∀ {x n h Q}, law22_mod.M x n h Q → cm x n h Q)
    {Q : Sl → Heap → Prop} (hQ : ∀ l qs h', New h h' ki l qs → ScriptP (xss.map List.length) qs → Q l h') : law22_script.M ct cm s t h Q := by
  have r0 := r
  have f0 := f
  obtain ⟨size, bg, lsl, u0⟩ := s
  obtain ⟨r1, sls, r2, r3, r4⟩ := r
  dsimp only at r1 r2
  obtain ⟨_, _, _, hx4, hsum, _⟩ := f
  have hll : lsl.len = xss.length := by rw [← r3, r2.1]
  have hpl := hp.1
  refine Loop.up (xss.map List.length).sum (fun s => s.2.1) (fun i st k => ∃ qs, New h k ki st.1 qs ∧ qs.length = i ∧ InR xss.length qs ∧ (∀ w, cnt qs w ≤ lensAt xss w) ∧ ∀ w < 4, ag4 st.2.2.1.1 w = (cnt qs w : Int))
    rfl ⟨[], New.nil h ki, rfl, fun x hx => (by cases hx), fun w => Nat.zero_le _, fun w hw => by unfold ag4 aget; rw [dif_pos hw]; rfl⟩ ?_
  rintro i ⟨l, i', ⟨⟨na, ua⟩, u⟩⟩ k go hi hc ⟨qs, nl, hql, hin, hle, hna⟩ hgo
  dsimp only at hc nl hna; subst hc
  have lk := nl.le
  refine it (total22_spec (r0.le lk) f0 (dcs (fun e => ?_) (fun e => ?_)))
  · have e : (i : Int) < (((xss.map List.length).sum : Nat) : Int) := e
    have his : i < (xss.map List.length).sum := by omega
    refine Loop.up xss.length (fun s => s.2.1) (fun w st k2 => New k k2 ki st.1 (canL xss qs w)) rfl (New.nil k ki) ?_
    rintro w ⟨can, w', u2⟩ k2 go2 hw hc2 nc hgo2
    dsimp only at hc2 nc; subst hc2
    have hcl := nc.len
    have hcb := canL_len xss qs w
    refine dcs (fun e2 => ?_) (fun e2 => ?_)
    · have e2 : (w : Int) < (lsl.len : Int) := e2
      have hwx : w < xss.length := by omega
      have hsi : sls[w]? = some (sls[w]'(by omega)) := by simp
      have hxl := (r4 w _ xss[w] hsi (by simp)).1
      have hla : lensAt xss w = xss[w].length := by unfold lensAt; rw [List.getElem?_map, List.getElem?_eq_getElem hwx]; rfl
      have hnw := hna w (by omega)
      refine ⟨bnd4 rfl (by omega), ⟨Int.natCast_nonneg w, e2⟩, (r2.le (lk.trans nc.le)).at (Int.natCast_nonneg w) e2 rfl fun y hy' => ?_⟩
      rw [Int.toNat_natCast, hsi] at hy'
      obtain rfl := Option.some.inj hy'
      have hag : aget (n := 4) (a := ki) na (((w : Nat) : Int)).toNat = (cnt qs w : Int) := hnw
      refine dcs (fun e3 => ?_) (fun e3 => ?_)
      · have e3 : aget (n := 4) (a := ki) na (((w : Nat) : Int)).toNat < ((sls[w]'(by omega)).len : Int) := e3
        have e3 : (cnt qs w : Int) < ((sls[w]'(by omega)).len : Int) := by rw [← hag]; exact e3
        refine nc.app rfl rfl (by show (can.len + 1) * 8 ≤ _; omega) fun t' h6 n6 => ?_
        refine hgo2 hwx _ _ (w64_up' (n := xss.length) hwx (by omega)) ?_
        rw [canL_succ, if_pos (by omega)]
        exact n6
      · have e3 : ¬ aget (n := 4) (a := ki) na (((w : Nat) : Int)).toNat < ((sls[w]'(by omega)).len : Int) := e3
        have e3 : ¬ (cnt qs w : Int) < ((sls[w]'(by omega)).len : Int) := by rw [← hag]; exact e3
        refine hgo2 hwx _ _ (w64_up' (n := xss.length) hwx (by omega)) ?_
        rw [canL_succ, if_neg (by omega), List.append_nil]
        exact nc
    · have e2 : ¬ (w : Int) < (lsl.len : Int) := e2
      obtain rfl : w = xss.length := by omega
      have hpos := canL_some hin hle (by omega)
      have fin : ∀ kk : Int, 0 ≤ kk → kk < (can.len : Int) → law22_script.j3 go (l, ((i : Int), (((na, ua), u)))) (can, ((xss.length : Int), u2)) (kk, ()) k2 := fun kk h0 h1 => by
        have hkl : kk.toNat < (canL xss qs xss.length).length := by omega
        have hge : (canL xss qs xss.length)[kk.toNat]? = some (canL xss qs xss.length)[kk.toNat] := List.getElem?_eq_getElem hkl
        obtain ⟨o, ho, hox, hoc⟩ := canL_mem (List.getElem_mem hkl)
        rw [ho] at hge
        refine ⟨⟨h0, h1⟩, nc.arr.at h0 h1 rfl fun x hx => ?_⟩
        rw [hge] at hx
        obtain rfl := Option.some.inj hx
        have hll2 := nl.len
        refine (nl.more nc.le).app3 rfl rfl (by show (l.len + 1) * 8 ≤ _; omega) fun l' h29 n29 x29 b29 => ?_
        have ac := Arr.ext x29 nc.arr (fun b hb hb2 => nl.own.live b hb2 (nc.new b hb))
        refine ⟨⟨h0, h1⟩, ac.at h0 h1 rfl fun x hx => ?_⟩
        rw [hge] at hx
        obtain rfl := Option.some.inj hx
        refine ⟨bnd4 rfl (by omega), bnd4 rfl (by omega), ?_⟩
        refine hgo his _ _ (w64_up' (n := (xss.map List.length).sum) his (by omega)) ⟨qs ++ [(o : Int)], n29, by rw [List.length_append, hql]; rfl, fun x hx => ?_, fun w => ?_, fun w hw => ?_⟩
        · rcases List.mem_append.1 hx with hx | hx
          · exact hin x hx
          · obtain rfl : x = (o : Int) := by simpa using hx
            exact ⟨by omega, by omega⟩
        · rw [cnt_snoc]
          have := hle w
          by_cases c : w = o
          · subst c; rw [if_pos rfl]; omega
          · rw [if_neg c]; omega
        · show ag4 (aset (n := 4) (a := ki) na ((o : Int)).toNat _) w = _
          rw [Int.toNat_natCast, ag4_set _ hw, cnt_snoc]
          have hb : cnt qs o ≤ 7 := by
            have h1 := hle o
            have h2 : lensAt xss o ≤ 7 := by
              have : lensAt xss o = xss[o].length := by unfold lensAt; rw [List.getElem?_map, List.getElem?_eq_getElem hox]; rfl
              have := len_le_sum (List.getElem_mem hox)
              omega
            omega
          by_cases c : w = o
          · subst c
            rw [if_pos rfl, if_pos rfl]
            have h9 := hna w hw
            show w64 (ag4 na w + 1) = _
            rw [h9, w64_of (by omega) (by omega)]; rfl
          · rw [if_neg c, if_neg c, hna w hw]; rfl
      refine dcs (fun e4 => ?_) (fun e4 => ?_)
      · have e4 : (i : Int) < (t.len : Int) := e4
        refine ⟨⟨Int.natCast_nonneg i, e4⟩, (hp.le (lk.trans nc.le)).at (Int.natCast_nonneg i) e4 rfl fun x hx => ?_⟩
        exact im (mod22_spec (n := (can.len : Int)) (by omega) (by omega) fun rr a b => fin rr a b)
      · exact fin 0 (by omega) (by omega)
  · have e : ¬ (i : Int) < (((xss.map List.length).sum : Nat) : Int) := e
    have hdone := (all_done hin hle).1 (by omega)
    refine hQ l qs k nl ⟨by rw [List.length_map]; exact hin, fun w l hl => ?_⟩
    have hw : w < xss.length := by have := (List.getElem?_eq_some_iff.1 hl).1; simpa using this
    rw [hdone w hw]; unfold lensAt; rw [hl]; rfl
end Go.Mx

namespace Go.Mx

/-! ### multinomial numbers -/
def chF (n k : Nat) : Nat → Nat
  | 0 => 1
  | i + 1 => chF n k i * (n - k + (i + 1)) / (i + 1)
def chN (n k : Nat) : Nat := chF n k k
/-- As the law reckons it: how many there were, and the product. -/
def multS (l : List Nat) : Nat × Nat := l.foldl (fun p k => (p.1 + k, p.2 * chN (p.1 + k) k)) (0, 1)
def mult (l : List Nat) : Nat := (multS l).2
theorem multS_snoc (l : List Nat) (k : Nat) : multS (l ++ [k]) = ((multS l).1 + k, (multS l).2 * chN ((multS l).1 + k) k) := by unfold multS; rw [List.foldl_append]; rfl
theorem multS_sum (l : List Nat) : (multS l).1 = l.sum := by
  induction l using rev_ind with
  | nil => rfl
  | append_singleton l k ih => rw [multS_snoc, List.sum_append, ih]; simp
theorem chF_small : ∀ n < 8, ∀ k < n + 1, ∀ i < k + 1, chF n k i ≤ 35 ∧ chF n k i * (n - k + (i + 1)) ≤ 1000 := by decide
theorem multS_small : ∀ {l : List Nat}, l.sum ≤ 7 → (multS l).2 ≤ 35 ^ l.length := fun {l} => by
  induction l using rev_ind with
  | nil => intro _; exact Nat.le_refl _
  | append_singleton l k ih =>
    intro h
    rw [List.sum_append] at h
    have h : l.sum + k ≤ 7 := by simpa using h
    rw [multS_snoc, List.length_append, multS_sum]
    have h1 := ih (by omega)
    have h2 := (chF_small (l.sum + k) (by omega) k (by omega) k (by omega)).1
    exact Nat.mul_le_mul h1 h2

/-- One fewer of w. -/
def decL (rs : List Nat) (w : Nat) : List Nat := rs.set w ((rs[w]?).getD 0 - 1)
def recS (rs : List Nat) : Nat := ((List.range rs.length).map fun w => if 0 < (rs[w]?).getD 0 then mult (decL rs w) else 0).sum
theorem mult4 : ∀ a < 8, ∀ b < 8 - a, ∀ c < 8 - a - b, ∀ d < 8 - a - b - c, 0 < a + b + c + d → mult [a, b, c, d] = recS [a, b, c, d] := by decide
theorem mult3 : ∀ a < 8, ∀ b < 8 - a, ∀ c < 8 - a - b, 0 < a + b + c → mult [a, b, c] = recS [a, b, c] := by decide
theorem mult2 : ∀ a < 8, ∀ b < 8 - a, 0 < a + b → mult [a, b] = recS [a, b] := by decide
theorem mult1 : ∀ a < 8, 0 < a → mult [a] = recS [a] := by decide
theorem mult_rec {rs : List Nat} (h4 : rs.length ≤ 4) (h7 : rs.sum ≤ 7) (hp : 0 < rs.sum) : mult rs = recS rs := by
  match rs, h4, h7, hp with
  | [], _, _, hp => exact absurd hp (by decide)
  | [a], _, h7, hp => simp at h7 hp; exact mult1 a (by omega) (by omega)
  | [a, b], _, h7, hp => simp at h7 hp; exact mult2 a (by omega) b (by omega) (by omega)
  | [a, b, c], _, h7, hp => simp at h7 hp; exact mult3 a (by omega) b (by omega) c (by omega) (by omega)
  | [a, b, c, d], _, h7, hp => simp at h7 hp; exact mult4 a (by omega) b (by omega) c (by omega) d (by omega) (by omega)
  | _ :: _ :: _ :: _ :: _ :: _, h4, _, _ => simp at h4
theorem mult_zero {rs : List Nat} (h4 : rs.length ≤ 4) (hz : rs.sum = 0) : mult rs = 1 := by
  match rs, h4, hz with
  | [], _, _ => rfl
  | [a], _, hz => simp at hz; subst hz; rfl
  | [a, b], _, hz => simp at hz; obtain ⟨rfl, rfl⟩ := hz; rfl
  | [a, b, c], _, hz => simp at hz; obtain ⟨rfl, rfl, rfl⟩ := hz; rfl
  | [a, b, c, d], _, hz => simp at hz; obtain ⟨rfl, rfl, rfl, rfl⟩ := hz; rfl
  | _ :: _ :: _ :: _ :: _ :: _, h4, _ => simp at h4

/-- What is left of each. -/
def leftR (lens : List Nat) (u : List Int) : List Nat := (List.range lens.length).map fun w => (lens[w]?).getD 0 - cnt u w
theorem leftR_at {lens : List Nat} {u : List Int} {w : Nat} (h : w < lens.length) : ((leftR lens u)[w]?).getD 0 = (lens[w]?).getD 0 - cnt u w := by
  unfold leftR
  rw [List.getElem?_map, List.getElem?_range h]; rfl
theorem leftR_len (lens : List Nat) (u : List Int) : (leftR lens u).length = lens.length := by unfold leftR; simp
theorem leftR_snoc {lens : List Nat} {u : List Int} {w : Nat} (h : w < lens.length) (hc : cnt u w < (lens[w]?).getD 0) : leftR lens (u ++ [(w : Int)]) = decL (leftR lens u) w := by
  unfold decL
  rw [leftR_at h]
  apply List.ext_getElem
  · rw [List.length_set, leftR_len, leftR_len]
  · intro i h1 h2
    rw [List.getElem_set]
    unfold leftR
    simp only [List.getElem_map, List.getElem_range, cnt_snoc]
    by_cases c : w = i
    · subst c; rw [if_pos rfl, if_pos rfl]; omega
    · rw [if_neg c, if_neg (fun q => c q.symm)]; omega
theorem decL_sum {rs : List Nat} {w : Nat} (h : 0 < (rs[w]?).getD 0) : (decL rs w).sum + 1 = rs.sum := by
  unfold decL
  have hw : w < rs.length := by
    rcases Nat.lt_or_ge w rs.length with c | c
    · exact c
    · rw [List.getElem?_eq_none c] at h; exact absurd h (by decide)
  rw [List.getElem?_eq_getElem hw] at h ⊢
  have h : 0 < rs[w] := h
  have e1 : rs.sum = (rs.take w).sum + (rs[w] + (rs.drop (w + 1)).sum) := by
    conv => lhs; rw [← List.take_append_drop w rs, List.sum_append, List.drop_eq_getElem_cons hw, List.sum_cons]
  rw [List.set_eq_take_append_cons_drop, if_pos hw, List.sum_append, List.sum_cons, e1]
  show (rs.take w).sum + ((rs[w] - 1) + (rs.drop (w + 1)).sum) + 1 = _
  omega
theorem allW_mult {lens : List Nat} (h4 : lens.length ≤ 4) : ∀ (n : Nat) (u : List Int), (leftR lens u).sum = n → n ≤ 7 → (allW lens n u).length = mult (leftR lens u)
  | 0, u, h, _ => (mult_zero (by rw [leftR_len]; exact h4) h).symm
  | n + 1, u, h, h7 => by
    rw [allW_succ, List.length_flatMap, mult_rec (by rw [leftR_len]; exact h4) (by omega) (by omega)]
    unfold recS
    rw [leftR_len]
    congr 1
    refine List.map_congr_left fun w hw => ?_
    have hw := List.mem_range.1 hw
    rw [leftR_at hw]
    unfold allC
    by_cases c : cnt u w < (lens[w]?).getD 0
    · rw [if_pos c, if_pos (by omega), ← leftR_snoc hw c]
      have hs := decL_sum (rs := leftR lens u) (w := w) (by rw [leftR_at hw]; omega)
      rw [← leftR_snoc hw c] at hs
      exact allW_mult h4 n _ (by omega) (by omega)
    · rw [if_neg c, if_neg (by omega)]; rfl
theorem allS_mult {xss : List (List Ac)} (h4 : xss.length ≤ 4) (h7 : (xss.map List.length).sum ≤ 7) : (allS xss).length = mult (xss.map List.length) := by
  have e : leftR (xss.map List.length) [] = xss.map List.length := by
    unfold leftR
    apply List.ext_getElem
    · simp
    · intro i h1 h2
      simp only [List.getElem_map, List.getElem_range]
      have hi : i < xss.length := by simpa using h2
      rw [List.getElem?_map, List.getElem?_eq_getElem hi]
      show xss[i].length - 0 = _
      omega
  unfold allS
  rw [allW_mult (by rw [List.length_map]; exact h4) _ [] (by rw [e]) h7, e]

/-! ### each script is alike to just one of the least -/
section
variable {sz len : Int} {xss : List (List Ac)}
theorem expS_script {q : List Int} (h : q ∈ expS sz len xss) : ScriptP (xss.map List.length) q := allS_mem.1 (List.mem_filter.1 h).1
theorem script_nodup {q : List Int} (h : ScriptP (xss.map List.length) q) : (evL q).Nodup := by
  have hin := h.1
  exact evL_nodup fun p hp => (hin p hp).1
theorem least_unique {q q' : List Int} (h : q ∈ expS sz len xss) (h' : q' ∈ expS sz len xss) (ha : Alk (bdE sz len xss) (evL q) (evL q')) : q = q' := by
  have hS := expS_script h
  have hS' := expS_script h'
  have hin := hS.1
  have hin' := hS'.1
  rw [List.length_map] at hin hin'
  have hp : ∀ e ∈ evL q, 0 ≤ e.1 := fun e he => ((evL_mem (fun p hp => (hin p hp).1) e).1 he).1
  have hp' : ∀ e ∈ evL q', 0 ≤ e.1 := fun e he => ((evL_mem (fun p hp => (hin' p hp).1) e).1 he).1
  have n1 := (isLst_nb hin).1 (List.mem_filter.1 h).2
  have n2 := (isLst_nb hin').1 (List.mem_filter.1 h').2
  have : evL q = evL q' := nbS_one (bdE sz len xss) whoZ (fun a b hab => bdE_fst (whoZ_inj hab)) (bdE_sym sz len xss) (script_nodup hS) ha ((nbS_congr (fun a ha b hb => whoZ_lt (hp a ha) (hp b hb))).1 n1) ((nbS_congr (fun a ha b hb => whoZ_lt (hp' a ha) (hp' b hb))).1 n2)
  rw [← evL_fst q, this, evL_fst]
theorem filter_one {α : Type} {l : List α} (nd : l.Nodup) {f : α → Bool} {x : α} (hx : x ∈ l) (hf : f x = true) (hu : ∀ y ∈ l, f y = true → y = x) : (l.filter f).length = 1 := by
  have : l.filter f = [x] := by
    have h1 : (l.filter f).Perm [x] := (List.perm_ext_iff_of_nodup (nd.filter _) (by simp)).2 fun y => by
      rw [List.mem_filter, List.mem_singleton]
      exact ⟨fun h => hu y h.1 h.2, fun h => by subst h; exact ⟨hx, hf⟩⟩
    exact List.perm_singleton.1 h1
  rw [this]; rfl
theorem found_one {p : List Int} (hp : ScriptP (xss.map List.length) p) : ((expS sz len xss).filter fun q => sameB sz len xss q p).length = 1 := by
  obtain ⟨q, hq, ha⟩ := least_ex (sz := sz) (len := len) hp
  have hS := expS_script hq
  have ha' := Alk.symm (bdE sz len xss) (bdE_sym sz len xss) (script_nodup hp) ha
  refine filter_one ((allS_nodup xss).filter _) hq ((sameB_alk hS hp).2 ha') fun y hy hyp => ?_
  have hSy := expS_script hy
  have h1 := (sameB_alk hSy hp).1 hyp
  exact least_unique hy hq (Alk.trans (bdE sz len xss) (script_nodup hSy) h1 ha)
theorem count_swap {α β : Type} (R : α → β → Bool) (L : List α) (M : List β) : (L.map fun q => (M.filter (R q)).length).sum = (M.map fun p => (L.filter fun q => R q p).length).sum := by
  induction L with
  | nil => induction M with
    | nil => rfl
    | cons p M ih => rw [List.map_cons, List.sum_cons, ← ih]; rfl
  | cons q L ih =>
    rw [List.map_cons, List.sum_cons, ih]
    clear ih
    induction M with
    | nil => rfl
    | cons p M ih =>
      rw [List.map_cons, List.sum_cons, List.map_cons, List.sum_cons, ← ih, List.filter_cons, List.filter_cons]
      cases R q p <;> simp <;> omega
theorem kin_sum : ((expS sz len xss).map fun q => ((allS xss).filter (sameB sz len xss q)).length).sum = (allS xss).length := by
  rw [count_swap]
  have : ∀ p ∈ allS xss, ((expS sz len xss).filter fun q => sameB sz len xss q p).length = 1 := fun p hp => found_one (allS_mem.1 hp)
  rw [List.map_congr_left this, List.map_const', List.sum_replicate_nat, Nat.mul_one]
theorem kin_pos {q : List Int} (h : ScriptP (xss.map List.length) q) : 1 ≤ ((allS xss).filter (sameB sz len xss q)).length := by
  have : q ∈ (allS xss).filter (sameB sz len xss q) := List.mem_filter.2 ⟨allS_mem.2 h, (sameB_alk h h).2 (Alk.refl (bdE sz len xss) _)⟩
  exact List.length_pos_of_mem this
end
end Go.Mx
