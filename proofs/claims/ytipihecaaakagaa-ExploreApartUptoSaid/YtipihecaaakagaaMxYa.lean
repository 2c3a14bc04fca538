/-
  Chapter 22, outright: what the law's own functions make: a scene that fits, a script.
-/
import Derived.Test.YtipihecaaakagaaMxKz
set_option linter.unusedVariables false
set_option linter.unusedSimpArgs false
set_option linter.unusedSectionVars false
namespace Go.Mx

theorem mod22_spec {x n : Int} (hn : 0 < n) (hb : n ≤ 1000000) {h : Heap} {Q : Int → Heap → Prop} (hQ : ∀ r, 0 ≤ r → r < n → Q r h) : law22_mod.M x n h Q := by
  have h1 : Int.tmod x n < n := Int.tmod_lt_of_pos x hn
  have h2 : -n < Int.tmod x n := Int.lt_tmod_of_pos x hn
  refine ⟨by omega, dcs (fun z => ?_) (fun z => ?_)⟩
  · have z : Int.tmod x n < 0 := z
    show Q (w64 (Int.tmod x n + n)) h
    rw [w64_of (by omega) (by omega)]
    exact hQ _ (by omega) (by omega)
  · have z : ¬ Int.tmod x n < 0 := z
    exact hQ _ (by omega) (by omega)

/-- A scene that the laws take: at most 8 cells, four actors, 7 acts. -/
def FitP (sz : Int) (bs : List Int) (xss : List (List Ac)) : Prop := 0 ≤ sz ∧ sz ≤ 8 ∧ (bs.length : Int) ≤ sz ∧ xss.length ≤ 4 ∧ (xss.map List.length).sum ≤ 7 ∧ badsE xss = false
theorem len_le_sum {α : Type} {xss : List (List α)} {xs : List α} (h : xs ∈ xss) : xs.length ≤ (xss.map List.length).sum := by
  induction xss with
  | nil => cases h
  | cons y l ih =>
    rw [List.map_cons, List.sum_cons]
    rcases List.mem_cons.1 h with rfl | h
    · omega
    · have := ih h; omega
theorem FitP.small {sz : Int} {bs : List Int} {xss : List (List Ac)} (f : FitP sz bs xss) : Small bs xss := by
  obtain ⟨h1, h2, h3, h4, h5, h6⟩ := f
  exact ⟨by omega, by omega, fun xs hx => by have := len_le_sum hx; omega⟩
theorem FitP.ok {sz : Int} {bs : List Int} {xss : List (List Ac)} (f : FitP sz bs xss) : chkE sz bs.length xss = 0 := by
  have hs := f.small
  obtain ⟨h1, h2, h3, h4, h5, h6⟩ := f
  unfold chkE
  rw [if_neg (by omega), if_neg (by rw [actsE_sum hs.2.1 hs.2.2]; omega), if_neg (by rw [h6]; exact fun q => (by cases q))]

theorem bads_snoc {xss : List (List Ac)} {xs : List Ac} (h : badsE xss = false) (h2 : ∀ x ∈ xs, badE x = false) : badsE (xss ++ [xs]) = false := by
  unfold badsE at *
  rw [List.any_append, h, Bool.false_or, List.any_cons, List.any_nil, Bool.or_false]
  cases e : xs.any badE with
  | false => rfl
  | true =>
    obtain ⟨x, hx, hb⟩ := List.any_eq_true.1 e
    rw [h2 x hx] at hb; cases hb

theorem fit22_spec {s : Sc} {h : Heap} {bs : List Int} {xss : List (List Ac)} (r : ScR h s bs xss) (hs : Small bs xss) {cm : Int → Int → Heap → (Int → Heap → Prop) → Prop} (im : ∀ {x n h Q}, law22_mod.M x n h Q → cm x n h Q) {Q : Sc → Heap → Prop}
    (hQ : ∀ c bs' xss' h', le h h' → ScR h' c bs' xss' → FitP c.1 bs' xss' → Q c h') : law22_fit.M cm s h Q := by
  obtain ⟨size, bg, lsl, u0⟩ := s
  change Int at size
  obtain ⟨r1, sls, r2, r3, r4⟩ := r
  dsimp only at r1 r2
  have hbl : bg.len = bs.length := r1.1.symm
  have hll : lsl.len = xss.length := by rw [← r3, r2.1]
  have hs1 := hs.1
  have hs2 := hs.2.1
  refine im (mod22_spec (by decide) (by decide) fun z hz0 hz9 => ?_)
  refine Loop.up bs.length (fun s => s.1) (fun i st k => ∃ t, st.2.1 = (z, (t, (Sl.none, ()))) ∧ (i : Int) ≤ z ∧ New h k ki t (bs.take i)) rfl ⟨⟨none, 0, 0⟩, rfl, hz0, New.nil h ki⟩ ?_
  rintro i ⟨i', c', u⟩ k go hi hc ⟨t, hc', hiz, nt⟩ hgo
  dsimp only at hc hc'; subst hc; subst hc'
  have htl := nt.len
  rw [List.length_take] at htl
  -- behind the cells
  have next : ∀ {bs' : List Int}, (bs'.length : Int) ≤ z → New h k ki t bs' → law22_fit.j10 cm (size, (bg, (lsl, u0))) Q ((z, (t, (Sl.none, ()))), ()) k := fun {bs'} hb' nt' => by
    refine Loop.up xss.length (fun s => s.2.1) (fun i st k2 => ∃ o els yss, st.2.2.1 = (z, (t, (o, ()))) ∧ st.1 = (((yss.map List.length).sum : Nat) : Int) ∧ yss.length = i ∧ i ≤ 4 ∧ (yss.map List.length).sum ≤ 7 ∧ badsE yss = false ∧ Go.Mx.le k k2 ∧ Nest k k2 kapiAct o els yss)
      rfl ⟨⟨none, 0, 0⟩, [], [], rfl, rfl, rfl, by omega, by decide, rfl, .refl _, Nest.nil k _⟩ ?_
    rintro i ⟨n0, i', c', u⟩ k2 go2 hi2 hc2 ⟨o, els, yss, hc', hn0, hyl, hi4, hsum, hbad, lk, nn⟩ hgo2
    dsimp only at hc2 hc' hn0; subst hc2; subst hc'; subst hn0
    have stop : law22_fit.j1 Q ((z, (t, (o, ()))), ()) k2 := by
      refine hQ (z, (t, (o, ()))) bs' yss k2 (nt'.le.trans lk) ⟨(nt'.more lk).arr, els, nn.out.arr, nn.len, fun j sl xs a b => (nn.row j sl xs a b).arr⟩ ⟨hz0, ?_, hb', ?_, hsum, hbad⟩
      · show z ≤ 8; omega
      · omega
    refine dcs (fun e => ⟨fun e4 => ?_, fun _ => stop⟩) (fun e => ⟨fun q => (by cases q), fun _ => stop⟩)
    have e : (i : Int) < (lsl.len : Int) := e
    have e4 : (i : Int) < 4 := of_decide_eq_true e4
    have hix : i < xss.length := by omega
    have hsi : sls[i]? = some (sls[i]'(by omega)) := by simp
    have hxi : xss[i]? = some xss[i] := by simp
    have hrow := r4 i _ _ hsi hxi
    have hxl := hrow.1
    have hxs := hs.2.2 _ (List.getElem_mem hix)
    have lkk := nt'.le.trans lk
    have rdl : ∀ {k' : Heap} {K : Sl → Prop}, Go.Mx.le h k' → K (sls[i]'(by omega)) → (0 ≤ (i : Int) ∧ (i : Int) < (lsl.len : Int)) ∧ deref lsl.a fun a => ld (.sl : Kd) k' (a.add ((i : Int).toNat * 1)) K := fun {k' K} l hK => by
      refine ⟨⟨Int.natCast_nonneg i, e⟩, (r2.le l).at (Int.natCast_nonneg i) e rfl fun y hy' => ?_⟩
      rw [Int.toNat_natCast, hsi] at hy'
      obtain rfl := Option.some.inj hy'
      exact hK
    refine Loop.up xss[i].length (fun s => s.2.2.1) (fun j st k3 => ∃ ys : List Ac, st.1 = (((yss.map List.length).sum + j : Nat) : Int) ∧ ys.length = j ∧ (yss.map List.length).sum + j ≤ 7 ∧ (∀ x ∈ ys, badE x = false) ∧ New k2 k3 kapiAct st.2.1 ys)
      rfl ⟨[], rfl, rfl, by omega, fun x hx => (by cases hx), New.nil k2 _⟩ ?_
    rintro j ⟨n1, l, j', u3⟩ k3 go3 hj hc3 ⟨ys, hn1, hyj, hj7, hgood, nl⟩ hgo3
    dsimp only at hc3 hn1 nl; subst hc3; subst hn1
    have hlj := nl.len
    have stop3 : law22_fit.j3 go2 ((((yss.map List.length).sum : Nat) : Int), ((i : Int), ((z, (t, (o, ()))), u))) (((((yss.map List.length).sum + j : Nat) : Int)), (l, ())) k3 := by
      have hol := nn.out.len
      have hnl := nn.len
      refine (nn.more nl.le).snoc (nl.base lk) (fun x hx hy => nn.live hy (nl.new x hx)) (by omega) fun o' h5 n5 x5 b5 => ?_
      refine hgo2 hix _ _ (w64_up' (n := xss.length) hix (by omega)) ⟨o', els ++ [l], yss ++ [ys], rfl, ?_, by simp [hyl], by omega, ?_, bads_snoc hbad hgood, n5.le, n5⟩
      · show (((yss.map List.length).sum + j : Nat) : Int) = _
        rw [List.map_append, List.sum_append]; simp [hyj]
      · rw [List.map_append, List.sum_append]; simp [hyj]; exact hj7
    refine rdl (lkk.trans nl.le) (dcs (fun e5 => ⟨fun e7 => ?_, fun _ => stop3⟩) (fun e5 => ⟨fun q => (by cases q), fun _ => stop3⟩))
    have e5 : (j : Int) < ((sls[i]'(by omega)).len : Int) := e5
    have e7 : (((yss.map List.length).sum + j : Nat) : Int) < 7 := of_decide_eq_true e7
    have hjx : j < xss[i].length := by omega
    refine rdl (lkk.trans nl.le) ⟨⟨Int.natCast_nonneg j, e5⟩, (hrow.le (lkk.trans nl.le)).at (Int.natCast_nonneg j) e5 rfl fun x hx => ?_⟩
    refine im (mod22_spec (by decide) (by decide) fun kd hk0 hk5 => ?_)
    refine nl.app rfl rfl (by show (l.len + 1) * 40 ≤ _; omega) fun l' h6 n6 => ?_
    refine hgo3 hjx _ _ (w64_up' (n := xss[i].length) hjx (by omega)) ⟨_, ?_, by rw [List.length_append, hyj]; rfl, by omega, fun y hy => ?_, n6⟩
    · show w64 ((((yss.map List.length).sum + j : Nat) : Int) + 1) = _
      rw [w64_of (by omega) (by omega)]; rfl
    · rcases List.mem_append.1 hy with hy | hy
      · exact hgood y hy
      · obtain rfl : y = _ := by simpa using hy
        unfold badE
        show (decide (kd < 0) || decide (4 < kd)) = false
        rw [decide_eq_false (by omega), decide_eq_false (by omega)]; rfl
  have stop : law22_fit.j12 cm (size, (bg, (lsl, u0))) Q go ((i : Int), ((z, (t, (Sl.none, ()))), u)) (false, ()) k := by
    refine ⟨fun q => (by cases q), fun _ => next (bs' := bs.take i) (by rw [List.length_take]; omega) nt⟩
  refine dcs (fun e => ⟨fun e2 => ?_, fun _ => stop.2 rfl⟩) (fun e => stop)
  have e : (i : Int) < (bg.len : Int) := e
  have e2 : (i : Int) < z := of_decide_eq_true e2
  have hib : i < bs.length := by omega
  refine ⟨⟨Int.natCast_nonneg i, e⟩, (r1.le nt.le).at (Int.natCast_nonneg i) e rfl fun x hx => ?_⟩
  rw [Int.toNat_natCast, List.getElem?_eq_getElem hib] at hx
  obtain rfl := Option.some.inj hx
  refine nt.app rfl rfl (by show (t.len + 1) * 8 ≤ _; omega) fun t' h6 n6 => ?_
  refine hgo hib _ _ (w64_up' (n := bs.length) hib (by omega)) ⟨t', rfl, by omega, ?_⟩
  rw [take_succ' bs hib]
  exact n6

theorem total22_spec {s : Sc} {h : Heap} {bs : List Int} {xss : List (List Ac)} (r : ScR h s bs xss) (f : FitP s.1 bs xss) {Q : Int → Heap → Prop} (hQ : Q (((xss.map List.length).sum : Nat) : Int) h) : law22_total.M s h Q := by
  obtain ⟨size, bg, lsl, u0⟩ := s
  obtain ⟨r1, sls, r2, r3, r4⟩ := r
  dsimp only at r1 r2
  obtain ⟨_, _, _, hx4, hsum, _⟩ := f
  have hll : lsl.len = xss.length := by rw [← r3, r2.1]
  refine Loop.up xss.length (fun s => s.2.1) (fun i st k => k = h ∧ st.1 = ((((xss.take i).map List.length).sum : Nat) : Int)) rfl ⟨rfl, rfl⟩ ?_
  rintro i ⟨n, i', u⟩ k go hi hc ⟨rfl, hn⟩ hgo
  dsimp only at hc hn; subst hc; subst hn
  refine dcs (fun e => ?_) (fun e => ?_)
  · have e : (i : Int) < (lsl.len : Int) := e
    have hix : i < xss.length := by omega
    have hsi : sls[i]? = some (sls[i]'(by omega)) := by simp
    have hxl := (r4 i _ xss[i] hsi (by simp)).1
    refine ⟨⟨Int.natCast_nonneg i, e⟩, r2.at (Int.natCast_nonneg i) e rfl fun y hy' => ?_⟩
    rw [Int.toNat_natCast, hsi] at hy'
    obtain rfl := Option.some.inj hy'
    have h1 : ((xss.take (i + 1)).map List.length).sum = ((xss.take i).map List.length).sum + xss[i].length := by rw [take_succ' xss hix, List.map_append, List.sum_append]; simp
    have h2 : ((xss.take (i + 1)).map List.length).sum ≤ (xss.map List.length).sum := by
      conv => rhs; rw [← List.take_append_drop (i + 1) xss, List.map_append, List.sum_append]
      omega
    refine hgo hix _ _ (w64_up' (n := xss.length) hix (by omega)) ⟨rfl, ?_⟩
    show w64 ((((xss.take i).map List.length).sum : Nat) + ((sls[i]'(by omega)).len : Int)) = _
    rw [w64_of (by omega) (by omega)]; omega
  · have e : ¬ (i : Int) < (lsl.len : Int) := e
    obtain rfl : i = xss.length := by omega
    rw [List.take_length]; exact hQ

def canL (xss : List (List Ac)) (qs : List Int) (w : Nat) : List Int := ((List.range w).filter fun o : Nat => decide (cnt qs o < lensAt xss o)).map fun o : Nat => (o : Int)
theorem canL_succ (xss : List (List Ac)) (qs : List Int) (w : Nat) : canL xss qs (w + 1) = canL xss qs w ++ if cnt qs w < lensAt xss w then [(w : Int)] else [] := by
  unfold canL
  rw [List.range_succ, List.filter_append, List.map_append]
  congr 1
  by_cases h : cnt qs w < lensAt xss w
  · rw [if_pos h]; simp [h]
  · rw [if_neg h]; simp [h]
theorem canL_mem {xss : List (List Ac)} {qs : List Int} {w : Nat} {x : Int} (h : x ∈ canL xss qs w) : ∃ o : Nat, x = (o : Int) ∧ o < w ∧ cnt qs o < lensAt xss o := by
  unfold canL at h
  obtain ⟨o, ho, rfl⟩ := List.mem_map.1 h
  obtain ⟨h1, h2⟩ := List.mem_filter.1 ho
  exact ⟨o, rfl, List.mem_range.1 h1, of_decide_eq_true h2⟩
theorem canL_len (xss : List (List Ac)) (qs : List Int) (w : Nat) : (canL xss qs w).length ≤ w := by
  unfold canL
  rw [List.length_map]
  exact Nat.le_trans (List.length_filter_le _ _) (by rw [List.length_range]; exact Nat.le_refl _)
theorem canL_some {xss : List (List Ac)} {qs : List Int} (hin : InR xss.length qs) (hle : ∀ w, cnt qs w ≤ lensAt xss w) (hl : qs.length < (xss.map List.length).sum) : 0 < (canL xss qs xss.length).length := by
  rcases Nat.eq_zero_or_pos (canL xss qs xss.length).length with h | h
  · exfalso
    have h0 := List.eq_nil_of_length_eq_zero h
    have : qs.length = (xss.map List.length).sum := (all_done hin hle).2 fun w hw => by
      have h1 := hle w
      rcases Nat.lt_or_ge (cnt qs w) (lensAt xss w) with c | c
      · have : (w : Int) ∈ canL xss qs xss.length := List.mem_map.2 ⟨w, List.mem_filter.2 ⟨List.mem_range.2 hw, decide_eq_true c⟩, rfl⟩
        rw [h0] at this; cases this
      · omega
    omega
  · exact h
theorem script22_spec {s : Sc} {t : Sl} {h : Heap} {bs ps : List Int} {xss : List (List Ac)} (r : ScR h s bs xss) (f : FitP s.1 bs xss) (hp : Arr h ki t ps) (hpn : ps.length ≤ 1048576)
    {ct : Sc → Heap → (Int → Heap → Prop) → Prop} {cm : Int → Int → Heap → (Int → Heap → Prop) → Prop} (it : ∀ {s h Q}, law22_total.M s h Q → ct s h Q) (im : ∀ {x n h Q}, law22_mod.M x n h Q → cm x n h Q)
    {Q : Sl → Heap → Prop} (hQ : ∀ l qs h', New h h' ki l qs → ScriptP (xss.map List.length) qs → Q l h') : law22_script.M ct cm s t h Q := by
  have r0 := r
  have f0 := f
  obtain ⟨size, bg, lsl, u0⟩ := s
  obtain ⟨r1, sls, r2, r3, r4⟩ := r
  dsimp only at r1 r2
  obtain ⟨_, _, _, hx4, hsum, _⟩ := f
  have hll : lsl.len = xss.length := by rw [← r3, r2.1]
  have hpl := hp.1
  refine Loop.up (xss.map List.length).sum (fun s => s.2.1) (fun i st k => ∃ qs, New h k ki st.1 qs ∧ qs.length = i ∧ InR xss.length qs ∧ (∀ w, cnt qs w ≤ lensAt xss w) ∧ ∀ w < 4, ag4 st.2.2.1.1 w = (cnt qs w : Int))
    rfl ⟨[], New.nil h ki, rfl, fun x hx => (by cases hx), fun w => Nat.zero_le _, fun w hw => by unfold ag4 aget; rw [dif_pos hw]; rfl⟩ ?_
  rintro i ⟨l, i', ⟨⟨na, ua⟩, u⟩⟩ k go hi hc ⟨qs, nl, hql, hin, hle, hna⟩ hgo
  dsimp only at hc nl hna; subst hc
  have lk := nl.le
  refine it (total22_spec (r0.le lk) f0 (dcs (fun e => ?_) (fun e => ?_)))
  · have e : (i : Int) < (((xss.map List.length).sum : Nat) : Int) := e
    have his : i < (xss.map List.length).sum := by omega
    refine Loop.up xss.length (fun s => s.2.1) (fun w st k2 => New k k2 ki st.1 (canL xss qs w)) rfl (New.nil k ki) ?_
    rintro w ⟨can, w', u2⟩ k2 go2 hw hc2 nc hgo2
    dsimp only at hc2 nc; subst hc2
    have hcl := nc.len
    have hcb := canL_len xss qs w
    refine dcs (fun e2 => ?_) (fun e2 => ?_)
    · have e2 : (w : Int) < (lsl.len : Int) := e2
      have hwx : w < xss.length := by omega
      have hsi : sls[w]? = some (sls[w]'(by omega)) := by simp
      have hxl := (r4 w _ xss[w] hsi (by simp)).1
      have hla : lensAt xss w = xss[w].length := by unfold lensAt; rw [List.getElem?_map, List.getElem?_eq_getElem hwx]; rfl
      have hnw := hna w (by omega)
      refine ⟨bnd4 rfl (by omega), ⟨Int.natCast_nonneg w, e2⟩, (r2.le (lk.trans nc.le)).at (Int.natCast_nonneg w) e2 rfl fun y hy' => ?_⟩
      rw [Int.toNat_natCast, hsi] at hy'
      obtain rfl := Option.some.inj hy'
      have hag : aget (n := 4) (a := ki) na (((w : Nat) : Int)).toNat = (cnt qs w : Int) := hnw
      refine dcs (fun e3 => ?_) (fun e3 => ?_)
      · have e3 : aget (n := 4) (a := ki) na (((w : Nat) : Int)).toNat < ((sls[w]'(by omega)).len : Int) := e3
        have e3 : (cnt qs w : Int) < ((sls[w]'(by omega)).len : Int) := by rw [← hag]; exact e3
        refine nc.app rfl rfl (by show (can.len + 1) * 8 ≤ _; omega) fun t' h6 n6 => ?_
        refine hgo2 hwx _ _ (w64_up' (n := xss.length) hwx (by omega)) ?_
        rw [canL_succ, if_pos (by omega)]
        exact n6
      · have e3 : ¬ aget (n := 4) (a := ki) na (((w : Nat) : Int)).toNat < ((sls[w]'(by omega)).len : Int) := e3
        have e3 : ¬ (cnt qs w : Int) < ((sls[w]'(by omega)).len : Int) := by rw [← hag]; exact e3
        refine hgo2 hwx _ _ (w64_up' (n := xss.length) hwx (by omega)) ?_
        rw [canL_succ, if_neg (by omega), List.append_nil]
        exact nc
    · have e2 : ¬ (w : Int) < (lsl.len : Int) := e2
      obtain rfl : w = xss.length := by omega
      have hpos := canL_some hin hle (by omega)
      have fin : ∀ kk : Int, 0 ≤ kk → kk < (can.len : Int) → law22_script.j3 go (l, ((i : Int), (((na, ua), u)))) (can, ((xss.length : Int), u2)) (kk, ()) k2 := fun kk h0 h1 => by
        have hkl : kk.toNat < (canL xss qs xss.length).length := by omega
        have hge : (canL xss qs xss.length)[kk.toNat]? = some (canL xss qs xss.length)[kk.toNat] := List.getElem?_eq_getElem hkl
        obtain ⟨o, ho, hox, hoc⟩ := canL_mem (List.getElem_mem hkl)
        rw [ho] at hge
        refine ⟨⟨h0, h1⟩, nc.arr.at h0 h1 rfl fun x hx => ?_⟩
        rw [hge] at hx
        obtain rfl := Option.some.inj hx
        have hll2 := nl.len
        refine (nl.more nc.le).app3 rfl rfl (by show (l.len + 1) * 8 ≤ _; omega) fun l' h29 n29 x29 b29 => ?_
        have ac := Arr.ext x29 nc.arr (fun b hb hb2 => nl.own.live b hb2 (nc.new b hb))
        refine ⟨⟨h0, h1⟩, ac.at h0 h1 rfl fun x hx => ?_⟩
        rw [hge] at hx
        obtain rfl := Option.some.inj hx
        refine ⟨bnd4 rfl (by omega), bnd4 rfl (by omega), ?_⟩
        refine hgo his _ _ (w64_up' (n := (xss.map List.length).sum) his (by omega)) ⟨qs ++ [(o : Int)], n29, by rw [List.length_append, hql]; rfl, fun x hx => ?_, fun w => ?_, fun w hw => ?_⟩
        · rcases List.mem_append.1 hx with hx | hx
          · exact hin x hx
          · obtain rfl : x = (o : Int) := by simpa using hx
            exact ⟨by omega, by omega⟩
        · rw [cnt_snoc]
          have := hle w
          by_cases c : w = o
          · subst c; rw [if_pos rfl]; omega
          · rw [if_neg c]; omega
        · show ag4 (aset (n := 4) (a := ki) na ((o : Int)).toNat _) w = _
          rw [Int.toNat_natCast, ag4_set _ hw, cnt_snoc]
          have hb : cnt qs o ≤ 7 := by
            have h1 := hle o
            have h2 : lensAt xss o ≤ 7 := by
              have : lensAt xss o = xss[o].length := by unfold lensAt; rw [List.getElem?_map, List.getElem?_eq_getElem hox]; rfl
              have := len_le_sum (List.getElem_mem hox)
              omega
            omega
          by_cases c : w = o
          · subst c
            rw [if_pos rfl, if_pos rfl]
            have h9 := hna w hw
            show w64 (ag4 na w + 1) = _
            rw [h9, w64_of (by omega) (by omega)]; rfl
          · rw [if_neg c, if_neg c, hna w hw]; rfl
      refine dcs (fun e4 => ?_) (fun e4 => ?_)
      · have e4 : (i : Int) < (t.len : Int) := e4
        refine ⟨⟨Int.natCast_nonneg i, e4⟩, (hp.le (lk.trans nc.le)).at (Int.natCast_nonneg i) e4 rfl fun x hx => ?_⟩
        exact im (mod22_spec (n := (can.len : Int)) (by omega) (by omega) fun rr a b => fin rr a b)
      · exact fin 0 (by omega) (by omega)
  · have e : ¬ (i : Int) < (((xss.map List.length).sum : Nat) : Int) := e
    have hdone := (all_done hin hle).1 (by omega)
    refine hQ l qs k nl ⟨by rw [List.length_map]; exact hin, fun w l hl => ?_⟩
    have hw : w < xss.length := by have := (List.getElem?_eq_some_iff.1 hl).1; simpa using this
    rw [hdone w hw]; unfold lensAt; rw [hl]; rfl
end Go.Mx
