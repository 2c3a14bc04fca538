/-
  Chapter 22, outright: among, stands, scripts; the laws ExploreEnds and ExploreOnce.
-/
import Derived.Test.YtipihecaaakagaaMxYb
import Derived.Test.YtipihecaaakagaaMxFi
set_option linter.unusedVariables false
set_option linter.unusedSimpArgs false
set_option linter.unusedSectionVars false
namespace Go.Mx

theorem sameCells2_spec {h : Heap} {a b : Sl} {xs ys : List Int} (ha : Arr h ki a xs) (hb : Arr h ki b ys) (hn : xs.length ≤ 1000000) {Q : Bool → Heap → Prop} (hQ : Q (decide (xs = ys)) h) : law22_sameCells.M a b h Q := by
  have hal := ha.1
  have hbl := hb.1
  refine dcs (fun e => ?_) (fun e => ?_)
  · have e : (a.len : Int) ≠ (b.len : Int) := e
    have : decide (xs = ys) = false := decide_eq_false fun q => e (by rw [← hal, ← hbl, q])
    rw [this] at hQ; exact hQ
  · have e : ¬ (a.len : Int) ≠ (b.len : Int) := e
    have hlen : xs.length = ys.length := by omega
    refine Loop.up xs.length (fun s => s.1) (fun i st k => k = h ∧ xs.take i = ys.take i) rfl ⟨rfl, rfl⟩ ?_
    rintro i ⟨i', u⟩ k go hi hc ⟨rfl, hI⟩ hgo
    dsimp only at hc; subst hc
    refine dcs (fun e2 => ?_) (fun e2 => ?_)
    · have e2 : (i : Int) < (a.len : Int) := e2
      have hia : i < xs.length := by omega
      have hib : i < ys.length := by omega
      refine ha.two2 hb (Int.natCast_nonneg i) e2 (Int.natCast_nonneg i) (by omega) fun x y hx hy => ?_
      rw [Int.toNat_natCast, List.getElem?_eq_getElem hia] at hx
      rw [Int.toNat_natCast, List.getElem?_eq_getElem hib] at hy
      obtain rfl := Option.some.inj hx
      obtain rfl := Option.some.inj hy
      refine dcs (fun z => ?_) (fun z => ?_)
      · have z : xs[i] ≠ ys[i] := z
        have : decide (xs = ys) = false := decide_eq_false fun q => z (by subst q; rfl)
        rw [this] at hQ; exact hQ
      · have z : xs[i] = ys[i] := Decidable.not_not.1 z
        refine hgo hia _ _ (w64_up' (n := xs.length) hia (by omega)) ⟨rfl, ?_⟩
        rw [take_succ' xs hia, take_succ' ys hib, hI, z]
    · have e2 : ¬ (i : Int) < (a.len : Int) := e2
      obtain rfl : i = xs.length := by omega
      have : decide (xs = ys) = true := decide_eq_true (by
        have h1 : xs.take xs.length = ys.take ys.length := by rw [hI, hlen]
        rwa [List.take_length, List.take_length] at h1)
      rw [this] at hQ; exact hQ
theorem among_spec {h0 h : Heap} {o t : Sl} {els : List Sl} {L : List (List Int)} {z : List Int} (n : Nest h0 h ki o els L) (ht : Arr h ki t z) (hn : L.length ≤ 1048576) (hr : ∀ xs ∈ L, xs.length ≤ 1000000) {c : Sl → Sl → Heap → (Bool → Heap → Prop) → Prop} (i : ∀ {a b h Q}, law22_sameCells.M a b h Q → c a b h Q)
    {Q : Bool → Heap → Prop} (hQ : Q (decide (z ∈ L)) h) : law22_among.M c o t h Q := by
  have hol := n.out.len
  have hel := n.len
  refine Loop.up L.length (fun s => s.1) (fun j st k => k = h ∧ z ∉ L.take j) rfl ⟨rfl, fun q => (by cases q)⟩ ?_
  rintro j ⟨j', u⟩ k go hj hc ⟨rfl, hI⟩ hgo
  dsimp only at hc; subst hc
  refine dcs (fun e => ?_) (fun e => ?_)
  · have e : (j : Int) < (o.len : Int) := e
    have hjl : j < L.length := by omega
    have hje : j < els.length := by omega
    refine ⟨⟨Int.natCast_nonneg j, e⟩, n.out.arr.at (Int.natCast_nonneg j) e rfl fun sl hsl => ?_⟩
    rw [Int.toNat_natCast, List.getElem?_eq_getElem hje] at hsl
    obtain rfl := Option.some.inj hsl
    have hrow := (n.row j _ _ (List.getElem?_eq_getElem hje) (List.getElem?_eq_getElem hjl)).arr
    refine i (sameCells2_spec hrow ht (hr _ (List.getElem_mem hjl)) ⟨fun q => ?_, fun q => ?_⟩)
    · have q := of_decide_eq_true q
      rw [decide_eq_true (show z ∈ L by rw [← q]; exact List.getElem_mem hjl)] at hQ
      exact hQ
    · have q := of_decide_eq_false q
      refine hgo hjl _ _ (w64_up' (n := L.length) hjl (by omega)) ⟨rfl, fun hm => ?_⟩
      rw [take_succ' L hjl, List.mem_append] at hm
      rcases hm with hm | hm
      · exact hI hm
      · exact q (List.mem_singleton.1 hm).symm
  · have e : ¬ (j : Int) < (o.len : Int) := e
    obtain rfl : j = L.length := by omega
    rw [List.take_length] at hI
    rw [decide_eq_false hI] at hQ
    exact hQ
def standS : List (List Ac) := [[(0, (1, (0, (1, (0, ())))))], [(0, (1, (0, (2, (0, ())))))]]
theorem stand_exp : (expS 1 1 standS).length = 2 := by decide
theorem stand_fin : (finL 1 [0] standS (expS 1 1 standS)).length = 2 := by decide
theorem stand_chk : chkE 1 1 standS = 0 := by decide
theorem stands_spec {h : Heap} {c1 c2 : Sc → Heap → ((Sl × (Int × Unit)) → Heap → Prop) → Prop}
    (iE : ∀ {s : Sc} {h : Heap} {bs : List Int} {xss : List (List Ac)} {Q : (Sl × (Int × Unit)) → Heap → Prop}, ScR h s bs xss → Small bs xss → (∀ o h', FoR h h' o (expP s.1 bs.length xss (chkE s.1 bs.length xss)) → Q (o, (chkE s.1 bs.length xss, ())) h') → c1 s h Q)
    (iF : ∀ {s : Sc} {h : Heap} {bs : List Int} {xss : List (List Ac)} {Q : (Sl × (Int × Unit)) → Heap → Prop}, ScR h s bs xss → Small bs xss → (∀ o h', FoR h h' o (finP s.1 bs xss (chkE s.1 bs.length xss)) → Q (o, (chkE s.1 bs.length xss, ())) h') → c2 s h Q)
    {Q : Bool → Heap → Prop} (hQ : ∀ h', le h h' → Q true h') : law22_stands.M c1 c2 h Q := by
  refine (New.nil h ki).app rfl rfl (by decide) fun t4 h5 n5 => ?_
  refine (New.nil h5 kapiAct).app rfl rfl (by decide) fun t8 h9 n9 => ?_
  refine (New.nil h9 kapiAct).app rfl rfl (by decide) fun t12 h13 n13 => ?_
  have nn := Nest.nil h13 kapiAct
  refine (New.nil h13 .sl).app (k := .sl) rfl rfl (by decide) fun t16 h17 n17 => ?_
  have hl17 := n17.len
  refine n17.app (k := .sl) rfl rfl (by show (t16.len + 1) * 24 ≤ _; have : t16.len = 1 := hl17.symm; omega) fun t20 h21 n21 => ?_
  have l5 := n5.le
  have l9 := n9.le
  have l13 := n13.le
  have l21 := n21.le
  have r : ScR h21 (1, (t4, (t20, ()))) [0] standS := by
    refine ⟨(n5.arr).le ((l9.trans l13).trans l21), [t8, t12], n21.arr, rfl, fun i sl xs a b => ?_⟩
    match i with
    | 0 => cases a; cases b; exact n9.arr.le (l13.trans l21)
    | 1 => cases a; cases b; exact n13.arr.le l21
    | i + 2 => cases a
  have hs : Small [0] standS := by
    refine ⟨by decide, by decide, fun xs hx => ?_⟩
    have := len_le_sum hx
    have h2 : (standS.map List.length).sum = 2 := rfl
    omega
  have hc : chkE 1 ([0] : List Int).length standS = 0 := stand_chk
  refine iE r hs fun o1 h22 f1 => ?_
  have f1 : FoR h21 h22 o1 (expP 1 1 standS (chkE 1 ([0] : List Int).length standS)) := f1
  rw [hc] at f1
  obtain ⟨e1, f1⟩ := f1
  refine iF (r.le f1.le) hs fun o2 h24 f2 => ?_
  have f2 : FoR h22 h24 o2 (finP 1 [0] standS (chkE 1 ([0] : List Int).length standS)) := f2
  rw [hc] at f2
  obtain ⟨e2, f2⟩ := f2
  have k1 : (o1.len : Int) = 2 := by
    have a := f1.out.len
    have b := f1.len
    have c : (expP 1 1 standS 0).length = 2 := stand_exp
    omega
  have k2 : (o2.len : Int) = 2 := by
    have a := f2.out.len
    have b := f2.len
    have c : (finP 1 [0] standS 0).length = 2 := stand_fin
    omega
  have lf := ((((l5.trans l9).trans l13).trans l21).trans f1.le).trans f2.le
  refine dcs (fun _ => dcs (fun _ => dcs (fun _ => ?_) (fun q => absurd k1 q)) (fun q => absurd hc q)) (fun q => absurd hc q)
  show Q (decide ((o2.len : Int) = 2)) h24
  rw [decide_eq_true k2]
  exact hQ _ lf

theorem choose22_spec {n k : Nat} (hk : k ≤ n) (hn : n ≤ 7) {h : Heap} {Q : Int → Heap → Prop} (hQ : Q (chN n k : Int) h) : law22_choose.M (n : Int) (k : Int) h Q := by
  refine Loop.up k (fun s => s.2.1 - 1) (fun j st k' => k' = h ∧ st.1 = (chF n k j : Int)) rfl ⟨rfl, rfl⟩ ?_
  rintro j ⟨(c : Int), (i : Int), u⟩ k' go hj hc ⟨rfl, hI⟩ hgo
  dsimp only at hc hI; subst hI
  obtain rfl : i = ((j + 1 : Nat) : Int) := by omega
  refine dcs (fun e => ?_) (fun e => ?_)
  · have e : ((j + 1 : Nat) : Int) ≤ (k : Int) := e
    have hjk : j < k := by omega
    have hs := (chF_small n (by omega) k (by omega) j (by omega)).2
    refine ⟨show ((j + 1 : Nat) : Int) ≠ 0 by omega, ?_⟩
    have w1 : w64 ((n : Int) - (k : Int)) = ((n - k : Nat) : Int) := by rw [w64_of (by omega) (by omega)]; omega
    have w2 : w64 (((n - k : Nat) : Int) + ((j + 1 : Nat) : Int)) = ((n - k + (j + 1) : Nat) : Int) := by rw [w64_of (by omega) (by omega)]; rfl
    have w3 : w64 ((chF n k j : Int) * ((n - k + (j + 1) : Nat) : Int)) = ((chF n k j * (n - k + (j + 1)) : Nat) : Int) := by rw [← Int.natCast_mul, w64_of (by omega) (by omega)]
    have w4 : w64 (Int.tdiv ((chF n k j * (n - k + (j + 1)) : Nat) : Int) ((j + 1 : Nat) : Int)) = (chF n k (j + 1) : Int) := by
      rw [← Int.ofNat_tdiv]
      have : chF n k j * (n - k + (j + 1)) / (j + 1) ≤ 1000 := Nat.le_trans (Nat.div_le_self _ _) hs
      generalize hz : chF n k j * (n - k + (j + 1)) / (j + 1) = z at this ⊢
      rw [w64_of (by omega) (by omega), ← hz]; rfl
    refine hgo hjk _ _ ?_ ⟨rfl, ?_⟩
    · show w64 (((j + 1 : Nat) : Int) + 1) - 1 = _
      rw [w64_of (by omega) (by omega)]; omega
    · show w64 (Int.tdiv (w64 ((chF n k j : Int) * (w64 ((w64 ((n : Int) - (k : Int))) + ((j + 1 : Nat) : Int))))) ((j + 1 : Nat) : Int)) = _
      rw [w1, w2, w3, w4]
  · have e : ¬ ((j + 1 : Nat) : Int) ≤ (k : Int) := e
    obtain rfl : j = k := by omega
    exact hQ
theorem scripts22_spec {s : Sc} {h : Heap} {bs : List Int} {xss : List (List Ac)} (r : ScR h s bs xss) (h4 : xss.length ≤ 4) (h7 : (xss.map List.length).sum ≤ 7) {cc : Int → Int → Heap → (Int → Heap → Prop) → Prop} (ic : ∀ {n k h Q}, law22_choose.M n k h Q → cc n k h Q) {Q : Int → Heap → Prop} (hQ : Q (mult (xss.map List.length) : Int) h) : law22_scripts.M cc s h Q := by
  obtain ⟨size, bg, lsl, u0⟩ := s
  obtain ⟨r1, sls, r2, r3, r4⟩ := r
  dsimp only at r1 r2
  have hll : lsl.len = xss.length := by rw [← r3, r2.1]
  refine Loop.up xss.length (fun s => s.2.2.1) (fun i st k => k = h ∧ st.1 = ((multS ((xss.take i).map List.length)).1 : Int) ∧ st.2.1 = ((multS ((xss.take i).map List.length)).2 : Int)) rfl ⟨rfl, rfl, rfl⟩ ?_
  rintro i ⟨n, c, i', u⟩ k go hi hc ⟨rfl, hn, hcc⟩ hgo
  dsimp only at hc hn hcc; subst hc; subst hn; subst hcc
  refine dcs (fun e => ?_) (fun e => ?_)
  · have e : (i : Int) < (lsl.len : Int) := e
    have hix : i < xss.length := by omega
    have hsi : sls[i]? = some (sls[i]'(by omega)) := by simp
    have hxl := (r4 i _ xss[i] hsi (by simp)).1
    have rdl : ∀ {K : Sl → Prop}, K (sls[i]'(by omega)) → (0 ≤ (i : Int) ∧ (i : Int) < (lsl.len : Int)) ∧ deref lsl.a fun a => ld (.sl : Kd) k (a.add ((i : Int).toNat * 1)) K := fun {K} hK => by
      refine ⟨⟨Int.natCast_nonneg i, e⟩, r2.at (Int.natCast_nonneg i) e rfl fun y hy' => ?_⟩
      rw [Int.toNat_natCast, hsi] at hy'
      obtain rfl := Option.some.inj hy'
      exact hK
    have h2 : ((xss.take (i + 1)).map List.length).sum ≤ (xss.map List.length).sum := by
      conv => rhs; rw [← List.take_append_drop (i + 1) xss, List.map_append, List.sum_append]
      omega
    have h1 : (xss.take (i + 1)).map List.length = (xss.take i).map List.length ++ [xss[i].length] := by rw [take_succ' xss hix, List.map_append]; rfl
    have hst := multS_snoc ((xss.take i).map List.length) xss[i].length
    rw [← h1] at hst
    have hms := multS_sum ((xss.take i).map List.length)
    have hsum : ((xss.take (i + 1)).map List.length).sum = ((xss.take i).map List.length).sum + xss[i].length := by rw [h1, List.sum_append]; simp
    have hb := multS_small (l := (xss.take (i + 1)).map List.length) (by omega)
    rw [hst] at hb
    have hlen : ((xss.take (i + 1)).map List.length).length ≤ 4 := by rw [List.length_map, List.length_take]; omega
    have hb2 : 35 ^ ((xss.take (i + 1)).map List.length).length ≤ 35 ^ 4 := Nat.pow_le_pow_right (by decide) hlen
    have hb3 : (35 : Nat) ^ 4 = 1500625 := by decide
    have hb : (multS ((xss.take i).map List.length)).2 * chN ((multS ((xss.take i).map List.length)).1 + xss[i].length) xss[i].length ≤ 1500625 := by rw [← hb3]; exact Nat.le_trans hb hb2
    have w1 : w64 (((multS ((xss.take i).map List.length)).1 : Int) + ((sls[i]'(by omega)).len : Int)) = (((multS ((xss.take i).map List.length)).1 + xss[i].length : Nat) : Int) := by rw [w64_of (by omega) (by omega)]; omega
    refine rdl (rdl ?_)
    rw [w1, show ((sls[i]'(by omega)).len : Int) = (xss[i].length : Int) by omega]
    refine ic (choose22_spec (by omega) (by omega) (hgo hix _ _ (w64_up' (n := xss.length) hix (by omega)) ⟨rfl, ?_, ?_⟩))
    · rw [hst]
    · rw [hst]
      show w64 (((multS ((xss.take i).map List.length)).2 : Int) * (chN ((multS ((xss.take i).map List.length)).1 + xss[i].length) xss[i].length : Int)) = _
      rw [← Int.natCast_mul, w64_of (by omega) (by omega)]
  · have e : ¬ (i : Int) < (lsl.len : Int) := e
    obtain rfl : i = xss.length := by omega
    rw [List.take_length]; exact hQ

theorem exploreEnds_spec {s : Sc} {t : Sl} {h0 : Heap} {bs ps : List Int} {xss : List (List Ac)} (r : ScR h0 s bs xss) (hs : Small bs xss) (hp : Arr h0 ki t ps) (hpn : ps.length ≤ 1048576) {Q : Bool → Heap → Prop} (hQ : ∀ h', le h0 h' → Q true h')
    {c1 : Sc → Heap → (Sc → Heap → Prop) → Prop} {c2 c3 : Sc → Heap → ((Sl × (Int × Unit)) → Heap → Prop) → Prop} {c4 : Sc → Sl → Heap → (Sl → Heap → Prop) → Prop} {c5 : Sc → Sl → Heap → ((Den kapiEnding × (Int × Unit)) → Heap → Prop) → Prop}
    {c6 : Sl → Sl → Heap → (Bool → Heap → Prop) → Prop} {c7 : Heap → (Bool → Heap → Prop) → Prop}
    (i1 : ∀ {Q : Sc → Heap → Prop}, (∀ c bs' xss' h', le h0 h' → ScR h' c bs' xss' → FitP c.1 bs' xss' → Q c h') → c1 s h0 Q)
    (iF : ∀ {s : Sc} {h : Heap} {bs : List Int} {xss : List (List Ac)} {Q : (Sl × (Int × Unit)) → Heap → Prop}, ScR h s bs xss → Small bs xss → (∀ o h', FoR h h' o (finP s.1 bs xss (chkE s.1 bs.length xss)) → Q (o, (chkE s.1 bs.length xss, ())) h') → c2 s h Q)
    (iE : ∀ {s : Sc} {h : Heap} {bs : List Int} {xss : List (List Ac)} {Q : (Sl × (Int × Unit)) → Heap → Prop}, ScR h s bs xss → Small bs xss → (∀ o h', FoR h h' o (expP s.1 bs.length xss (chkE s.1 bs.length xss)) → Q (o, (chkE s.1 bs.length xss, ())) h') → c3 s h Q)
    (iS : ∀ {s : Sc} {h : Heap} {bs : List Int} {xss : List (List Ac)} {Q : Sl → Heap → Prop}, ScR h s bs xss → FitP s.1 bs xss → Arr h ki t ps → (∀ l qs h', New h h' ki l qs → ScriptP (xss.map List.length) qs → Q l h') → c4 s t h Q)
    (iR : ∀ {s : Sc} {t : Sl} {h : Heap} {bs ps : List Int} {xss : List (List Ac)} {Q : (Den kapiEnding × (Int × Unit)) → Heap → Prop}, ScR h s bs xss → Small bs xss → Arr h ki t ps → ps.length ≤ 1048576 → (∀ en e h', Rdy s.1 bs.length xss ps e → EndR h h' en (runP s.1 bs xss ps e) → Q (en, (e, ())) h') → c5 s t h Q)
    (iA : ∀ {h0 h : Heap} {o t : Sl} {els : List Sl} {L : List (List Int)} {z : List Int} {Q : Bool → Heap → Prop}, Nest h0 h ki o els L → Arr h ki t z → L.length ≤ 1048576 → (∀ xs ∈ L, xs.length ≤ 1000000) → Q (decide (z ∈ L)) h → c6 o t h Q)
    (iT : ∀ {h : Heap} {Q : Bool → Heap → Prop}, (∀ h', le h h' → Q true h') → c7 h Q) :
    law22_ExploreEnds.M c1 c2 c3 c4 c5 c6 c7 s t h0 Q := by
  refine i1 fun c bs xss h1 l1 r1 f => ?_
  have hs := f.small
  have hc := f.ok
  obtain ⟨_, _, hz2, hx4, hsum, hbad⟩ := f
  have hz64 : (c.1 : Int) ≤ 64 := (chkE_ok hc).2.1
  refine iF r1 hs fun en h2 enR => ?_
  rw [hc] at enR ⊢
  obtain ⟨els, n2⟩ := enR
  refine iE (r1.le n2.le) hs fun ex h3 exR => ?_
  rw [hc] at exR ⊢
  obtain ⟨elsX, n3⟩ := exR
  have l2 := n2.le
  have l3 := n3.le
  have sm := finP_small hs hc.symm
  have sx := expS_small (sz := c.1) (nb := bs.length) (len := bs.length) hs.2.1 hs.2.2 hc.symm
  have hrun : ∀ {q : List Int} {e : Int}, ScriptP (xss.map List.length) q → Rdy c.1 bs.length xss q e → e = 0 := fun hS hr => (hr.2 hc).1 hS
  have run0 : ∀ q, runP c.1 bs xss q 0 = playP c.1 bs xss q := fun q => by unfold runP; rw [if_pos rfl]
  refine iS (r1.le (l2.trans l3)) ⟨‹_›, ‹_›, hz2, hx4, hsum, hbad⟩ (hp.le ((l1.trans l2).trans l3)) fun sl q h4 n4 hS => ?_
  have hq10 := ten hs.2.1 hs.2.2 hc hS
  have l4 := n4.le
  refine iR (r1.le ((l2.trans l3).trans l4)) hs n4.arr (by omega) fun dr e h5 hr eR => ?_
  obtain rfl := hrun hS hr
  rw [run0] at eR
  have l5 := eR.le
  obtain ⟨_, _, d5, _⟩ := eR
  have n2' := n2.more ((l3.trans l4).trans l5)
  have memF : ∀ {q : List Int}, ScriptP (xss.map List.length) q → (playP c.1 bs xss q).1 ∈ finP c.1 bs xss 0 := fun {q} hq => by
    unfold finP
    rw [if_pos rfl, ← finals_eq hz2 hbad]
    exact finL_mem.2 ⟨q, allS_mem.2 hq, rfl⟩
  have hsmF : ∀ xs ∈ finP c.1 bs xss 0, xs.length ≤ 1000000 := fun xs hx => by
    unfold finP at hx; rw [if_pos rfl] at hx
    obtain ⟨q', _, rfl⟩ := finL_mem.1 hx
    have := playP_small (xss := xss) hz2 hz64 q'; omega
  refine dcs (fun q => absurd rfl q) (fun _ => dcs (fun q => absurd rfl q) (fun _ => dcs (fun q => absurd rfl q) (fun _ => ?_)))
  refine iA n2' d5.arr sm.1 hsmF ?_
  rw [decide_eq_true (memF hS)]
  refine ⟨fun q => (by cases q), fun _ => iT fun h6 l6 => ⟨fun q => (by cases q), fun _ => ?_⟩⟩
  -- each of Explore's scripts
  have le6 : le h1 h6 := (((l2.trans l3).trans l4).trans l5).trans l6
  have n3' := n3.more ((l4.trans l5).trans l6)
  have n2'' := n2'.more l6
  have hX : expP c.1 bs.length xss 0 = expS c.1 bs.length xss := by unfold expP; rw [if_pos rfl]
  rw [hX] at n3' sx
  have exl := n3'.out.len
  have hxl := n3'.len
  refine Loop.up (expS c.1 bs.length xss).length (fun s => s.2.1) (fun i st k => ∃ es zs, Nest h6 k ki st.1 es zs ∧ zs.Nodup ∧ zs.length ≤ i ∧ (∀ z, z ∈ zs ↔ ∃ q ∈ (expS c.1 bs.length xss).take i, z = (playP c.1 bs xss q).1)) rfl
    ⟨[], [], Nest.nil h6 ki, List.nodup_nil, Nat.le_refl _, fun z => ⟨fun q => (by cases q), fun ⟨q, hq, _⟩ => (by cases hq)⟩⟩ ?_
  rintro i ⟨o, i', u⟩ k go hi hcc ⟨es, zs, nz, znd, zl, zm⟩ hgo
  dsimp only at hcc nz; subst hcc
  have lk := nz.le
  refine dcs (fun e => ?_) (fun e => ?_)
  · have e : (i : Int) < (ex.len : Int) := e
    have hie : i < (expS c.1 bs.length xss).length := by omega
    have hix : i < elsX.length := by omega
    have n3k := n3'.more lk
    refine ⟨⟨Int.natCast_nonneg i, e⟩, n3k.out.arr.at (Int.natCast_nonneg i) e rfl fun sl' hsl => ?_⟩
    rw [Int.toNat_natCast, List.getElem?_eq_getElem hix] at hsl
    obtain rfl := Option.some.inj hsl
    have hqS := expS_script (List.getElem_mem hie)
    have hq10' := ten hs.2.1 hs.2.2 hc hqS
    have hrow := (n3k.row i _ _ (List.getElem?_eq_getElem hix) (List.getElem?_eq_getElem hie)).arr
    refine iR (r1.le (le6.trans lk)) hs hrow (by omega) fun dr2 e2 h24 hr2 eR2 => ?_
    obtain rfl := hrun hqS hr2
    rw [run0] at eR2
    have l24 := eR2.le
    obtain ⟨_, _, d24, _⟩ := eR2
    refine dcs (fun q => absurd rfl q) (fun _ => ?_)
    refine iA (n2''.more (lk.trans l24)) d24.arr sm.1 hsmF ?_
    rw [decide_eq_true (memF hqS)]
    refine ⟨fun q => (by cases q), fun _ => ?_⟩
    have nz24 := nz.more l24
    have hx1 := sx.1
    refine iA nz24 d24.arr (by omega) (fun xs hx => by
      obtain ⟨q', _, rfl⟩ := (zm xs).1 hx
      exact Nat.le_trans (playP_small (xss := xss) hz2 hz64 q') (by decide)) ?_
    have tk : ∀ z, (∃ q ∈ (expS c.1 bs.length xss).take (i + 1), z = (playP c.1 bs xss q).1) ↔ (∃ q ∈ (expS c.1 bs.length xss).take i, z = (playP c.1 bs xss q).1) ∨ z = (playP c.1 bs xss (expS c.1 bs.length xss)[i]).1 := fun z => by
      rw [take_succ' _ hie]
      constructor
      · rintro ⟨q, hq, hz⟩
        rcases List.mem_append.1 hq with hq | hq
        · exact .inl ⟨q, hq, hz⟩
        · rw [List.mem_singleton.1 hq] at hz; exact .inr hz
      · rintro (⟨q, hq, hz⟩ | hz)
        · exact ⟨q, List.mem_append_left _ hq, hz⟩
        · exact ⟨_, List.mem_append_right _ (List.mem_singleton.2 rfl), hz⟩
    have w1 := w64_up' (n := (expS c.1 bs.length xss).length) hie (by omega)
    by_cases hm : (playP c.1 bs xss (expS c.1 bs.length xss)[i]).1 ∈ zs
    · rw [decide_eq_true hm]
      refine ⟨fun q => (by cases q), fun _ => hgo hie _ _ w1 ⟨es, zs, nz24, znd, by omega, fun z => ?_⟩⟩
      rw [tk, ← zm]
      exact ⟨.inl, fun q => by
        rcases q with q | q
        · exact q
        · rw [q]; exact hm⟩
    · rw [decide_eq_false hm]
      have hol := nz24.out.len
      have hel := nz24.len
      refine ⟨fun _ => nz24.snoc (d24.base lk) (fun x hx hy => nz.live hy (d24.new x hx)) (by show (o.len + 1) * 24 ≤ _; omega) fun o' h32 n32 x32 b32 => ?_, fun q => (by cases q)⟩
      refine hgo hie _ _ w1 ⟨_, _, n32, ?_, by rw [List.length_append, List.length_singleton]; omega, fun z => ?_⟩
      · rw [List.nodup_append]
        refine ⟨znd, by simp, fun a ha b hb => ?_⟩
        rw [List.mem_singleton.1 hb]
        exact fun q => hm (q ▸ ha)
      · rw [tk, List.mem_append, zm, List.mem_singleton]
  · have e : ¬ (i : Int) < (ex.len : Int) := e
    obtain rfl : i = (expS c.1 bs.length xss).length := by omega
    rw [List.take_length] at zm
    have hF : finP c.1 bs xss 0 = finL c.1 bs xss (expS c.1 bs.length xss) := by unfold finP; rw [if_pos rfl]
    have hnd : (finP c.1 bs xss 0).Nodup := by
      rw [hF]
      refine (finL_srt _).imp fun {a b} hab q => ?_
      rw [cmpC_zero.2 q] at hab; exact absurd hab (by decide)
    have hlen : zs.length = (finP c.1 bs xss 0).length := List.Perm.length_eq ((List.perm_ext_iff_of_nodup znd hnd).2 fun z => by rw [zm, hF, finL_mem])
    have a1 := nz.out.len
    have a2 := nz.len
    have a3 := n2''.out.len
    have a4 : els.length = (finP c.1 bs xss 0).length := n2''.len
    have : (o.len : Int) = (en.len : Int) := by omega
    show Q (decide ((o.len : Int) = (en.len : Int))) k
    rw [decide_eq_true this]
    exact hQ _ ((l1.trans le6).trans lk)
end Go.Mx
