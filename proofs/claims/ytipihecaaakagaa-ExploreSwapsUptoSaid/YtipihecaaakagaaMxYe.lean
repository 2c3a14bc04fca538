/-
  Chapter 22, outright: the law ExploreSwaps.
-/
import Derived.Test.YtipihecaaakagaaMxYd
set_option linter.unusedVariables false
set_option linter.unusedSimpArgs false
set_option linter.unusedSectionVars false
namespace Go.Mx

def actsL (xss : List (List Ac)) (ps : List Int) (n : Nat) : List Ac := (List.range n).map fun j => (rowE xss ps j).2.1
theorem actsL_succ (xss : List (List Ac)) (ps : List Int) (n : Nat) : actsL xss ps (n + 1) = actsL xss ps n ++ [(rowE xss ps n).2.1] := by unfold actsL; rw [List.range_succ, List.map_append]; rfl
theorem actsL_len (xss : List (List Ac)) (ps : List Int) (n : Nat) : (actsL xss ps n).length = n := by simp [actsL]
theorem actsL_at {xss : List (List Ac)} {ps : List Int} {n j : Nat} (h : j < n) : (actsL xss ps n)[j]? = some (rowE xss ps j).2.1 := by
  unfold actsL
  rw [List.getElem?_map, List.getElem?_range h]; rfl
theorem row22_spec {h : Heap} {s : Sc} {t : Sl} {bs ps : List Int} {xss : List (List Ac)} (r : ScR h s bs xss) (hp : Arr h ki t ps) (hn : ps.length ≤ 1048576) (hx4 : xss.length ≤ 4) (hS : ScriptP (xss.map List.length) ps) {Q : Sl → Heap → Prop} (hQ : ∀ l h', New h h' kapiAct l (actsL xss ps ps.length) → Q l h') : law22_row.M s t h Q := by
  obtain ⟨size, bg, lsl, u0⟩ := s
  obtain ⟨r1, sls, r2, r3, r4⟩ := r
  dsimp only at r1 r2
  have hsl : lsl.len = xss.length := by rw [← r3, r2.1]
  have hpl := hp.1
  have hin := hS.1
  rw [List.length_map] at hin
  refine Loop.up ps.length (fun s => s.2.1) (fun j st k => New h k kapiAct st.1 (actsL xss ps j) ∧ ∀ i < 4, aget (n := 4) (a := ki) st.2.2.1.1 i = (cnt (ps.take j) i : Int)) rfl ⟨New.nil h _, fun i hi => by unfold aget; rw [dif_pos hi]; simp [cnt]⟩ ?_
  rintro j ⟨l, j', ⟨a, ua⟩, u⟩ k go hj hcc ⟨n, hI⟩ hgo
  dsimp only at hcc hI n; subst hcc
  have hnl := n.len
  rw [actsL_len] at hnl
  refine ⟨fun e => ?_, fun e => ?_⟩
  · have e : (j : Int) < (t.len : Int) := of_decide_eq_true e
    have hjt : j < ps.length := by omega
    obtain ⟨i, hi⟩ : ∃ i : Nat, ps[j] = (i : Int) := ⟨ps[j].toNat, by have := (hin ps[j] (by simp)).1; omega⟩
    have hil : i < xss.length := by have := (hin ps[j] (by simp)).2; omega
    have hrm := hS.room hjt hi (m := xss[i].length) (by simp [hil])
    have hcm := cnt_le ps j i
    have hsi : sls[i]? = some (sls[i]'(by omega)) := by simp
    have hxi : xss[i]? = some xss[i] := by simp
    have hxr := r4 i _ _ hsi hxi
    have hxl := hxr.1
    have hb0 : (0 : Int) ≤ (j : Int) := by omega
    refine ⟨⟨hb0, e⟩, (hp.le n.le).at hb0 e rfl fun p hp' => ?_⟩
    obtain rfl : ps[j] = p := by simpa [hjt] using hp'
    rw [hi]
    have hb4 : (0 : Int) ≤ (i : Int) ∧ (i : Int) < (4 : Int) := by omega
    have hbL : (0 : Int) ≤ (i : Int) ∧ (i : Int) < (lsl.len : Int) := by omega
    refine ⟨hb4, hbL, (r2.le n.le).at hbL.1 hbL.2 rfl fun sl hsl' => ?_⟩
    rw [Int.toNat_natCast, hsi] at hsl'
    obtain rfl := Option.some.inj hsl'
    have hcell : aget (n := 4) (a := ki) a ((i : Int)).toNat = (cnt (ps.take j) i : Int) := by rw [Int.toNat_natCast, hI i (by omega)]
    dsimp only
    rw [hcell]
    have hbX : (0 : Int) ≤ ((cnt (ps.take j) i : Nat) : Int) ∧ ((cnt (ps.take j) i : Nat) : Int) < ((sls[i]'(by omega)).len : Int) := by omega
    refine ⟨hbX, (hxr.le n.le).at hbX.1 hbX.2 rfl fun x hx => ?_⟩
    rw [Int.toNat_natCast] at hx
    refine n.app rfl rfl (by omega) fun t2 h2 n2 => ⟨hb4, hb4, ?_⟩
    refine hgo hjt _ _ (w64_up' (n := ps.length) hjt (by omega)) ⟨?_, fun i' hi' => ?_⟩
    · rw [actsL_succ]
      have : rowE xss ps j = ((i : Int), (x, ())) := by
        unfold rowE
        rw [List.getElem?_eq_getElem hjt]
        dsimp only [Option.getD]
        rw [hi, Int.toNat_natCast]
        unfold xAt
        rw [hxi]
        dsimp only [Option.getD]
        rw [hx]
      rw [this]
      exact n2
    · dsimp only
      rw [Int.toNat_natCast, aget_set hi', take_succ' ps hjt, cnt_app, cnt_one]
      by_cases c : i' = i
      · subst c
        rw [if_pos rfl, if_pos hi]
        show w64 ((cnt (ps.take j) i' : Int) + 1) = ((cnt (ps.take j) i' + 1 : Nat) : Int)
        rw [w64_of] <;> omega
      · rw [if_neg c, if_neg (by omega), hI i' hi']
        rfl
  · have e : ¬ (j : Int) < (t.len : Int) := of_decide_eq_false e
    obtain rfl : j = ps.length := by omega
    exact hQ l k n

/-- Two elements are read. -/
theorem Arr.twoK {h : Heap} {k : Kd} {s : Sl} {xs : List (Den k)} (c : Arr h k s xs) {i j : Int} (i0 : 0 ≤ i) (i1 : i < (s.len : Int)) (j0 : 0 ≤ j) (j1 : j < (s.len : Int)) {sz : Nat} (hsz : sz = k.size) {K : Den k → Den k → Prop} (hK : ∀ x y, xs[i.toNat]? = some x → xs[j.toNat]? = some y → K x y) :
    (0 ≤ i ∧ i < (s.len : Int)) ∧ deref s.a fun a => (0 ≤ j ∧ j < (s.len : Int)) ∧ deref s.a fun b => ld k h (a.add (i.toNat * sz)) fun x => ld k h (b.add (j.toNat * sz)) fun y => K x y := by
  refine ⟨⟨i0, i1⟩, ?_⟩
  have q1 := c.at (K := fun x => xs[i.toNat]? = some x) i0 i1 (sz := sz) hsz fun x hx => hx
  have q2 := c.at (K := fun x => xs[j.toNat]? = some x) j0 j1 (sz := sz) hsz fun x hx => hx
  revert q1 q2
  cases s.a with
  | none => intro q1; exact q1.elim
  | some a =>
    intro ⟨x, a1, a2⟩ ⟨y, b1, b2⟩
    exact ⟨⟨j0, j1⟩, x, a1, y, b1, hK x y a2 b2⟩

theorem two_split {l : List Int} {i : Nat} (h : i + 1 < l.length) : ∃ A x y B, l = A ++ x :: y :: B ∧ A.length = i ∧ l[i]? = some x ∧ l[i + 1]? = some y := by
  refine ⟨l.take i, l[i], l[i + 1], l.drop (i + 2), ?_, by rw [List.length_take]; omega, List.getElem?_eq_getElem (by omega), List.getElem?_eq_getElem h⟩
  conv => lhs; rw [← List.take_append_drop i l, List.drop_eq_getElem_cons (by omega), List.drop_eq_getElem_cons h]
theorem swap_set (A B : List Int) (x y : Int) : ((A ++ x :: y :: B).set A.length y).set (A.length + 1) x = A ++ y :: x :: B := by
  rw [List.set_append_right _ _ (by omega), List.set_append_right _ _ (by omega)]
  simp
theorem swapped_spec {h : Heap} {s : Sc} {t w : Sl} {bs p ws : List Int} {xss : List (List Ac)} (r : ScR h s bs xss) (f : FitP s.1 bs xss) (hp : Arr h ki t p) (hS : ScriptP (xss.map List.length) p) (hw : Arr h ki w ws) (hwn : ws.length ≤ 1048576)
    {cm : Int → Int → Heap → (Int → Heap → Prop) → Prop} {cr : Sc → Sl → Heap → (Sl → Heap → Prop) → Prop} {cd : Sc → Ac → Ac → Heap → (Bool → Heap → Prop) → Prop}
    (im : ∀ {x n h Q}, law22_mod.M x n h Q → cm x n h Q) (ir : ∀ {s t h Q}, law22_row.M s t h Q → cr s t h Q)
    (iD : ∀ {x y : Ac} {h : Heap} {Q : Bool → Heap → Prop}, (∀ b : Bool, (b = true ↔ DepI s.1 (s.2.1.len : Int) x.2.1 x.2.2.1 x.2.2.2.1 y.2.1 y.2.2.1 y.2.2.2.1) → Q b h) → cd s x y h Q)
    {Q : Sl → Heap → Prop} (hQ : ∀ l q h', New h h' ki l q → ScriptP (xss.map List.length) q → Alk (bdE s.1 bs.length xss) (evL p) (evL q) → Q l h') : law22_swapped.M cm cr cd s t w h Q := by
  have hbg := r.beg
  have hx4 := f.2.2.2.1
  have hc := f.ok
  have hs := f.small
  have hpl := hp.1
  have h10 := ten hs.2.1 hs.2.2 hc hS
  have hwl := hw.1
  refine New.mk0 fun p5 h6 n6 => ?_
  refine newApps3 n6 (hp.le n6.le) rfl rfl (by show (0 + t.len) * 8 ≤ _; omega) fun t7 h8 n8 _ _ => ?_
  rw [List.nil_append] at n8
  refine Loop.up ws.length (fun s => s.1) (fun i st k => ∃ l, New h k ki t7 l ∧ ScriptP (xss.map List.length) l ∧ Alk (bdE s.1 bs.length xss) (evL p) (evL l)) rfl ⟨p, n8, hS, Alk.refl (bdE s.1 bs.length xss) _⟩ ?_
  rintro i ⟨i', u⟩ k go hi hcc ⟨l, nl, hl, ha⟩ hgo
  dsimp only at hcc; subst hcc
  have hll := nl.len
  have hl10 := ten hs.2.1 hs.2.2 hc hl
  have fin : Q t7 k := hQ t7 l k nl hl ha
  refine dcs (fun e => dcs (fun e2 => ⟨fun e3 => ?_, fun _ => fin⟩) (fun _ => ⟨fun q => (by cases q), fun _ => fin⟩)) (fun _ => ⟨fun q => (by cases q), fun _ => fin⟩)
  have e : (i : Int) < (w.len : Int) := e
  have e3 : (1 : Int) < (t7.len : Int) := of_decide_eq_true e3
  have hiw : i < ws.length := by omega
  have w1 := w64_up' (n := ws.length) hiw (by omega)
  refine ⟨⟨Int.natCast_nonneg i, e⟩, (hw.le nl.le).at (Int.natCast_nonneg i) e rfl fun x0 _ => ?_⟩
  have wl : w64 ((t7.len : Int) - 1) = ((t7.len - 1 : Nat) : Int) := by rw [w64_of (by omega) (by omega)]; omega
  rw [wl]
  refine im (mod22_spec (by omega) (by omega) fun rr h0 h1 => ?_)
  obtain ⟨j, rfl⟩ : ∃ j : Nat, rr = (j : Int) := ⟨rr.toNat, by omega⟩
  have hj1 : j + 1 < l.length := by omega
  obtain ⟨A, x, y, B, hl2, hA, hx, hy⟩ := two_split hj1
  refine ir (row22_spec (r.le nl.le) nl.arr (by omega) hx4 hl fun rw h23 n23 => ?_)
  have w2 : w64 ((j : Int) + 1) = ((j + 1 : Nat) : Int) := w64_up' (n := l.length) (by omega) (by omega)
  rw [w2]
  have hrl := n23.len
  rw [actsL_len] at hrl
  have nl23 := nl.more n23.le
  have hin := hl.1
  rw [List.length_map] at hin
  have xm : x ∈ l := List.mem_of_getElem? hx
  have ym : y ∈ l := List.mem_of_getElem? hy
  have hx0 := (hin x xm).1
  have hy0 := (hin y ym).1
  have keep : ∀ {k'}, le k k' → go (w64 ((i : Int) + 1), ()) k' := fun {k'} l' => hgo hiw _ _ w1 ⟨l, nl.more l', hl, ha⟩
  refine nl23.arr.twoK (Int.natCast_nonneg j) (by omega) (Int.natCast_nonneg _) (by omega) rfl fun x' y' hx' hy' => ?_
  rw [Int.toNat_natCast, hx] at hx'
  rw [Int.toNat_natCast, hy] at hy'
  obtain rfl := Option.some.inj hx'
  obtain rfl := Option.some.inj hy'
  refine dcs (fun z => ?_) (fun z => ⟨fun q => (by cases q), fun _ => keep n23.le⟩)
  have z : x ≠ y := z
  refine n23.arr.twoK (Int.natCast_nonneg j) (by omega) (Int.natCast_nonneg _) (by omega) rfl fun ax ay hax hay => ?_
  rw [Int.toNat_natCast, actsL_at (by omega)] at hax
  rw [Int.toNat_natCast, actsL_at (by omega)] at hay
  obtain rfl := Option.some.inj hax
  obtain rfl := Option.some.inj hay
  have tA : l.take j = A := by rw [hl2, ← hA]; exact List.take_left' rfl
  have tA1 : l.take (j + 1) = A ++ [x] := by
    rw [hl2, show A ++ x :: y :: B = (A ++ [x]) ++ y :: B from by simp]
    exact List.take_left' (by rw [List.length_append, hA]; rfl)
  have hex : (rowE xss l j).2.1 = actE xss (x, cnt A x.toNat) := by
    unfold rowE actE
    rw [hx, tA]; rfl
  have hey : (rowE xss l (j + 1)).2.1 = actE xss (y, cnt A y.toNat) := by
    unfold rowE actE
    rw [hy, tA1]
    dsimp only [Option.getD]
    have hz : cnt [x] y.toNat = 0 := by rw [cnt_one, if_neg (by omega)]
    rw [cnt_app, hz, Nat.add_zero]
  refine iD fun b hb => ?_
  unfold law22_swapped.j3
  simp only [w2]
  refine ⟨fun q => ?_, fun _ => keep n23.le⟩
  have hbf : b = false := by
    cases b with
    | false => rfl
    | true => cases q
  have hnd : bdE s.1 bs.length xss (x, cnt A x.toNat) (y, cnt A y.toNat) = false := by
    unfold bdE bdA
    refine decide_eq_false fun q => ?_
    rcases q with q | q
    · exact z q
    · have : b = true := hb.2 (by rw [hbg, hex, hey]; exact q)
      rw [hbf] at this; cases this
  refine nl23.arr.twoK (Int.natCast_nonneg _) (by omega) (Int.natCast_nonneg j) (by omega) rfl fun x' y' hx' hy' => ?_
  rw [Int.toNat_natCast, hy] at hx'
  rw [Int.toNat_natCast, hx] at hy'
  obtain rfl := Option.some.inj hx'
  obtain rfl := Option.some.inj hy'
  refine ⟨⟨Int.natCast_nonneg j, by omega⟩, nl23.set (Int.natCast_nonneg j) (by omega) rfl rfl fun h31 n31 x31 => ?_⟩
  refine ⟨⟨Int.natCast_nonneg _, by omega⟩, n31.set (Int.natCast_nonneg _) (by omega) rfl rfl fun h33 n33 x33 => ?_⟩
  rw [Int.toNat_natCast, Int.toNat_natCast] at n33
  have hsw : (l.set j y).set (j + 1) x = A ++ y :: x :: B := by rw [hl2, ← hA]; exact swap_set A B x y
  rw [hsw] at n33
  obtain ⟨rr, e1, e2⟩ := evL_swap (a := A) (b := B) hx0 hy0 z
  refine hgo hiw _ _ w1 ⟨_, n33, script_perm ?_ hl, Alk.trans (bdE s.1 bs.length xss) (script_nodup hS) ha ?_⟩
  · rw [hl2]
    exact (List.Perm.swap y x B).append_left A
  · rw [hl2, e1, e2]
    exact Alk.swap (bdE s.1 bs.length xss) _ hnd
theorem exploreSwaps_spec {s : Sc} {t w : Sl} {h0 : Heap} {bs ps ws : List Int} {xss : List (List Ac)} (r : ScR h0 s bs xss) (hs : Small bs xss) (hp : Arr h0 ki t ps) (hpn : ps.length ≤ 1048576) (hw : Arr h0 ki w ws) (hwn : ws.length ≤ 1048576) {Q : Bool → Heap → Prop} (hQ : ∀ h', le h0 h' → Q true h')
    {c1 : Sc → Heap → (Sc → Heap → Prop) → Prop} {c4 : Sc → Sl → Heap → (Sl → Heap → Prop) → Prop} {cw : Sc → Sl → Sl → Heap → (Sl → Heap → Prop) → Prop} {c5 : Sc → Sl → Sl → Heap → ((Bool × (Int × Unit)) → Heap → Prop) → Prop} {cR : Sc → Sl → Heap → ((Den kapiEnding × (Int × Unit)) → Heap → Prop) → Prop}
    {cF : Sc → Sl → Heap → ((Sl × (Int × Unit)) → Heap → Prop) → Prop} {c6 : Sc → Sl → Heap → (Den K2 → Heap → Prop) → Prop} {cE : Den kapiEnding → Den kapiEnding → Heap → (Bool → Heap → Prop) → Prop} {cL : Sl → Sl → Heap → (Bool → Heap → Prop) → Prop} {c7 : Heap → (Bool → Heap → Prop) → Prop}
    (i1 : ∀ {Q : Sc → Heap → Prop}, (∀ c bs' xss' h', le h0 h' → ScR h' c bs' xss' → FitP c.1 bs' xss' → Q c h') → c1 s h0 Q)
    (iS : ∀ {s : Sc} {h : Heap} {bs : List Int} {xss : List (List Ac)} {Q : Sl → Heap → Prop}, ScR h s bs xss → FitP s.1 bs xss → Arr h ki t ps → (∀ l qs h', New h h' ki l qs → ScriptP (xss.map List.length) qs → Q l h') → c4 s t h Q)
    (iW : ∀ {h : Heap} {s : Sc} {t w : Sl} {bs p ws : List Int} {xss : List (List Ac)} {Q : Sl → Heap → Prop}, ScR h s bs xss → FitP s.1 bs xss → Arr h ki t p → ScriptP (xss.map List.length) p → Arr h ki w ws → ws.length ≤ 1048576 → (∀ l q h', New h h' ki l q → ScriptP (xss.map List.length) q → Alk (bdE s.1 bs.length xss) (evL p) (evL q) → Q l h') → cw s t w h Q)
    (iA : ∀ {s : Sc} {t u : Sl} {h : Heap} {bs ps qs : List Int} {xss : List (List Ac)} {Q : (Bool × (Int × Unit)) → Heap → Prop}, ScR h s bs xss → Small bs xss → (Arr h ki t ps ∧ ps.length ≤ 1048576) → (Arr h ki u qs ∧ qs.length ≤ 1048576) → (∀ b e h', AlR s.1 bs.length xss ps qs b e → le h h' → Q (b, (e, ())) h') → c5 s t u h Q)
    (iR : ∀ {s : Sc} {t : Sl} {h : Heap} {bs ps : List Int} {xss : List (List Ac)} {Q : (Den kapiEnding × (Int × Unit)) → Heap → Prop}, ScR h s bs xss → Small bs xss → Arr h ki t ps → ps.length ≤ 1048576 → (∀ en e h', Rdy s.1 bs.length xss ps e → EndR h h' en (runP s.1 bs xss ps e) → Q (en, (e, ())) h') → cR s t h Q)
    (iF : ∀ {s : Sc} {t : Sl} {h : Heap} {bs ps : List Int} {xss : List (List Ac)} {Q : (Sl × (Int × Unit)) → Heap → Prop}, ScR h s bs xss → Small bs xss → Arr h ki t ps → ps.length ≤ 1048576 → (∀ o e h', Rdy s.1 bs.length xss ps e → FoR h h' o (foataP s.1 bs.length xss ps e) → Q (o, (e, ())) h') → cF s t h Q)
    (iK : ∀ {s : Sc} {t : Sl} {h : Heap} {bs ps : List Int} {xss : List (List Ac)} {Q : Den K2 → Heap → Prop}, ScR h s bs xss → Small bs xss → Arr h ki t ps → ps.length ≤ 1048576 → (∀ e h', Rdy s.1 bs.length xss ps e → le h h' → Q (kinP s.1 bs.length xss ps e, (e, ())) h') → c6 s t h Q)
    (iE : ∀ {a b : Den kapiEnding} {h : Heap} {ea eb : List Sl} {st : PlS} {h1 h2 : Heap} {Q : Bool → Heap → Prop}, Nest h1 h kapiEffect a.1 ea st.2 → New h1 h ki a.2.1 st.1 → Nest h2 h kapiEffect b.1 eb st.2 → New h2 h ki b.2.1 st.1 →
      (st.2.length ≤ 1048576 ∧ (∀ r ∈ st.2, r.length ≤ 1048576) ∧ st.1.length ≤ 1048576) → Q true h → cE a b h Q)
    (iL : ∀ {h h1 h2 : Heap} {a b : Sl} {ea eb : List Sl} {xss : List (List Int)} {Q : Bool → Heap → Prop}, Nest h1 h ki a ea xss → Nest h2 h ki b eb xss → xss.length ≤ 1048576 → (∀ xs ∈ xss, xs.length ≤ 1048576) → Q true h → cL a b h Q)
    (iT : ∀ {h : Heap} {Q : Bool → Heap → Prop}, (∀ h', le h h' → Q true h') → c7 h Q) :
    law22_ExploreSwaps.M c1 c4 cw c5 cR cF c6 cE cL c7 s t w h0 Q := by
  refine i1 fun c bs xss h1 l1 r1 f => ?_
  have hs := f.small
  have hc := f.ok
  have f0 := f
  obtain ⟨_, _, hz2, hx4, hsum, hbad⟩ := f
  refine iS r1 f0 (hp.le l1) fun sl p h2 n2 hS => ?_
  have hp10 := ten hs.2.1 hs.2.2 hc hS
  have l2 := n2.le
  refine iW (r1.le l2) f0 n2.arr hS (hw.le (l1.trans l2)) hwn fun sq q h3 n3 hSq ha => ?_
  have hq10 := ten hs.2.1 hs.2.2 hc hSq
  have l3 := n3.le
  have p3 := n2.arr.le l3
  have z0 : ∀ {q e}, ScriptP (xss.map List.length) q → Rdy c.1 bs.length xss q e → e = 0 := fun hS hr => (hr.2 hc).1 hS
  refine iA ((r1.le l2).le l3) hs ⟨p3, by omega⟩ ⟨n3.arr, by omega⟩ fun b e h4 al l4 => ?_
  obtain ⟨e0, hr0, al⟩ := al
  obtain rfl := z0 hS hr0
  rcases al with ⟨z, _⟩ | ⟨_, z, _⟩ | ⟨_, _, rfl, hb⟩
  · exact absurd rfl z
  · exact absurd hSq z
  obtain rfl : b = true := hb.2 ha
  have r4 := ((r1.le l2).le l3).le l4
  refine iR r4 hs (p3.le l4) (by omega) fun en1 e h5 hr eR1 => ?_
  obtain rfl := z0 hS hr
  have l5 := eR1.le
  refine iR (r4.le l5) hs (n3.arr.le (l4.trans l5)) (by omega) fun en2 e h6 hr2 eR2 => ?_
  obtain rfl := z0 hSq hr2
  have l6 := eR2.le
  refine iF ((r4.le l5).le l6) hs (p3.le ((l4.trans l5).trans l6)) (by omega) fun o1 e h7 hr3 f1 => ?_
  obtain rfl := z0 hS hr3
  obtain ⟨els1, f1⟩ := f1
  have l7 := f1.le
  refine iF (((r4.le l5).le l6).le l7) hs (n3.arr.le (((l4.trans l5).trans l6).trans l7)) (by omega) fun o2 e h8 hr4 f2 => ?_
  obtain rfl := z0 hSq hr4
  obtain ⟨els2, f2⟩ := f2
  have l8 := f2.le
  have l48 := (((l4.trans l5).trans l6).trans l7).trans l8
  have l13 : le h1 h3 := l2.trans l3
  refine iK (r1.le (l13.trans l48)) hs (p3.le l48) (by omega) fun e h9 hr5 l9 => ?_
  obtain rfl := z0 hS hr5
  refine iK (r1.le ((l13.trans l48).trans l9)) hs (n3.arr.le (l48.trans l9)) (by omega) fun e h10 hr6 l10 => ?_
  obtain rfl := z0 hSq hr6
  -- what they are
  have hrun : runP c.1 bs xss q 0 = runP c.1 bs xss p 0 := by
    unfold runP
    rw [if_pos rfl, if_pos rfl, play_alk hz2 hbad hS hSq ha]
  have hform : foataP c.1 bs.length xss q 0 = foataP c.1 bs.length xss p 0 := by
    unfold foataP
    rw [if_pos rfl, if_pos rfl]
    exact ((form_alk (sz := c.1) (len := bs.length) hS hSq).2 ha).symm
  have hkin : ∀ {u : List Int}, ScriptP (xss.map List.length) u → kinP c.1 bs.length xss u 0 = (((allS xss).filter (sameB c.1 bs.length xss u)).length : Int) := fun {u} hu => by
    unfold kinP; rw [if_pos rfl, kin_eq hu]
  have hsame : (allS xss).filter (sameB c.1 bs.length xss q) = (allS xss).filter (sameB c.1 bs.length xss p) := by
    refine List.filter_congr fun u hu => ?_
    have hu := allS_mem.1 hu
    have a1 := sameB_alk (sz := c.1) (len := bs.length) hS hu
    have a2 := sameB_alk (sz := c.1) (len := bs.length) hSq hu
    have s1 := Alk.symm (bdE c.1 bs.length xss) (bdE_sym c.1 bs.length xss) (script_nodup hS) ha
    have hiff : sameB c.1 bs.length xss q u = true ↔ sameB c.1 bs.length xss p u = true := by
      rw [a1, a2]
      exact ⟨fun z => Alk.trans (bdE c.1 bs.length xss) (script_nodup hS) ha z, fun z => Alk.trans (bdE c.1 bs.length xss) (script_nodup hSq) s1 z⟩
    exact Bool.eq_iff_iff.2 hiff
  have hk1 := hkin hS
  have hk2 := hkin hSq
  rw [hsame] at hk2
  have hkp := kin_pos (sz := c.1) (len := bs.length) hS
  rw [hrun] at eR2
  rw [hform] at f2
  obtain ⟨ea1, x1, x2, _⟩ := eR1
  obtain ⟨ea2, y1, y2, _⟩ := eR2
  have m610 : le h6 h10 := ((l7.trans l8).trans l9).trans l10
  have m510 : le h5 h10 := l6.trans m610
  have sm := runP_small hr (by omega) (by omega)
  have sf := foataP_small (len := bs.length) hs.2.1 hs.2.2 hr3
  refine dcs (fun z => absurd rfl z) (fun _ => dcs (fun z => absurd rfl z) (fun _ => dcs (fun z => absurd rfl z) (fun _ => dcs (fun z => absurd rfl z) (fun _ => dcs (fun z => absurd rfl z) (fun _ => dcs (fun z => absurd rfl z) (fun _ => ⟨fun z => (by cases z), fun _ => ?_⟩))))))
  refine ⟨fun _ => ?_, fun z => (by cases z)⟩
  refine iE (x1.more m510) (x2.more m510) (y1.more m610) (y2.more m610) sm ⟨fun _ => ?_, fun z => (by cases z)⟩
  refine iL (f1.more ((l8.trans l9).trans l10)) (f2.more (l9.trans l10)) sf.1 sf.2 ⟨fun _ => ?_, fun z => (by cases z)⟩
  refine dcs (fun _ => dcs (fun _ => iT fun h11 l11 => ?_) (fun z => absurd (show (1 : Int) ≤ kinP c.1 bs.length xss p 0 by rw [hk1]; omega) z)) (fun z => absurd (show kinP c.1 bs.length xss p 0 = kinP c.1 bs.length xss q 0 by rw [hk1, hk2]) z)
  exact hQ _ ((((l1.trans l13).trans l48).trans l9).trans (l10.trans l11))
end Go.Mx
