/-
  Chapter 22, outright: the law ExploreOnce; alike scripts end alike, effect by effect.
  Chapter 22, outright: the law ExploreSwaps.
-/
import Derived.Test.YtipihecaaakagaaMxYc
set_option linter.unusedVariables false
set_option linter.unusedSimpArgs false
set_option linter.unusedSectionVars false
namespace Go.Mx

theorem sum_take_le (l : List Nat) (i : Nat) : (l.take i).sum ≤ l.sum := by
  conv => rhs; rw [← List.take_append_drop i l, List.sum_append]
  omega

/-! ### alike scripts end alike, effect by effect -/
theorem Alk.cons {α : Type} (bd : α → α → Bool) {a : α} {es m : List α} (h : Alk bd es m) : Alk bd (a :: es) (a :: m) := ⟨[], es, rfl, fun f hf => (by cases hf), h⟩
theorem Alk.swap {α : Type} (bd : α → α → Bool) : ∀ (u : List α) {x y : α} {v : List α}, bd x y = false → Alk bd (u ++ x :: y :: v) (u ++ y :: x :: v)
  | [], x, y, v, h => ⟨[x], v, rfl, fun f hf => by rw [List.mem_singleton.1 hf]; exact h, ⟨[], v, rfl, fun f hf => (by cases hf), Alk.refl bd v⟩⟩
  | a :: u, x, y, v, h => Alk.cons bd (Alk.swap bd u h)
/-- Behind as many of each comes the same. -/
theorem evL_tail {A B : List Int} (h : ∀ w, cnt A w = cnt B w) : ∀ b : List Int, ∃ r, evL (A ++ b) = evL A ++ r ∧ evL (B ++ b) = evL B ++ r := fun b => by
  induction b using rev_ind with
  | nil => exact ⟨[], by simp, by simp⟩
  | append_singleton b z ih =>
    obtain ⟨r, h1, h2⟩ := ih
    refine ⟨r ++ [(z, cnt (A ++ b) z.toNat)], ?_, ?_⟩
    · rw [← List.append_assoc, evL_snoc, h1, List.append_assoc]
    · rw [← List.append_assoc, evL_snoc, h2, List.append_assoc, cnt_app, cnt_app, h]
theorem evL_swap {a b : List Int} {x y : Int} (hx : 0 ≤ x) (hy : 0 ≤ y) (hne : x ≠ y) : ∃ r, evL (a ++ x :: y :: b) = evL a ++ (x, cnt a x.toNat) :: (y, cnt a y.toNat) :: r ∧ evL (a ++ y :: x :: b) = evL a ++ (y, cnt a y.toNat) :: (x, cnt a x.toNat) :: r := by
  have two : ∀ {x y : Int}, 0 ≤ x → 0 ≤ y → x ≠ y → evL ((a ++ [x]) ++ [y]) = evL a ++ [(x, cnt a x.toNat), (y, cnt a y.toNat)] := fun {x y} hx hy hne => by
    have hz : cnt [x] y.toNat = 0 := by rw [cnt_one, if_neg (by omega)]
    rw [evL_snoc, evL_snoc, cnt_app, hz, Nat.add_zero, List.append_assoc]; rfl
  have hc : ∀ w, cnt ((a ++ [x]) ++ [y]) w = cnt ((a ++ [y]) ++ [x]) w := fun w => by rw [cnt_app, cnt_app, cnt_app, cnt_app]; omega
  obtain ⟨r, h1, h2⟩ := evL_tail hc b
  refine ⟨r, ?_, ?_⟩
  · rw [show a ++ x :: y :: b = ((a ++ [x]) ++ [y]) ++ b from by simp, h1, two hx hy hne, List.append_assoc]; rfl
  · rw [show a ++ y :: x :: b = ((a ++ [y]) ++ [x]) ++ b from by simp, h2, two hy hx (fun q => hne q.symm), List.append_assoc]; rfl
theorem script_perm {lens : List Nat} {p q : List Int} (h : p.Perm q) (hp : ScriptP lens p) : ScriptP lens q := ⟨fun x hx => hp.1 x (h.symm.subset hx), fun i l hl => by rw [← cnt_perm h]; exact hp.2 i l hl⟩

section
variable {sz : Int} {nb : Nat} {xss : List (List Ac)}
def endQ (sz : Int) (nb : Nat) (xss : List (List Ac)) (s : CellsOk sz nb × List (List Ef)) (e : Ev) : CellsOk sz nb × List (List Ef) :=
  if badE (actE xss e) = false ∧ 0 ≤ e.1 then (cellQ sz nb xss s.1 e, s.2.set e.1.toNat (((s.2[e.1.toNat]?).getD []) ++ [(actP sz s.1.1 (actE xss e)).1])) else s
theorem endQ_ok {s : CellsOk sz nb × List (List Ef)} {e : Ev} (h : badE (actE xss e) = false ∧ 0 ≤ e.1) : endQ sz nb xss s e = (cellQ sz nb xss s.1 e, s.2.set e.1.toNat (((s.2[e.1.toNat]?).getD []) ++ [(actP sz s.1.1 (actE xss e)).1])) := by unfold endQ; rw [if_pos h]
theorem endQ_no {s : CellsOk sz nb × List (List Ef)} {e : Ev} (h : ¬ (badE (actE xss e) = false ∧ 0 ≤ e.1)) : endQ sz nb xss s e = s := by unfold endQ; rw [if_neg h]
theorem bdE_ne {sz len : Int} {a b : Ev} (h : bdE sz len xss a b = false) : a.1 ≠ b.1 := fun q => by
  unfold bdE bdA at h
  exact of_decide_eq_false h (.inl q)
theorem endQ_comm (s : CellsOk sz nb × List (List Ef)) (a b : Ev) (h : bdE sz nb xss a b = false) : endQ sz nb xss (endQ sz nb xss s a) b = endQ sz nb xss (endQ sz nb xss s b) a := by
  by_cases ha : badE (actE xss a) = false ∧ 0 ≤ a.1
  · by_cases hb : badE (actE xss b) = false ∧ 0 ≤ b.1
    · have hne := bdE_ne h
      have hn : a.1.toNat ≠ b.1.toNat := by omega
      have h' : bdE sz nb xss b a = false := by rw [bdE_sym]; exact h
      have nd : ∀ {a b : Ev}, bdE sz nb xss a b = false → ¬ DepI sz nb (actE xss a).2.1 (actE xss a).2.2.1 (actE xss a).2.2.2.1 (actE xss b).2.1 (actE xss b).2.2.1 (actE xss b).2.2.2.1 := fun {a b} h q => by
        unfold bdE bdA at h
        exact of_decide_eq_false h (.inr q)
      have e1 := (act_comm (len := (nb : Int)) (Int.ofNat_le.2 s.1.2.1) s.1.2.2 ha.1 hb.1 (nd h)).1
      have e2 := (act_comm (len := (nb : Int)) (Int.ofNat_le.2 s.1.2.1) s.1.2.2 hb.1 ha.1 (nd h')).1
      rw [endQ_ok ha, endQ_ok hb, endQ_ok hb, endQ_ok ha]
      dsimp only
      rw [cellQ_ok ha.1, cellQ_ok hb.1, e1, e2]
      refine Prod.ext (cellQ_comm s.1 a b h) ?_
      dsimp only
      rw [List.getElem?_set_ne hn, List.getElem?_set_ne (fun q => hn q.symm), List.set_comm _ _ hn]
    · rw [endQ_no hb, endQ_no (s := s) hb]
  · rw [endQ_no ha, endQ_no (s := endQ sz nb xss s b) ha]
theorem play_full {bs : List Int} (h1 : nb ≤ bs.length) (h2 : (bs.length : Int) ≤ sz) : ∀ {ps : List Int}, InR xss.length ps → (∀ e ∈ evL ps, badE (actE xss e) = false) → playP sz bs xss ps = ((((evL ps).foldl (endQ sz nb xss) (⟨bs, h1, h2⟩, List.replicate xss.length [])).1.1), ((evL ps).foldl (endQ sz nb xss) (⟨bs, h1, h2⟩, List.replicate xss.length [])).2) := fun {ps} => by
  induction ps using rev_ind with
  | nil => intro _ _; rfl
  | append_singleton ps p ih =>
    intro hin hok
    have hin1 : InR xss.length ps := fun q hq => hin q (List.mem_append_left _ hq)
    have hp := hin p (by simp)
    rw [evL_snoc] at hok ⊢
    have ih := ih hin1 fun e he => hok e (List.mem_append_left _ he)
    have hb := hok (p, cnt ps p.toNat) (by simp)
    rw [List.foldl_append]
    simp only [List.foldl_cons, List.foldl_nil]
    rw [endQ_ok ⟨hb, hp.1⟩, cellQ_ok hb]
    have hpl : playP sz bs xss (ps ++ [p]) = stepP sz xss (playP sz bs xss ps) p := by unfold playP; rw [List.foldl_append]; rfl
    have hc := playP_cnt (sz := sz) (bs := bs) hin1 (i := p.toNat) (by omega)
    rw [hpl]
    unfold stepP actE
    dsimp only
    rw [hc, ih]
theorem play_alk {bs p q : List Int} (h2 : (bs.length : Int) ≤ sz) (hbad : badsE xss = false) (hp : ScriptP (xss.map List.length) p) (hq : ScriptP (xss.map List.length) q) (h : Alk (bdE sz bs.length xss) (evL p) (evL q)) : playP sz bs xss p = playP sz bs xss q := by
  have ok : ∀ {p : List Int}, ScriptP (xss.map List.length) p → InR xss.length p ∧ ∀ e ∈ evL p, badE (actE xss e) = false := fun {p} hp => by
    have hin := hp.1
    rw [List.length_map] at hin
    refine ⟨hin, fun e he => ?_⟩
    obtain ⟨e0, e1⟩ := (evL_mem (fun q hq => (hin q hq).1) e).1 he
    have hx : e.1.toNat < xss.length := by
      rcases Nat.lt_or_ge e.1.toNat xss.length with z | z
      · exact z
      · rw [cnt_none hin z] at e1; exact absurd e1 (Nat.not_lt_zero _)
    have hxx : xss[e.1.toNat]? = some xss[e.1.toNat] := by simp [hx]
    have hl := hp.2 e.1.toNat xss[e.1.toNat].length (by rw [List.getElem?_map, hxx]; rfl)
    have hlt : e.2 < xss[e.1.toNat].length := by omega
    have hy : xss[e.1.toNat][e.2]? = some (xss[e.1.toNat][e.2]) := List.getElem?_eq_getElem hlt
    have := bads_no hbad hxx hy
    unfold actE xAt
    rw [hxx]
    show badE ((xss[e.1.toNat][e.2]?).getD ac0) = false
    rw [hy]; exact this
  obtain ⟨a1, a2⟩ := ok hp
  obtain ⟨b1, b2⟩ := ok hq
  rw [play_full (nb := bs.length) (Nat.le_refl _) h2 a1 a2, play_full (nb := bs.length) (Nat.le_refl _) h2 b1 b2, Alk.fold (bdE sz bs.length xss) endQ_comm h]
end
end Go.Mx

namespace Go.Mx

def actsL (xss : List (List Ac)) (ps : List Int) (n : Nat) : List Ac := (List.range n).map fun j => (rowE xss ps j).2.1
theorem actsL_succ (xss : List (List Ac)) (ps : List Int) (n : Nat) : actsL xss ps (n + 1) = actsL xss ps n ++ [(rowE xss ps n).2.1] := by unfold actsL; rw [List.range_succ, List.map_append]; rfl
theorem actsL_len (xss : List (List Ac)) (ps : List Int) (n : Nat) : (actsL xss ps n).length = n := by simp [actsL]
theorem actsL_at {xss : List (List Ac)} {ps : List Int} {n j : Nat} (h : j < n) : (actsL xss ps n)[j]? = some (rowE xss ps j).2.1 := by
  unfold actsL
  rw [List.getElem?_map, List.getElem?_range h]; rfl
theorem row22_spec {h : Heap} {s : Sc} {t : Sl} {bs ps : List Int} {xss : List (List Ac)} (r : ScR h s bs xss) (hp : Arr h ki t ps) (hn : ps.length ≤ 1048576) (hx4 : xss.length ≤ 4) (hS : ScriptP (xss.map List.length) ps) {Q : Sl → Heap → Prop} (hQ : ∀ l h', New h h' kapiAct l (actsL xss ps ps.length) → Q l h') : law22_row.M s t h Q := by
  obtain ⟨size, bg, lsl, u0⟩ := s
  obtain ⟨r1, sls, r2, r3, r4⟩ := r
  dsimp only at r1 r2
  have hsl : lsl.len = xss.length := by rw [← r3, r2.1]
  have hpl := hp.1
  have hin := hS.1
  rw [List.length_map] at hin
  refine Loop.up ps.length (fun s => s.2.1) (fun j st k => New h k kapiAct st.1 (actsL xss ps j) ∧ ∀ i < 4, aget (n := 4) (a := ki) st.2.2.1.1 i = (cnt (ps.take j) i : Int)) rfl ⟨New.nil h _, fun i hi => by unfold aget; rw [dif_pos hi]; simp [cnt]⟩ ?_
  rintro j ⟨l, j', ⟨a, ua⟩, u⟩ k go hj hcc ⟨n, hI⟩ hgo
  dsimp only at hcc hI n; subst hcc
  have hnl := n.len
  rw [actsL_len] at hnl
  refine ⟨fun e => ?_, fun e => ?_⟩
  · have e : (j : Int) < (t.len : Int) := of_decide_eq_true e
    have hjt : j < ps.length := by omega
    obtain ⟨i, hi⟩ : ∃ i : Nat, ps[j] = (i : Int) := ⟨ps[j].toNat, by have := (hin ps[j] (by simp)).1; omega⟩
    have hil : i < xss.length := by have := (hin ps[j] (by simp)).2; omega
    have hrm := hS.room hjt hi (m := xss[i].length) (by simp [hil])
    have hcm := cnt_le ps j i
    have hsi : sls[i]? = some (sls[i]'(by omega)) := by simp
    have hxi : xss[i]? = some xss[i] := by simp
    have hxr := r4 i _ _ hsi hxi
    have hxl := hxr.1
    have hb0 : (0 : Int) ≤ (j : Int) := by omega
    refine ⟨⟨hb0, e⟩, (hp.le n.le).at hb0 e rfl fun p hp' => ?_⟩
    obtain rfl : ps[j] = p := by simpa [hjt] using hp'
    rw [hi]
    have hb4 : (0 : Int) ≤ (i : Int) ∧ (i : Int) < (4 : Int) := by omega
    have hbL : (0 : Int) ≤ (i : Int) ∧ (i : Int) < (lsl.len : Int) := by omega
    refine ⟨hb4, hbL, (r2.le n.le).at hbL.1 hbL.2 rfl fun sl hsl' => ?_⟩
    rw [Int.toNat_natCast, hsi] at hsl'
    obtain rfl := Option.some.inj hsl'
    have hcell : aget (n := 4) (a := ki) a ((i : Int)).toNat = (cnt (ps.take j) i : Int) := by rw [Int.toNat_natCast, hI i (by omega)]
    dsimp only
    rw [hcell]
    have hbX : (0 : Int) ≤ ((cnt (ps.take j) i : Nat) : Int) ∧ ((cnt (ps.take j) i : Nat) : Int) < ((sls[i]'(by omega)).len : Int) := by omega
    refine ⟨hbX, (hxr.le n.le).at hbX.1 hbX.2 rfl fun x hx => ?_⟩
    rw [Int.toNat_natCast] at hx
    refine n.app rfl rfl (by omega) fun t2 h2 n2 => ⟨hb4, hb4, ?_⟩
    refine hgo hjt _ _ (w64_up' (n := ps.length) hjt (by omega)) ⟨?_, fun i' hi' => ?_⟩
    · rw [actsL_succ]
      have : rowE xss ps j = ((i : Int), (x, ())) := by
        unfold rowE
        rw [List.getElem?_eq_getElem hjt]
        dsimp only [Option.getD]
        rw [hi, Int.toNat_natCast]
        unfold xAt
        rw [hxi]
        dsimp only [Option.getD]
        rw [hx]
      rw [this]
      exact n2
    · dsimp only
      rw [Int.toNat_natCast, aget_set hi', take_succ' ps hjt, cnt_app, cnt_one]
      by_cases c : i' = i
      · subst c
        rw [if_pos rfl, if_pos hi]
        show w64 ((cnt (ps.take j) i' : Int) + 1) = ((cnt (ps.take j) i' + 1 : Nat) : Int)
        rw [w64_of] <;> omega
      · rw [if_neg c, if_neg (by omega), hI i' hi']
        rfl
  · have e : ¬ (j : Int) < (t.len : Int) := of_decide_eq_false e
    obtain rfl : j = ps.length := by omega
    exact hQ l k n

/-- Two elements are read. -/
theorem Arr.twoK {h : Heap} {k : Kd} {s : Sl} {xs : List (Den k)} (c : Arr h k s xs) {i j : Int} (i0 : 0 ≤ i) (i1 : i < (s.len : Int)) (j0 : 0 ≤ j) (j1 : j < (s.len : Int)) {sz : Nat} (hsz : sz = k.size) {K : Den k → Den k → Prop} (hK : ∀ x y, xs[i.toNat]? = some x → xs[j.toNat]? = some y → K x y) :
    (0 ≤ i ∧ i < (s.len : Int)) ∧ deref s.a fun a => (0 ≤ j ∧ j < (s.len : Int)) ∧ deref s.a fun b => ld k h (a.add (i.toNat * sz)) fun x => ld k h (b.add (j.toNat * sz)) fun y => K x y := by
  refine ⟨⟨i0, i1⟩, ?_⟩
  have q1 := c.at (K := fun x => xs[i.toNat]? = some x) i0 i1 (sz := sz) hsz fun x hx => hx
  have q2 := c.at (K := fun x => xs[j.toNat]? = some x) j0 j1 (sz := sz) hsz fun x hx => hx
  revert q1 q2
  cases s.a with
  | none => intro q1; exact q1.elim
  | some a =>
    intro ⟨x, a1, a2⟩ ⟨y, b1, b2⟩
    exact ⟨⟨j0, j1⟩, x, a1, y, b1, hK x y a2 b2⟩

theorem two_split {l : List Int} {i : Nat} (h : i + 1 < l.length) : ∃ A x y B, l = A ++ x :: y :: B ∧ A.length = i ∧ l[i]? = some x ∧ l[i + 1]? = some y := by
  refine ⟨l.take i, l[i], l[i + 1], l.drop (i + 2), ?_, by rw [List.length_take]; omega, List.getElem?_eq_getElem (by omega), List.getElem?_eq_getElem h⟩
  conv => lhs; rw [← List.take_append_drop i l, List.drop_eq_getElem_cons (by omega), List.drop_eq_getElem_cons h]
theorem swap_set (A B : List Int) (x y : Int) : ((A ++ x :: y :: B).set A.length y).set (A.length + 1) x = A ++ y :: x :: B := by
  rw [List.set_append_right _ _ (by omega), List.set_append_right _ _ (by omega)]
  simp
end Go.Mx
