/-
  hist.Order: the search.
-/
import Derived.Test.YtanfmmcpjifgiaaMxHb
set_option linter.unusedVariables false
set_option linter.unusedSimpArgs false
namespace Go.Mx

/-! ### maps -/
def getL (kk : Kd) {β : Type} (l : List (Den kk × β)) (key : Den kk) : Option β := (fi kk key l 0).map (·.2)
theorem fi_shift {kk : Kd} {β : Type} {key : Den kk} : ∀ (l : List (Den kk × β)) (i : Nat), fi kk key l (i + 1) = (fi kk key l i).map fun p => (p.1 + 1, p.2)
  | [], i => rfl
  | p :: l, i => by
    simp only [fi]
    cases eqK kk key p.1
    · exact fi_shift l (i + 1)
    · rfl
theorem getL_cons {kk : Kd} {β : Type} {key : Den kk} (p : Den kk × β) (l : List (Den kk × β)) : getL kk (p :: l) key = bif eqK kk key p.1 then some p.2 else getL kk l key := by
  unfold getL
  simp only [fi]
  cases eqK kk key p.1
  · simp only [cond_false]
    rw [fi_shift, Option.map_map]; rfl
  · rfl
theorem getL_put {kk : Kd} (hq : ∀ x y : Den kk, eqK kk x y = true ↔ x = y) {β : Type} (key : Den kk) (v : β) (k' : Den kk) : ∀ (l : List (Den kk × β)), getL kk (mapPutL kk l key v) k' = bif eqK kk k' key then some v else getL kk l k'
  | [] => by
    show getL kk [(key, v)] k' = _
    rw [getL_cons]
  | p :: l => by
    have ih := getL_put hq key v k' l
    unfold mapPutL at ih ⊢
    simp only [fi]
    cases e : eqK kk key p.1
    · simp only [cond_false]
      rw [fi_shift]
      cases f : fi kk key l 0 with
      | none =>
        rw [f] at ih
        dsimp only [Option.map] at ih ⊢
        rw [List.cons_append, getL_cons, ih, getL_cons]
        cases e1 : eqK kk k' p.1
        · rfl
        · cases e2 : eqK kk k' key
          · rfl
          · have h1 := (hq k' p.1).1 e1
            have h2 := (hq k' key).1 e2
            rw [(hq key p.1).2 (h2.symm.trans h1)] at e; cases e
      | some q =>
        rw [f] at ih
        dsimp only [Option.map] at ih ⊢
        rw [List.set_cons_succ, getL_cons, ih, getL_cons]
        cases e1 : eqK kk k' p.1
        · rfl
        · cases e2 : eqK kk k' key
          · rfl
          · have h1 := (hq k' p.1).1 e1
            have h2 := (hq k' key).1 e2
            rw [(hq key p.1).2 (h2.symm.trans h1)] at e; cases e
    · simp only [cond_true]
      rw [List.set_cons_zero, getL_cons, getL_cons]
      have h1 := (hq key p.1).1 e
      show (bif eqK kk k' key then some v else getL kk l k') = _
      rw [← h1]
      cases eqK kk k' key <;> rfl

abbrev kt4 : Kd := .arr 4 ki
theorem eq_kt4 (x y : Den kt4) : eqK kt4 x y = true ↔ x = y := by
  constructor
  · intro h
    simp only [eqK, List.all_eq_true, List.mem_finRange, true_implies] at h
    exact funext fun i => of_decide_eq_true (h i)
  · rintro rfl
    simp [eqK]

/-- What is taken, as the program writes it. -/
def tk (t : Nat → Nat) : Den kt4 := fun i => (t i.val : Int)
theorem tk_at (t : Nat → Nat) {w : Nat} (h : w < 4) : aget (n := 4) (a := ki) (tk t) w = (t w : Int) := by
  unfold aget; rw [dif_pos h]; rfl
theorem tk_bump (t : Nat → Nat) {w : Nat} (h : w < 4) (hb : t w ≤ 1000000) : aset (n := 4) (a := ki) (tk t) w (w64 (aget (n := 4) (a := ki) (tk t) w + 1)) = tk (bump t w) := by
  funext i
  unfold aset
  rw [tk_at t h]
  by_cases e : i.val = w
  · rw [if_pos e]
    show w64 ((t w : Int) + 1) = ((bump t w i.val : Nat) : Int)
    rw [e, bump_self, w64_of (by omega) (by omega)]
    omega
  · rw [if_neg e]
    unfold tk
    rw [bump_ne t e]
theorem tk_inj {t t' : Nat → Nat} (h : tk t = tk t') {w : Nat} (hw : w < 4) : t w = t' w := by
  have := congrFun h ⟨w, hw⟩
  unfold tk at this
  dsimp only at this
  exact Int.ofNat.inj this
theorem Rch.out {cs most t xs} (h : Rch cs most t xs) {w : Nat} (hw : 4 ≤ w) : t w = 0 := by
  obtain ⟨is, hW⟩ := h
  refine hW.inv (P := fun _ t _ => t w = 0) (fun pre t xs w' i c hp hs => ?_) [] rfl
  rw [bump_ne t (by have := hs.1; omega)]; exact hp
theorem Rch.same {cs most t xs t' xs'} (a : Rch cs most t xs) (b : Rch cs most t' xs') (h : tk t = tk t') : t = t' := by
  funext w
  by_cases hw : w < 4
  · exact tk_inj h hw
  · rw [a.out (by omega), b.out (by omega)]
theorem Rch.fits {cs most t xs} (a : Rch cs most t xs) : sum4 t ≤ cs.length ∧ ∀ w, t w ≤ (byL cs w).length := by
  obtain ⟨is, h⟩ := a
  exact ⟨h.fits.sum, h.fits.le⟩
theorem Rch.len {cs most t xs} (a : Rch cs most t xs) : xs.length ≤ cs.length := by
  obtain ⟨is, h⟩ := a
  have h1 := h.inv (P := fun pre t xs => xs.length ≤ pre.length ∧ True) (fun pre t xs w i c hp hs => ⟨by
    have := doL_len1 xs c most
    rw [List.length_append]
    show _ ≤ _ + 1
    omega, trivial⟩) [] ⟨Nat.le_refl _, trivial⟩
  have h2 := h.fits
  have := h2.sum
  have := h2.len
  have := h1.1
  rw [List.nil_append] at this
  omega
theorem Rch.step {cs most t xs w i c} (a : Rch cs most t xs) (s : Sx cs most t xs w i c) : Rch cs most (bump t w) (doL xs c most).1 := by
  obtain ⟨is, h⟩ := a
  exact ⟨_, h.snoc s⟩
def Met (ml : List (Den kt4 × Int)) (t : Nat → Nat) : Prop := 0 < (getL kt4 ml (tk t)).getD 0
theorem met_put (ml : List (Den kt4 × Int)) (t t' : Nat → Nat) : Met (mapPutL kt4 ml (tk t) 1) t' ↔ tk t' = tk t ∨ Met ml t' := by
  unfold Met
  rw [getL_put eq_kt4]
  cases e : eqK kt4 (tk t') (tk t)
  · have : tk t' ≠ tk t := fun h => by rw [(eq_kt4 _ _).2 h] at e; cases e
    simp [this]
  · have : tk t' = tk t := (eq_kt4 _ _).1 e
    simp [this]

/-! ### the search's object -/
theorem Arr.lives {h : Heap} {k : Kd} {s : Sl} {xs : List (Den k)} (c : Arr h k s xs) (hx : xs ≠ []) (hs : k.size ≠ 0) {x : Nat} (hb : blkOf s x) : h x ≠ none := by
  obtain ⟨a, n, m⟩ := s
  obtain ⟨a', e, rfl⟩ := hb
  cases e
  have c3 : cellsAt h a' (xs.flatMap k.cells) := c.2.2
  intro hn
  have hl : 0 < (xs.flatMap k.cells).length := by
    rw [flat_len]
    exact Nat.mul_pos (List.length_pos_iff.2 hx) (Nat.pos_of_ne_zero hs)
  have := c3 0 _ (List.getElem?_eq_getElem hl)
  unfold cell at this
  rw [show (a'.add 0).block = a'.block from rfl, hn] at this
  cases this
def fpQ (b m : Nat) (o : Sl) : Nat → Prop := fun x => x = b ∨ x = m ∨ blkOf o x
/-- A list that the search does not touch. -/
structure Calm (h : Heap) (b m : Nat) (o : Sl) (k : Kd) (s : Sl) (xs : List (Den k)) : Prop where
  arr : Arr h k s xs
  off : xs ≠ [] → ∀ x, blkOf s x → ¬ fpQ b m o x
theorem Calm.keep {h h' b m o o' k s xs} (c : Calm h b m o k s xs) (hs : k.size ≠ 0) (st : Step (fpQ b m o) (fpQ b m o') h h') : Calm h' b m o' k s xs :=
  ⟨c.arr.ext' st.1 c.off, fun hx => st.off (c.off hx) (fun x q => c.arr.lives hx hs q)⟩
structure SrR (h0 h : Heap) (b m : Nat) (calls : Sl) (most : Int) (by' : Fin 4 → Sl) (o : Sl) (cs : List Cl) (ml : List (Den kt4 × Int)) (os : List Int) : Prop where
  obj : Obj h b khistsearch (calls, (most, (by', (some m, (o, ())))))
  map : MapIs h m kt4 ki ml
  ord : New h0 h ki o os
  ne : m ≠ b
  nb : h0 b = none
  nm : h0 m = none
  ob : ¬ blkOf o b
  om : ¬ blkOf o m
  cal : Calm h b m o kapiCall calls cs
  bys : ∀ w, w < 4 → Calm h b m o ki (aget (n := 4) (a := .sl) by' w) (iL (byL cs w))

section
variable {h0 h : Heap} {b m : Nat} {calls : Sl} {most : Int} {by' : Fin 4 → Sl} {o : Sl} {cs : List Cl} {ml : List (Den kt4 × Int)} {os : List Int} (r : SrR h0 h b m calls most by' o cs ml os)
include r
theorem SrR.ld0 {K : Sl → Prop} (hK : K calls) : ld .sl h ((ptr b).add 0) K := r.obj.ld (kf := .sl) ⟨[], _, rfl, rfl⟩ hK
theorem SrR.ld1 {K : Int → Prop} (hK : K most) : ld ki h ((ptr b).add 1) K := r.obj.ld (kf := ki) (y := most) ⟨[calls.val], _, rfl, rfl⟩ hK
theorem SrR.ld2 {K : (Fin 4 → Sl) → Prop} (hK : K by') : ld (.arr 4 .sl) h ((ptr b).add 2) K := r.obj.ld (kf := .arr 4 .sl) (y := by') ⟨[calls.val, .int .i64 most], [.map (some m), o.val], by simp [Kd.cells, Kd.val], rfl⟩ hK
theorem SrR.ld6 {K : Option Nat → Prop} (hK : K (some m)) : ld .map h ((ptr b).add 6) K := r.obj.ld (kf := .map) (y := some m) ⟨[calls.val, .int .i64 most, (by' 0).val, (by' 1).val, (by' 2).val, (by' 3).val], [o.val], rfl, rfl⟩ hK
theorem SrR.ld7 {K : Sl → Prop} (hK : K o) : ld .sl h ((ptr b).add 7) K := r.obj.ld (kf := .sl) (y := o) ⟨[calls.val, .int .i64 most, (by' 0).val, (by' 1).val, (by' 2).val, (by' 3).val, .map (some m)], [], rfl, rfl⟩ hK
theorem SrR.live {x : Nat} (hx : fpQ b m o x) : h x ≠ none := by
  rcases hx with rfl | rfl | hx
  · exact r.obj.live
  · obtain ⟨es, c, e, _⟩ := r.map
    rw [e]; exact fun q => by cases q
  · exact r.ord.own.live x hx
theorem SrR.le : le h0 h := r.ord.le
theorem SrR.fresh {x : Nat} (hx : fpQ b m o x) : h0 x = none := by
  rcases hx with rfl | rfl | hx
  · exact r.nb
  · exact r.nm
  · exact r.ord.new x hx
/-- Nothing that the search stands on was touched. -/
theorem SrR.more {h' : Heap} (l : Go.Mx.le h h') : SrR h0 h' b m calls most by' o cs ml os :=
  ⟨r.obj.le l, by obtain ⟨es, c, e, f⟩ := r.map; exact ⟨es, c, l _ _ e, f⟩, r.ord.more l, r.ne, r.nb, r.nm, r.ob, r.om, ⟨r.cal.arr.le l, r.cal.off⟩, fun w hw => ⟨(r.bys w hw).arr.le l, (r.bys w hw).off⟩⟩

theorem done_spec {t : Nat → Nat} (hf : ∀ w, t w ≤ (byL cs w).length) (hl : cs.length ≤ 40) {Q : Bool → Heap → Prop} (hQ : ∀ d : Bool, (d = true ↔ DoneS cs t) → Q d h) : hist_search_done.M (some (ptr b)) (tk t) h Q := by
  refine r.ld2 ?_
  refine Loop.up 4 (fun s => s.1) (fun w s k => k = h ∧ ∀ w' n i x, w' < w → t w' ≤ n → (byL cs w')[n]? = some i → cs[i]? = some x → cCode x = 0) rfl ⟨rfl, fun w' n i x hw => absurd hw (Nat.not_lt_zero _)⟩ ?_
  rintro w ⟨w', u⟩ k go hw hc ⟨rfl, hI⟩ hgo
  dsimp only at hc; subst hc
  refine ⟨fun e => ?_, fun e => ?_⟩
  · have e : (w : Int) < 4 := of_decide_eq_true e
    have hw4 : w < 4 := by omega
    have hb4 : (0 : Int) ≤ (w : Int) ∧ (w : Int) < (4 : Int) := by omega
    have hby := r.bys w hw4
    have hlen : (iL (byL cs w)).length = (aget (n := 4) (a := .sl) by' w).len := hby.arr.1
    have hlen' : (byL cs w).length = (aget (n := 4) (a := .sl) by' w).len := by rw [← hlen]; simp [iL]
    have hfw := hf w
    have hbl := byL_len cs w
    dsimp only
    rw [Int.toNat_natCast, tk_at t hw4]
    have hbt : (0 : Int) ≤ (t w : Int) ∧ (t w : Int) ≤ ((aget (n := 4) (a := .sl) by' w).len : Int) := by omega
    refine ⟨hb4, hb4, hbt, ?_⟩
    have hsuf := hby.arr.suf (n := t w) (by omega) (sz := 1) rfl
    have hsl := hsuf.1
    rw [List.length_drop, hlen] at hsl
    refine Loop.up ((aget (n := 4) (a := .sl) by' w).len - t w) (fun s => s.1) (fun n s k' => k' = k ∧ ∀ n' i x, n' < n → (byL cs w)[t w + n']? = some i → cs[i]? = some x → cCode x = 0) rfl ⟨rfl, fun n' i x hn => absurd hn (Nat.not_lt_zero _)⟩ ?_
    rintro n ⟨n', u2⟩ k2 go2 hn hc ⟨rfl, hJ⟩ hgo2
    dsimp only at hc; subst hc
    unfold hist_search_done.l1
    dsimp only
    rw [Int.toNat_natCast, tk_at t hw4, Int.toNat_natCast]
    refine ⟨fun f => ?_, fun f => ?_⟩
    · have f : (n : Int) < ((((aget (n := 4) (a := .sl) by' w).cut (t w) (aget (n := 4) (a := .sl) by' w).len 1).len : Nat) : Int) := of_decide_eq_true f
      have hbn : (0 : Int) ≤ (n : Int) := by omega
      refine ⟨⟨hbn, f⟩, hsuf.at hbn f rfl fun v hv => ?_⟩
      rw [Int.toNat_natCast, List.getElem?_drop] at hv
      obtain ⟨i, hi, rfl⟩ := iL_at.1 hv
      obtain ⟨x, hx, _⟩ := byL_at hi
      have hil := (List.getElem?_eq_some_iff.1 hx).1
      have hcl : cs.length = calls.len := r.cal.arr.1
      have hbi : (0 : Int) ≤ (i : Int) ∧ (i : Int) < (calls.len : Int) := by omega
      refine r.ld0 ⟨hbi, r.cal.arr.part (kp := ki) (f := fun c => cCode c) hbi.1 hbi.2 rfl (fun c => ⟨[.int .i64 c.1, .int .i64 c.2.1, .int .i64 c.2.2.1, .int .i64 c.2.2.2.1, .int .i64 c.2.2.2.2.1], [.int .i64 c.2.2.2.2.2.2.1], rfl, rfl⟩) fun c hc' => ?_⟩
      rw [Int.toNat_natCast, hx] at hc'; cases hc'
      refine ⟨fun g => ?_, fun g => ?_⟩
      · have g : cCode x ≠ 0 := of_decide_eq_true g
        exact hQ false ⟨fun q => (by cases q), fun q => absurd (q w (t w + n) i x hw4 (by omega) hi hx) g⟩
      · have g : ¬ cCode x ≠ 0 := of_decide_eq_false g
        have g : cCode x = 0 := Decidable.byContradiction g
        refine hgo2 (by omega) _ _ (by show w64 ((n : Int) + 1) = _; rw [w64_of] <;> omega) ⟨rfl, fun n' i' x' hn' hi' hx' => ?_⟩
        by_cases q : n' = n
        · subst q; rw [hi] at hi'; cases hi'; rw [hx] at hx'; cases hx'; exact g
        · exact hJ n' i' x' (by omega) hi' hx'
    · have f : ¬ (n : Int) < ((((aget (n := 4) (a := .sl) by' w).cut (t w) (aget (n := 4) (a := .sl) by' w).len 1).len : Nat) : Int) := of_decide_eq_false f
      refine hgo hw4 _ _ (by show w64 ((w : Int) + 1) = _; rw [w64_of] <;> omega) ⟨rfl, fun w' n' i x hw' q1 q2 q3 => ?_⟩
      by_cases q : w' = w
      · subst q
        refine hJ (n' - t w') i x ?_ (by rw [show t w' + (n' - t w') = n' from by omega]; exact q2) q3
        have := (List.getElem?_eq_some_iff.1 q2).1
        omega
      · exact hI w' n' i x (by omega) q1 q2 q3
  · have e : ¬ (w : Int) < 4 := of_decide_eq_false e
    exact hQ true ⟨fun _ w' n i x q1 q2 q3 q4 => hI w' n i x (by omega) q2 q3 q4, fun _ => rfl⟩

theorem waits_spec {t : Nat → Nat} (hf : ∀ w, t w ≤ (byL cs w).length) (hl : cs.length ≤ 40) (c : Cl) {Q : Bool → Heap → Prop} (hQ : ∀ d : Bool, (d = true ↔ Wait cs t c) → Q d h) : hist_search_waits.M (some (ptr b)) (tk t) c h Q := by
  refine r.ld2 ?_
  refine Loop.up 4 (fun s => s.1) (fun w s k => k = h ∧ ∀ w' n i x, w' < w → t w' ≤ n → (byL cs w')[n]? = some i → cs[i]? = some x → ¬ (cCode x ≠ 0 ∧ cEn x < cBg c)) rfl ⟨rfl, fun w' n i x hw => absurd hw (Nat.not_lt_zero _)⟩ ?_
  rintro w ⟨w', u⟩ k go hw hc ⟨rfl, hI⟩ hgo
  dsimp only at hc; subst hc
  refine ⟨fun e => ?_, fun e => ?_⟩
  · have e : (w : Int) < 4 := of_decide_eq_true e
    have hw4 : w < 4 := by omega
    have hb4 : (0 : Int) ≤ (w : Int) ∧ (w : Int) < (4 : Int) := by omega
    have hby := r.bys w hw4
    have hlen : (iL (byL cs w)).length = (aget (n := 4) (a := .sl) by' w).len := hby.arr.1
    have hlen' : (byL cs w).length = (aget (n := 4) (a := .sl) by' w).len := by rw [← hlen]; simp [iL]
    have hfw := hf w
    have hbl := byL_len cs w
    dsimp only
    rw [Int.toNat_natCast, tk_at t hw4]
    have hbt : (0 : Int) ≤ (t w : Int) ∧ (t w : Int) ≤ ((aget (n := 4) (a := .sl) by' w).len : Int) := by omega
    refine ⟨hb4, hb4, hbt, ?_⟩
    have hsuf := hby.arr.suf (n := t w) (by omega) (sz := 1) rfl
    have hsl := hsuf.1
    rw [List.length_drop, hlen] at hsl
    refine Loop.up ((aget (n := 4) (a := .sl) by' w).len - t w) (fun s => s.1) (fun n s k' => k' = k ∧ ∀ n' i x, n' < n → (byL cs w)[t w + n']? = some i → cs[i]? = some x → ¬ (cCode x ≠ 0 ∧ cEn x < cBg c)) rfl ⟨rfl, fun n' i x hn => absurd hn (Nat.not_lt_zero _)⟩ ?_
    rintro n ⟨n', u2⟩ k2 go2 hn hc ⟨rfl, hJ⟩ hgo2
    dsimp only at hc; subst hc
    unfold hist_search_waits.l3
    dsimp only
    rw [Int.toNat_natCast, tk_at t hw4, Int.toNat_natCast]
    refine ⟨fun f => ?_, fun f => ?_⟩
    · have f : (n : Int) < ((((aget (n := 4) (a := .sl) by' w).cut (t w) (aget (n := 4) (a := .sl) by' w).len 1).len : Nat) : Int) := of_decide_eq_true f
      have hbn : (0 : Int) ≤ (n : Int) := by omega
      refine ⟨⟨hbn, f⟩, hsuf.at hbn f rfl fun v hv => ?_⟩
      rw [Int.toNat_natCast, List.getElem?_drop] at hv
      obtain ⟨i, hi, rfl⟩ := iL_at.1 hv
      obtain ⟨x, hx, _⟩ := byL_at hi
      have hil := (List.getElem?_eq_some_iff.1 hx).1
      have hcl : cs.length = calls.len := r.cal.arr.1
      have hbi : (0 : Int) ≤ (i : Int) ∧ (i : Int) < (calls.len : Int) := by omega
      refine r.ld0 ⟨hbi, r.cal.arr.at hbi.1 hbi.2 rfl fun c' hc' => ?_⟩
      rw [Int.toNat_natCast, hx] at hc'; cases hc'
      have nxt : ¬ (cCode x ≠ 0 ∧ cEn x < cBg c) → go2 (w64 ((n : Int) + 1), ()) k2 := fun g => by
        refine hgo2 (by omega) _ _ (by show w64 ((n : Int) + 1) = _; rw [w64_of] <;> omega) ⟨rfl, fun n' i' x' hn' hi' hx' => ?_⟩
        by_cases q : n' = n
        · subst q; rw [hi] at hi'; cases hi'; rw [hx] at hx'; cases hx'; exact g
        · exact hJ n' i' x' (by omega) hi' hx'
      refine ⟨fun g => ⟨fun g2 => ?_, fun g2 => ?_⟩, fun g => ⟨fun g2 => (by cases g2), fun _ => ?_⟩⟩
      · have g : cCode x ≠ 0 := of_decide_eq_true g
        have g2 : cEn x < cBg c := of_decide_eq_true g2
        exact hQ true ⟨fun _ => ⟨w, t w + n, i, x, hw4, by omega, hi, hx, g, g2⟩, fun _ => rfl⟩
      · have g2 : ¬ cEn x < cBg c := of_decide_eq_false g2
        exact nxt fun q => g2 q.2
      · have g : ¬ cCode x ≠ 0 := of_decide_eq_false g
        exact nxt fun q => g q.1
    · have f : ¬ (n : Int) < ((((aget (n := 4) (a := .sl) by' w).cut (t w) (aget (n := 4) (a := .sl) by' w).len 1).len : Nat) : Int) := of_decide_eq_false f
      refine hgo hw4 _ _ (by show w64 ((w : Int) + 1) = _; rw [w64_of] <;> omega) ⟨rfl, fun w' n' i x hw' q1 q2 q3 => ?_⟩
      by_cases q : w' = w
      · subst q
        refine hJ (n' - t w') i x ?_ (by rw [show t w' + (n' - t w') = n' from by omega]; exact q2) q3
        have := (List.getElem?_eq_some_iff.1 q2).1
        omega
      · exact hI w' n' i x (by omega) q1 q2 q3
  · have e : ¬ (w : Int) < 4 := of_decide_eq_false e
    refine hQ false ⟨fun q => (by cases q), ?_⟩
    rintro ⟨w', n, i, x, q1, q2, q3, q4, q5, q6⟩
    exact absurd ⟨q5, q6⟩ (hI w' n i x (by omega) q2 q3 q4)
end

end Go.Mx
