/-
  hist.Order, whole.
-/
import Derived.Test.YtanfmmcpjifgiaaMxHd
set_option linter.unusedVariables false
set_option linter.unusedSimpArgs false
namespace Go.Mx

def HasO (cs : List Cl) (most : Int) : Prop := ∃ os, LegalL cs most os
/-- The error that Order tells. -/
def ErrO (cs : List Cl) (most : Int) (e : Int) : Prop :=
  (40 < cs.length ∧ e = 2) ∨ (¬ 40 < cs.length ∧ ¬ (1 ≤ most ∧ most ≤ 4096) ∧ e = 3) ∨ (¬ 40 < cs.length ∧ (1 ≤ most ∧ most ≤ 4096) ∧ ¬ HistN cs cs.length ∧ e = 40) ∨
  (¬ 40 < cs.length ∧ (1 ≤ most ∧ most ≤ 4096) ∧ HistN cs cs.length ∧ ¬ HasO cs most ∧ e = 41) ∨ (¬ 40 < cs.length ∧ (1 ≤ most ∧ most ≤ 4096) ∧ HistN cs cs.length ∧ HasO cs most ∧ e = 0)
theorem ErrO.one {cs : List Cl} {most e e' : Int} (a : ErrO cs most e) (b : ErrO cs most e') : e = e' := by
  rcases a with ⟨a1, a2⟩ | ⟨a1, a2, a3⟩ | ⟨a1, a2, a3, a4⟩ | ⟨a1, a2, a3, a4, a5⟩ | ⟨a1, a2, a3, a4, a5⟩ <;> rcases b with ⟨b1, b2⟩ | ⟨b1, b2, b3⟩ | ⟨b1, b2, b3, b4⟩ | ⟨b1, b2, b3, b4, b5⟩ | ⟨b1, b2, b3, b4, b5⟩ <;>
    first | (subst_vars; rfl) | contradiction
def OrdR (cs : List Cl) (most : Int) (e : Int) (os : List Int) : Prop := ErrO cs most e ∧ (e ≠ 0 → os = []) ∧ (e = 0 → OkL cs most os)

theorem hs_part {calls : Sl} {most : Int} {by' : Fin 4 → Sl} {m : Option Nat} {o : Sl} {w : Nat} (hw : w < 4) : PartAt khistsearch .sl (2 + w) (calls, (most, (by', (m, (o, ()))))) (aget (n := 4) (a := .sl) by' w) := by
  have : w = 0 ∨ w = 1 ∨ w = 2 ∨ w = 3 := by omega
  rcases this with rfl | rfl | rfl | rfl
  · exact ⟨[calls.val, .int .i64 most], [(by' 1).val, (by' 2).val, (by' 3).val, .map m, o.val], rfl, rfl⟩
  · exact ⟨[calls.val, .int .i64 most, (by' 0).val], [(by' 2).val, (by' 3).val, .map m, o.val], rfl, rfl⟩
  · exact ⟨[calls.val, .int .i64 most, (by' 0).val, (by' 1).val], [(by' 3).val, .map m, o.val], rfl, rfl⟩
  · exact ⟨[calls.val, .int .i64 most, (by' 0).val, (by' 1).val, (by' 2).val], [.map m, o.val], rfl, rfl⟩
theorem hs_set {calls : Sl} {most : Int} {by' : Fin 4 → Sl} {m : Option Nat} {o : Sl} {w : Nat} (hw : w < 4) (s : Sl) :
    Kd.cells khistsearch (calls, (most, (aset (n := 4) (a := .sl) by' w s, (m, (o, ()))))) = splice (Kd.cells khistsearch (calls, (most, (by', (m, (o, ())))))) (2 + w) (Kd.cells .sl s) := by
  have : w = 0 ∨ w = 1 ∨ w = 2 ∨ w = 3 := by omega
  rcases this with rfl | rfl | rfl | rfl <;> rfl
theorem aget_set4 {by' : Fin 4 → Sl} {w v : Nat} (hv : v < 4) (s : Sl) : aget (n := 4) (a := .sl) (aset (n := 4) (a := .sl) by' w s) v = if v = w then s else aget (n := 4) (a := .sl) by' v := by
  unfold aget aset
  rw [dif_pos hv, dif_pos hv]

theorem clonei_spec {s : Sl} {h : Heap} {xs : List Int} (ha : Arr h ki s xs) (hn : s.len ≤ 2097152) {Q : Sl → Heap → Prop} (hQ : ∀ r h', New h h' ki r xs → Q r h') : slices_Clone_int_int.M s h Q := by
  refine ⟨fun e => ?_, fun e => ?_⟩
  · obtain ⟨a, n, c⟩ := s
    cases a with
    | some a => cases e
    | none =>
      have h1 : xs.length = n := ha.1
      have h2 : n = 0 := ha.2.2
      have : xs = [] := List.length_eq_zero_iff.1 (by omega)
      subst this
      exact hQ _ h (New.nil h ki)
  · refine New.mk0 fun p h4 n4 => ?_
    refine n4.apps (ha.le n4.le) rfl rfl (by show (0 + s.len) * 8 ≤ _; omega) fun t h6 n6 => ?_
    rw [List.nil_append] at n6
    exact hQ t h6 n6

structure BuR (h0 h : Heap) (b m : Nat) (calls : Sl) (most : Int) (by' : Fin 4 → Sl) (cs : List Cl) (n : Nat) : Prop where
  obj : Obj h b khistsearch (calls, (most, (by', (some m, (Sl.none, ())))))
  map : MapIs h m kt4 ki []
  rows : ∀ w, w < 4 → New h0 h ki (aget (n := 4) (a := .sl) by' w) (iL (byN cs n w))
  sep : ∀ w v, w < 4 → v < 4 → w ≠ v → Apart (aget (n := 4) (a := .sl) by' w) (aget (n := 4) (a := .sl) by' v)
  ne : m ≠ b
  nb : h0 b = none
  nm : h0 m = none
  ob : ∀ w, w < 4 → ¬ blkOf (aget (n := 4) (a := .sl) by' w) b ∧ ¬ blkOf (aget (n := 4) (a := .sl) by' w) m

theorem horder_spec {calls : Sl} {most : Int} {h : Heap} {cs : List Cl} (ha : Arr h kapiCall calls cs) (hn : calls.len ≤ 2097152)
    {c1 : Int → Heap → (Bool → Heap → Prop) → Prop} {c2 : Sl → Heap → (Bool → Heap → Prop) → Prop} {c4 : Sl → Heap → (Sl → Heap → Prop) → Prop}
    {F : Option Addr → (Fin 4 → Int) → Sl → Heap → (Bool → Heap → Prop) → Prop} {d1 : Option Addr → (Fin 4 → Int) → Heap → (Bool → Heap → Prop) → Prop} {d2 : Sl → Cl → Int → Heap → ((Sl × (Bool × Unit)) → Heap → Prop) → Prop} {d3 : Option Addr → (Fin 4 → Int) → Cl → Heap → (Bool → Heap → Prop) → Prop}
    (i1 : ∀ {a h Q}, hist_goodMost.M a h Q → c1 a h Q) (i2 : ∀ {l : Sl} {h Q} {us : List Cl}, Arr h kapiCall l us → l.len ≤ 2097152 → (∀ b : Bool, (b = true ↔ HistN us us.length) → Q b h) → c2 l h Q) (i4 : ∀ {a h Q}, slices_Clone_int_int.M a h Q → c4 a h Q)
    (j1 : ∀ {a t h Q}, hist_search_done.M a t h Q → d1 a t h Q) (j2 : ∀ {a b c h Q}, hist_row_does.M a b c h Q → d2 a b c h Q) (j3 : ∀ {a t c h Q}, hist_search_waits.M a t c h Q → d3 a t c h Q) (jF : ∀ {a t s h Q}, hist_search_from.M d1 d2 d3 F a t s h Q → F a t s h Q)
    {Q : (Sl × (Int × Unit)) → Heap → Prop} (hQ : ∀ r e os h', OrdR cs most e os → New h h' ki r os → Q (r, (e, ())) h') : hist_Order.M c1 c2 F c4 calls most h Q := by
  have hl : calls.len = cs.length := ha.1.symm
  have no : ∀ e, e ≠ 0 → ErrO cs most e → Q (⟨none, 0, 0⟩, (e, ())) h := fun e h0 h1 => hQ _ e [] h ⟨h1, fun _ => rfl, fun q => absurd q h0⟩ (New.nil h ki)
  refine ⟨fun e => ?_, fun e => ?_⟩
  · have e : (40 : Int) < (calls.len : Int) := of_decide_eq_true e
    exact no 2 (by decide) (.inl ⟨by omega, rfl⟩)
  have e : ¬ (40 : Int) < (calls.len : Int) := of_decide_eq_false e
  have e40 : ¬ 40 < cs.length := by omega
  refine i1 (good_spec ⟨fun g => ?_, fun g => ?_⟩)
  · have g : ¬ (1 ≤ most ∧ most ≤ 4096) := fun q => by rw [decide_eq_true q] at g; cases g
    exact no 3 (by decide) (.inr (.inl ⟨e40, g, rfl⟩))
  have g : 1 ≤ most ∧ most ≤ 4096 := Decidable.byContradiction fun q => by rw [decide_eq_false q] at g; cases g
  refine i2 ha hn fun bb hb => ⟨fun r => ?_, fun r => ?_⟩
  · exact no 40 (by decide) (.inr (.inr (.inl ⟨e40, g, fun q => (by rw [hb.2 q] at r; cases r), rfl⟩)))
  have hH : HistN cs cs.length := hb.1 (by cases bb <;> first | rfl | cases r)
  clear r hb
  -- the object
  intro m hm
  have hle1 := le_upd hm (.map #[] 0)
  refine Obj.new fun b h2 hbn ob hle2 => ?_
  have hbm : m ≠ b := fun q => by subst q; rw [upd_same] at hbn; cases hbn
  have hb0 : h b = none := hle1.none hbn
  have hm2 : MapIs h2 m kt4 ki [] := ⟨#[], 0, hle2 m _ (upd_same _ _ _), rfl⟩
  have nn : ∀ k : Kd, New h h2 k Sl.none [] := fun k => ⟨Own.nil _ _, rfl, hle1.trans hle2, fun x hx => by obtain ⟨a, e, _⟩ := hx; cases e⟩
  have noblk : ∀ {x : Nat}, ¬ blkOf Sl.none x := fun {x} hx => by obtain ⟨a, e, _⟩ := hx; cases e
  have an : ∀ w, w < 4 → aget (n := 4) (a := .sl) (fun _ => Sl.none) w = Sl.none := fun w hw => by unfold aget; rw [dif_pos hw]
  refine Loop.up cs.length (fun s => s.1) (fun n s k => ∃ by', BuR h k b m calls most by' cs n) rfl ⟨fun _ => Sl.none, ob, hm2, fun w hw => ?_, fun w v hw hv _ x p => ?_, hbm, hb0, hm, fun w hw => ?_⟩ ?_
  · rw [an w hw]; exact nn ki
  · rw [an w hw] at p; exact absurd p noblk
  · rw [an w hw]; exact ⟨noblk, noblk⟩
  rintro n ⟨n', u⟩ k go hnn hc ⟨by', R⟩ hgo
  dsimp only at hc; subst hc
  have hlek : le h k := (R.rows 0 (by decide)).le
  refine ⟨fun f => ?_, fun f => ?_⟩
  · have f : (n : Int) < (calls.len : Int) := of_decide_eq_true f
    have hnl : n < cs.length := by omega
    have hbn' : (0 : Int) ≤ (n : Int) := by omega
    refine ⟨⟨hbn', f⟩, (ha.le hlek).at hbn' f rfl fun c hc => ?_⟩
    rw [Int.toNat_natCast] at hc
    obtain ⟨_, _, s3, s4, _⟩ := sound_at hH hc
    obtain ⟨w, hw⟩ : ∃ w : Nat, cWho c = (w : Int) := ⟨(cWho c).toNat, by omega⟩
    have hw4 : w < 4 := by omega
    have hw' : c.1 = (w : Int) := hw
    rw [hw']
    have hb4 : (0 : Int) ≤ (w : Int) ∧ (w : Int) < (4 : Int) := by omega
    have row := R.rows w hw4
    have hrl := row.len
    have hrl2 : (iL (byN cs n w)).length ≤ n := by
      unfold iL byN
      rw [List.length_map]
      have := List.length_filter_le (isBy cs w) (List.range n)
      rwa [List.length_range] at this
    refine ⟨hb4, ?_⟩
    rw [add_add', Int.toNat_natCast, Nat.mul_one]
    refine R.obj.ld (kf := .sl) (hs_part hw4) (row.app3 rfl rfl (by omega) fun t h3 n3 x3 b3 => ⟨hb4, ?_⟩)
    have ob3 := R.obj.ext x3 (R.ob w hw4).1
    refine ob3.st (kf := .sl) (off := 2 + w) (v := t) (x' := (calls, (most, (aset (n := 4) (a := .sl) by' w t, (some m, (Sl.none, ())))))) (hs_set hw4 t) (by show 2 + w + 1 ≤ 8; omega) rfl fun h4 ob4 x4 => ?_
    refine hgo hnl _ _ (by show w64 ((n : Int) + 1) = _; rw [w64_of] <;> omega) ⟨_, ob4, ?_, fun v hv => ?_, fun v v' hv hv' hne => ?_, R.ne, R.nb, R.nm, fun v hv => ?_⟩
    · obtain ⟨es, c', q1, q2⟩ := R.map
      refine ⟨es, c', x4.1 m _ (x3.1 m _ q1 (R.ob w hw4).2) R.ne, q2⟩
    · rw [aget_set4 hv]
      have fb : ∀ x, x = b → h x = none := fun x q => by subst q; exact R.nb
      have hbyn : byN cs (n + 1) v = byN cs n v ++ if v = w then [n] else [] := by
        rw [byN_succ]
        congr 1
        have : isBy cs v n = decide (v = w) := by
          unfold isBy
          rw [hc]
          dsimp only
          by_cases q : v = w
          · subst q; rw [hw]; simp
          · rw [hw, decide_eq_false (by omega), decide_eq_false q]
        rw [this]
        by_cases q : v = w <;> simp [q]
      by_cases q : v = w
      · rw [if_pos q, hbyn, if_pos q, q]
        have bt : ¬ blkOf t b := fun p => by
          rcases b3 b p with d | d
          · exact (R.ob w hw4).1 d
          · exact R.obj.live d
        have := n3.ext x4 (fun x p r => by subst r; exact bt p) fb
        unfold iL
        rw [List.map_append]
        exact this
      · rw [if_neg q, hbyn, if_neg q, List.append_nil]
        exact ((R.rows v hv).ext x3 (fun x p r => R.sep v w hv hw4 q x p r) row.new).ext x4 (fun x p r => by subst r; exact (R.ob v hv).1 p) fb
    · rw [aget_set4 hv, aget_set4 hv']
      have apart : ∀ v, v < 4 → v ≠ w → Apart t (aget (n := 4) (a := .sl) by' v) := fun v hv hne x p r => by
        rcases b3 x p with d | d
        · exact R.sep w v hw4 hv (fun e => hne e.symm) x d r
        · exact (R.rows v hv).own.live x r d
      by_cases q : v = w
      · rw [if_pos q, if_neg (by omega)]
        exact apart v' hv' (by omega)
      · rw [if_neg q]
        by_cases q' : v' = w
        · rw [if_pos q']
          exact (apart v hv q).symm
        · rw [if_neg q']
          exact R.sep v v' hv hv' hne
    · rw [aget_set4 hv]
      by_cases q : v = w
      · rw [if_pos q]
        refine ⟨fun p => ?_, fun p => ?_⟩
        · rcases b3 b p with d | d
          · exact (R.ob w hw4).1 d
          · exact R.obj.live d
        · rcases b3 m p with d | d
          · exact (R.ob w hw4).2 d
          · obtain ⟨es, c', q1, q2⟩ := R.map
            rw [q1] at d; cases d
      · rw [if_neg q]
        exact R.ob v hv
  · have f : ¬ (n : Int) < (calls.len : Int) := of_decide_eq_false f
    obtain rfl : n = cs.length := by omega
    have hwhole : SrR h k b m calls most by' ⟨none, 0, 0⟩ cs [] [] := by
      refine ⟨R.obj, R.map, ⟨Own.nil _ _, rfl, hlek, fun x hx => absurd hx noblk⟩, R.ne, R.nb, R.nm, noblk, noblk, ⟨ha.le hlek, fun hx x p q => ?_⟩, fun w hw => ⟨(R.rows w hw).arr, fun hx x p q => ?_⟩⟩
      · have hlive := ha.lives hx (by decide) p
        rcases q with q | q | q
        · subst q; exact hlive R.nb
        · subst q; exact hlive R.nm
        · exact noblk q
      · rcases q with q | q | q
        · subst q; exact (R.ob w hw).1 p
        · subst q; exact (R.ob w hw).2 p
        · exact noblk q
    refine from_spec (F := F) hH (by omega) j1 j2 j3 jF (cs.length - sum4 z4) (t := z4) (xs := []) (os := []) (Nat.le_refl _) hwhole rfl ⟨[], .nil _ _⟩ ⟨⟨rfl, Nat.le_refl _, rfl⟩, fun q => absurd rfl q⟩ (fun t' q => ?_) (fun h5 o5 ml5 is t' xs' r5 s5 hW hD => ?_) (fun h5 o5 ml5 r5 s5 hnl hm5 => ?_)
    · exact absurd q (by unfold Met getL fi; decide)
    · refine ⟨fun q => (by cases q), fun _ => r5.ld7 (i4 ?_)⟩
      have hol := r5.ord.len
      have hfit := hW.fits
      have h1 := hfit.sum
      have h2 := hfit.len
      rw [List.nil_append] at hol
      have h3 : (iL is).length = is.length := by simp [iL]
      have harr := r5.ord.arr
      rw [List.nil_append] at harr
      refine clonei_spec harr (by omega) fun r h6 n6 => ?_
      have hok : OkL cs most (iL is) := ⟨e40, g, hH, hW.legal hH hD⟩
      exact hQ r 0 (iL is) h6 ⟨.inr (.inr (.inr (.inr ⟨e40, g, hH, ⟨_, hok.2.2.2⟩, rfl⟩))), fun q => absurd rfl q, fun _ => hok⟩ (n6.base r5.le)
    · refine ⟨fun _ => hQ _ 41 [] h5 ⟨.inr (.inr (.inr (.inl ⟨e40, g, hH, fun q => ?_, rfl⟩))), fun _ => rfl, fun q => (by cases q)⟩ ⟨Own.nil _ _, rfl, r5.le, fun x hx => absurd hx noblk⟩, fun q => (by cases q)⟩
      obtain ⟨os, hL⟩ := q
      obtain ⟨is, t, xs, _, hW, hD⟩ := legal_way hH hL
      exact hnl ⟨is, t, xs, hW, hD⟩

end Go.Mx
