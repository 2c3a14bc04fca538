/-
  HistOrder: the reference's answer; the law.
-/
import Derived.Test.YtanfmmcpjifgiaaMxHf
set_option linter.unusedVariables false
set_option linter.unusedSimpArgs false
namespace Go.Mx

structure CalmL (h : Heap) (L : Nat → Prop) (s : Sl) (xs : List Int) : Prop where
  arr : Arr h ki s xs
  off : xs ≠ [] → ∀ x, blkOf s x → ¬ L x
theorem CalmL.keep {h h' : Heap} {L L' : Nat → Prop} {s : Sl} {xs : List Int} (c : CalmL h L s xs) (st : Step L L' h h') : CalmL h' L' s xs :=
  ⟨c.arr.ext' st.1 c.off, fun hx => st.off (c.off hx) (fun x q => c.arr.lives hx (by decide) q)⟩
def enc (t : Nat → Nat) : Nat := t 0 + 41 * (t 1 + 41 * (t 2 + 41 * t 3))
abbrev MS := (Nat → Nat) × List Int
structure Lev (h : Heap) (L : Nat → Prop) (cs : List Cl) (most : Int) (n : Nat) (ls : List (Den kref4State)) (ts : List MS) : Prop where
  len : ls.length = ts.length
  st : ∀ (i : Nat) s m, ls[i]? = some s → ts[i]? = some m → s.1 = tk m.1 ∧ CalmL h L s.2.1 m.2
  rn : ∀ m ∈ ts, RN cs most n m.1 m.2
  nd : (ts.map fun m => enc m.1).Nodup
theorem Lev.keep {h h' : Heap} {L L' : Nat → Prop} {cs most n ls ts} (v : Lev h L cs most n ls ts) (s : Step L L' h h') : Lev h' L' cs most n ls ts :=
  ⟨v.len, fun i s' m a b => ⟨(v.st i s' m a b).1, (v.st i s' m a b).2.keep s⟩, v.rn, v.nd⟩
theorem Lev.free {h : Heap} {L L' : Nat → Prop} {cs most n ls ts} (v : Lev h L cs most n ls ts) (s : ∀ x, L' x → L x) : Lev h L' cs most n ls ts :=
  ⟨v.len, fun i s' m a b => ⟨(v.st i s' m a b).1, (v.st i s' m a b).2.arr, fun hx x p q => (v.st i s' m a b).2.off hx x p (s x q)⟩, v.rn, v.nd⟩
theorem RN.fit40 {cs most n t xs} (h : RN cs most n t xs) (hl : cs.length ≤ 40) (w : Nat) : t w ≤ 40 := by
  have h1 := h.rch.fits.2 w
  have h2 := byL_len cs w
  omega
theorem enc_inj {t t' : Nat → Nat} (a : ∀ w, t w ≤ 40) (b : ∀ w, t' w ≤ 40) (h : enc t = enc t') : tk t = tk t' := by
  unfold enc at h
  have a0 := a 0; have a1 := a 1; have a2 := a 2; have a3 := a 3
  have b0 := b 0; have b1 := b 1; have b2 := b 2; have b3 := b 3
  have e0 : t 0 = t' 0 := by omega
  have e1 : t 1 = t' 1 := by omega
  have e2 : t 2 = t' 2 := by omega
  have e3 : t 3 = t' 3 := by omega
  funext i
  unfold tk
  obtain ⟨i, hi⟩ := i
  have : i = 0 ∨ i = 1 ∨ i = 2 ∨ i = 3 := by omega
  rcases this with rfl | rfl | rfl | rfl
  · show ((t 0 : Nat) : Int) = _; rw [e0]
  · show ((t 1 : Nat) : Int) = _; rw [e1]
  · show ((t 2 : Nat) : Int) = _; rw [e2]
  · show ((t 3 : Nat) : Int) = _; rw [e3]
theorem Lev.small {h : Heap} {L : Nat → Prop} {cs most n ls ts} (v : Lev h L cs most n ls ts) (hl : cs.length ≤ 40) : ls.length ≤ 2825761 := by
  have := nodup_sub (l2 := List.range 2825761) v.nd fun x hx => by
    obtain ⟨m, hm, rfl⟩ := List.mem_map.1 hx
    have hr := v.rn m hm
    have a0 := hr.fit40 hl 0; have a1 := hr.fit40 hl 1; have a2 := hr.fit40 hl 2; have a3 := hr.fit40 hl 3
    refine List.mem_range.2 ?_
    unfold enc
    omega
  rw [List.length_map, List.length_range] at this
  rw [v.len]; exact this

theorem step_spec {calls later : Sl} {most : Int} {h0 h : Heap} {cs : List Cl} (ha : Arr h0 kapiCall calls cs) (hl : cs.length ≤ 40) (hH : HistN cs cs.length) {n w : Nat} (hw : w < 4) {t : Nat → Nat} {xs : List Int} (hR : RN cs most n t xs) {st : Den kref4State} (hst : st.1 = tk t)
    (hrow : CalmL h (blkOf later) st.2.1 xs) {ls : List (Den kref4State)} {ts : List MS} (nl : New h0 h kref4State later ls) (v : Lev h (blkOf later) cs most (n + 1) ls ts)
    {c1 : Sl → Int → Int → Heap → (Int → Heap → Prop) → Prop} {c2 : Sl → Den kref4State → Int → Heap → (Bool → Heap → Prop) → Prop} {c3 : Sl → Cl → Int → Heap → ((Sl × (Bool × Unit)) → Heap → Prop) → Prop} {c4 : Sl → (Fin 4 → Int) → Heap → (Bool → Heap → Prop) → Prop} {c5 : Cl → Cl → Heap → (Bool → Heap → Prop) → Prop}
    (i1 : ∀ {a w n h Q}, ref4_next.M a w n h Q → c1 a w n h Q) (i2 : ∀ {a s k h Q}, ref4_free.M c1 c5 a s k h Q → c2 a s k h Q) (i3 : ∀ {a b c h Q}, ref4_Do.M a b c h Q → c3 a b c h Q) (i4 : ∀ {a d h Q}, ref4_known.M a d h Q → c4 a d h Q) (i5 : ∀ {a b h Q}, ref4_ahead.M a b h Q → c5 a b h Q)
    {Q : Sl → Heap → Prop} (hQ : ∀ later' h' ls' ts', New h0 h' kref4State later' ls' → Step (blkOf later) (blkOf later') h h' → Lev h' (blkOf later') cs most (n + 1) ls' ts' → (∀ m ∈ ts, m ∈ ts') → (∀ i c, Sx cs most t xs w i c → ∃ m ∈ ts', m.1 = bump t w) → Q later' h') :
    ref4_step.M c1 c2 c3 c4 calls most st (w : Int) later h Q := by
  have hcl : cs.length = calls.len := ha.1
  have hb4 : (0 : Int) ≤ (w : Int) ∧ (w : Int) < (4 : Int) := by omega
  have ha1 := ha.le nl.le
  have htw := hR.fit40 hl w
  refine ⟨hb4, ?_⟩
  rw [hst, Int.toNat_natCast, tk_at t hw]
  have none : (∀ i c, Sx cs most t xs w i c → False) → Q later h := fun hno => hQ later h ls ts nl (.refl _ _) v (fun m hm => hm) (fun i c hs => (hno i c hs).elim)
  refine i1 (next_spec ha1 hl htw (fun i hi hil => ⟨fun g => ?_, fun _ => ?_⟩) (fun hn => ⟨fun _ => ⟨fun _ => none fun i c hs => (by have := hs.2.1; rw [hn] at this; cases this), fun q => (by cases q)⟩, fun g => ?_⟩))
  · have g : (i : Int) < 0 := of_decide_eq_true g
    omega
  · obtain ⟨c, hc, _⟩ := byL_at hi
    refine i2 (free_spec (st := (tk t, (st.2.1, ()))) ha1 hl hH hR.rch.fits.2 rfl hc i1 i5 fun d hd => ⟨fun q => none fun i' c' hs => ?_, fun q => ?_⟩)
    · obtain ⟨_, q2, q3, _, q5⟩ := hs
      rw [hi] at q2; cases q2
      rw [hc] at q3; cases q3
      rw [hd.2 q5] at q; cases q
    have hnw : ¬ Wait cs t c := hd.1 (by cases d <;> first | rfl | cases q)
    have hbi : (0 : Int) ≤ (i : Int) ∧ (i : Int) < (calls.len : Int) := by omega
    refine ⟨hbi, ha1.at hbi.1 hbi.2 rfl fun c' hc' => ?_⟩
    rw [Int.toNat_natCast, hc] at hc'; cases hc'
    have hxl := hR.rch.len
    have hrl := hrow.arr.1
    refine i3 (do_spec hrow.arr (by omega) fun l b s h1 hdo harr hle hblk => ?_)
    have s1 : Step (blkOf later) (blkOf later) h h1 := ⟨hle.toExt, fun x q => .inl q⟩
    have nl1 := nl.more hle
    have v1 := v.keep s1
    have keep : (∀ i c, Sx cs most t xs w i c → ∃ m ∈ ts, m.1 = bump t w) → Q later h1 := fun hx => hQ later h1 ls ts nl1 s1 v1 (fun m hm => hm) hx
    refine ⟨fun q => keep fun i' c' hs => ?_, fun q => ⟨hb4, hb4, ?_⟩⟩
    · obtain ⟨_, q2, q3, q4, _⟩ := hs
      rw [hi] at q2; cases q2
      rw [hc] at q3; cases q3
      rw [hdo] at q4
      have q4 : b = true := q4
      rw [q4] at q; cases q
    have hb : b = true := by cases b <;> first | rfl | cases q
    have sx : Sx cs most t xs w i c := ⟨hw, hi, hc, by rw [hdo]; exact hb, hnw⟩
    have hrowl : (doL xs c most).1 = l := by rw [hdo]
    have hR2 := hR.step sx
    rw [hrowl] at hR2
    rw [hst, Int.toNat_natCast, tk_bump t hw (by omega)]
    have hsm := v.small hl
    have hnl := nl.len
    refine i4 (known_spec nl1.arr (by omega) (tk (bump t w)) fun d' hd' => ⟨fun q => keep fun i' c' hs => ?_, fun q => ?_⟩)
    · obtain ⟨st', m1, m2⟩ := hd'.1 q
      obtain ⟨j, hj⟩ := List.mem_iff_getElem?.1 m1
      have hjt : j < ts.length := by rw [← v.len]; exact (List.getElem?_eq_some_iff.1 hj).1
      have hm : ts[j]? = some ts[j] := by simp
      have hst' := (v.st j st' _ hj hm).1
      refine ⟨ts[j], by simp, ?_⟩
      exact (v.rn ts[j] (by simp)).rch.same hR2.rch (by rw [← hst', m2])
    · have q : d' = false := q
      have newc : CalmL h1 (blkOf later) s l := ⟨harr, fun hx x p r => by
        rcases hblk x hx p with ⟨e1, e2⟩ | e
        · exact hrow.off e1 x e2 r
        · exact nl.own.live x r e⟩
      refine nl1.app3 rfl rfl (by omega) fun t2 h2 n2 x2 b2 => ?_
      have s2 : Step (blkOf later) (blkOf t2) h1 h2 := ⟨x2, b2⟩
      refine hQ t2 h2 _ (ts ++ [(bump t w, l)]) n2 (s1.trans s2) ⟨by rw [List.length_append, List.length_append, v.len]; rfl, fun j s' m a b => ?_, fun m hm => ?_, ?_⟩ (fun m hm => List.mem_append_left _ hm) (fun i' c' hs => ⟨(bump t w, l), by simp, rfl⟩)
      · by_cases e : j < ts.length
        · rw [List.getElem?_append_left (by rw [v.len]; exact e)] at a
          rw [List.getElem?_append_left e] at b
          obtain ⟨z1, z2⟩ := v1.st j s' m a b
          exact ⟨z1, z2.keep s2⟩
        · rw [List.getElem?_append_right (by rw [v.len]; omega), v.len] at a
          rw [List.getElem?_append_right (by omega)] at b
          have hj : j - ts.length = 0 := by have := (List.getElem?_eq_some_iff.1 b).1; simp at this; omega
          rw [hj] at a b
          cases a; cases b
          exact ⟨rfl, newc.keep s2⟩
      · rcases List.mem_append.1 hm with hm | hm
        · exact v.rn m hm
        · obtain rfl : m = (bump t w, l) := by simpa using hm
          exact hR2
      · rw [List.map_append, List.nodup_append]
        refine ⟨v.nd, by simp, fun a ha' b hb' => ?_⟩
        obtain ⟨m, hm, rfl⟩ := List.mem_map.1 ha'
        obtain rfl : b = enc (bump t w) := by simpa using hb'
        intro e
        have htk := enc_inj ((v.rn m hm).fit40 hl) (hR2.fit40 hl) e
        obtain ⟨j, hj⟩ := List.mem_iff_getElem?.1 hm
        have hjl : j < ls.length := by rw [v.len]; exact (List.getElem?_eq_some_iff.1 hj).1
        have hs : ls[j]? = some ls[j] := by simp
        have := (v.st j _ m hs hj).1
        rw [hd'.2 ⟨ls[j], by simp, by rw [this]; exact htk⟩] at q
        cases q
  · have g : ¬ (-1 : Int) < 0 := of_decide_eq_false g
    omega

theorem has_spec {calls : Sl} {most : Int} {h0 : Heap} {cs : List Cl} (ha : Arr h0 kapiCall calls cs) (hl : cs.length ≤ 40) (hH : HistN cs cs.length)
    {c1 : Sl → Den kref4State → Heap → (Bool → Heap → Prop) → Prop} {c2 : Sl → Int → Den kref4State → Int → Sl → Heap → (Sl → Heap → Prop) → Prop} {d1 : Sl → Int → Int → Heap → (Int → Heap → Prop) → Prop} {d2 : Sl → Den kref4State → Int → Heap → (Bool → Heap → Prop) → Prop} {d3 : Sl → Cl → Int → Heap → ((Sl × (Bool × Unit)) → Heap → Prop) → Prop} {d4 : Sl → (Fin 4 → Int) → Heap → (Bool → Heap → Prop) → Prop} {d5 : Cl → Cl → Heap → (Bool → Heap → Prop) → Prop}
    (i1 : ∀ {a s h Q}, ref4_over.M d1 a s h Q → c1 a s h Q) (i2 : ∀ {a m s w l h Q}, ref4_step.M d1 d2 d3 d4 a m s w l h Q → c2 a m s w l h Q) (j1 : ∀ {a w n h Q}, ref4_next.M a w n h Q → d1 a w n h Q) (j2 : ∀ {a s k h Q}, ref4_free.M d1 d5 a s k h Q → d2 a s k h Q) (j3 : ∀ {a b c h Q}, ref4_Do.M a b c h Q → d3 a b c h Q) (j4 : ∀ {a d h Q}, ref4_known.M a d h Q → d4 a d h Q) (j5 : ∀ {a b h Q}, ref4_ahead.M a b h Q → d5 a b h Q)
    {Q : Bool → Heap → Prop} (hQ : ∀ b h', (b = true ↔ HasO cs most) → le h0 h' → Q b h') : ref4_Has.M c1 c2 calls most h0 Q := by
  refine New.lit fun p h1 n1 => ?_
  refine Loop.idx (cs.length + 1) (fun n s k => ∃ ls ts, New h0 k kref4State s.1 ls ∧ Lev k (fun _ => False) cs most n ls ts ∧ (∀ t xs, RN cs most n t xs → ∃ m ∈ ts, m.1 = t) ∧ ∀ n' t xs, n' < n → RN cs most n' t xs → ¬ DoneS cs t)
    ⟨_, [(z4, [])], n1, ⟨rfl, fun i s m a b => ?_, fun m hm => ?_, by simp⟩, fun t xs hr => ?_, fun n' t xs hn => absurd hn (Nat.not_lt_zero _)⟩ ?_
  · have hi : i = 0 := by have := (List.getElem?_eq_some_iff.1 a).1; simp at this; omega
    subst hi
    cases a; cases b
    exact ⟨rfl, ⟨rfl, Nat.le_refl _, rfl⟩, fun q => absurd rfl q⟩
  · obtain rfl : m = (z4, []) := by simpa using hm
    exact ⟨[], rfl, .nil _ _⟩
  · obtain ⟨is, e, hW⟩ := hr
    have : is = [] := List.length_eq_zero_iff.1 e
    subst this
    cases hW
    exact ⟨(z4, []), by simp, rfl⟩
  rintro n ⟨rs, u⟩ k go hn ⟨ls, ts, nr, v, hcomp, hnone⟩ hgo
  dsimp only at nr
  have hrl := nr.len
  have hsm := v.small hl
  refine ⟨fun e => ?_, fun e => ?_⟩
  · have e : (0 : Int) < (rs.len : Int) := of_decide_eq_true e
    have hnlt : n < cs.length + 1 := by
      have hts : 0 < ts.length := by rw [← v.len]; omega
      have hr := v.rn ts[0] (by simp)
      have h1 := hr.sum
      have h2 := hr.rch.fits.1
      omega
    refine Loop.up ls.length (fun s => s.2.1) (fun i s k' => ∃ ls' ts', New h0 k' kref4State s.1 ls' ∧ Lev k' (blkOf s.1) cs most (n + 1) ls' ts' ∧ New h0 k' kref4State rs ls ∧ Lev k' (blkOf s.1) cs most n ls ts ∧ Apart rs s.1 ∧
      ∀ (i' : Nat) m, i' < i → ts[i']? = some m → ¬ DoneS cs m.1 ∧ ∀ w j c, Sx cs most m.1 m.2 w j c → ∃ m' ∈ ts', m'.1 = bump m.1 w) rfl
      ⟨[], [], ⟨Own.nil _ _, rfl, nr.le, fun x hx => (by obtain ⟨a, e, _⟩ := hx; cases e)⟩, ⟨rfl, fun i s m a => (by simp at a), fun m hm => (by cases hm), List.nodup_nil⟩, nr, v.free (fun x hx => (by obtain ⟨a, e, _⟩ := hx; cases e)), fun x _ hx => (by obtain ⟨a, e, _⟩ := hx; cases e), fun i' m hi => absurd hi (Nat.not_lt_zero _)⟩ ?_
    rintro i ⟨later, i', u2⟩ k2 go2 hi hc ⟨ls', ts', nl, vl, nr2, v2, hap, hI⟩ hgo2
    dsimp only at hc nl vl v2 hap; subst hc
    refine ⟨fun f => ?_, fun f => ?_⟩
    · have f : (i : Int) < (rs.len : Int) := of_decide_eq_true f
      have hlt : i < ls.length := by omega
      have hbi : (0 : Int) ≤ (i : Int) := by omega
      have hit : i < ts.length := by rw [← v.len]; exact hlt
      have hm : ts[i]? = some ts[i] := by simp
      have hR := v.rn ts[i] (by simp)
      refine ⟨⟨hbi, f⟩, nr2.arr.at hbi f rfl fun st hst => ?_⟩
      rw [Int.toNat_natCast] at hst
      obtain ⟨q1, q2⟩ := v2.st i st _ hst hm
      refine i1 (over_spec (ha.le nl.le) hl hH hR.rch.fits.2 q1 j1 fun d hd => ⟨fun g => ?_, fun g => ?_⟩)
      · obtain ⟨is, _, hW⟩ := hR
        exact hQ true k2 ⟨fun _ => ⟨_, hW.legal hH (hd.1 g)⟩, fun _ => rfl⟩ nl.le
      have hnd : ¬ DoneS cs ts[i].1 := fun q => by rw [hd.2 q] at g; cases g
      refine Loop.up 4 (fun s => s.2.1) (fun w s k' => ∃ ls' ts'', New h0 k' kref4State s.1 ls' ∧ Lev k' (blkOf s.1) cs most (n + 1) ls' ts'' ∧ New h0 k' kref4State rs ls ∧ Lev k' (blkOf s.1) cs most n ls ts ∧ Apart rs s.1 ∧ (∀ m ∈ ts', m ∈ ts'') ∧
        ∀ w' j c, w' < w → Sx cs most ts[i].1 ts[i].2 w' j c → ∃ m' ∈ ts'', m'.1 = bump ts[i].1 w') rfl ⟨ls', ts', nl, vl, nr2, v2, hap, fun m hm => hm, fun w' j c hw => absurd hw (Nat.not_lt_zero _)⟩ ?_
      rintro w ⟨later3, w', u3⟩ k3 go3 hw hc ⟨ls3, ts3, nl3, vl3, nr3, v3, hap3, hsub3, hJ⟩ hgo3
      dsimp only at hc nl3 vl3 v3 hap3; subst hc
      refine ⟨fun z => ?_, fun z => ?_⟩
      · have z : (w : Int) < 4 := of_decide_eq_true z
        have hw4 : w < 4 := by omega
        refine ⟨⟨hbi, f⟩, nr3.arr.at hbi f rfl fun st3 hst3 => ?_⟩
        rw [Int.toNat_natCast] at hst3
        obtain ⟨r1, r2⟩ := v3.st i st3 _ hst3 hm
        refine i2 (step_spec ha hl hH hw4 hR r1 r2 nl3 vl3 j1 j2 j3 j4 j5 fun later4 k4 ls4 ts4 nl4 s4 vl4 hsub4 hsx => ?_)
        refine hgo3 hw4 _ _ (w64_up' (n := 4) hw4 (by omega)) ⟨ls4, ts4, nl4, vl4, nr3.ext s4.1 hap3 nl3.new, v3.keep s4, s4.off hap3 nr3.own.live, fun m hm => hsub4 m (hsub3 m hm), fun w' j c hw' hs => ?_⟩
        by_cases q : w' = w
        · subst q; exact hsx j c hs
        · obtain ⟨m', m1, m2⟩ := hJ w' j c (by omega) hs
          exact ⟨m', hsub4 m' m1, m2⟩
      · have z : ¬ (w : Int) < 4 := of_decide_eq_false z
        refine hgo2 hlt _ _ (w64_up' (n := ls.length) hlt (by omega)) ⟨ls3, ts3, nl3, vl3, nr3, v3, hap3, fun i' m hi' hm' => ?_⟩
        by_cases q : i' = i
        · subst q
          rw [hm] at hm'; cases hm'
          exact ⟨hnd, fun w' j c hs => hJ w' j c (by have := hs.1; omega) hs⟩
        · obtain ⟨a1, a2⟩ := hI i' m (by omega) hm'
          exact ⟨a1, fun w' j c hs => by obtain ⟨m', m1, m2⟩ := a2 w' j c hs; exact ⟨m', hsub3 m' m1, m2⟩⟩
    · have f : ¬ (i : Int) < (rs.len : Int) := of_decide_eq_false f
      refine hgo hnlt _ _ ⟨ls', ts', nl, vl.free (fun x hx => hx.elim), fun t xs hr => ?_, fun n' t xs hn' hr => ?_⟩
      · obtain ⟨t', xs', w, j, c, b1, b2, b3, b4⟩ := hr.back
        obtain ⟨m, m1, m2⟩ := hcomp t' xs' b1
        obtain ⟨i', hi'⟩ := List.mem_iff_getElem?.1 m1
        have hx : xs' = m.2 := b1.rch.one hH (by rw [← m2]; exact (v.rn m m1).rch)
        have := (hI i' m (by have := (List.getElem?_eq_some_iff.1 hi').1; have := v.len; omega) hi').2 w j c (by rw [m2, ← hx]; exact b2)
        rw [m2] at this
        rw [b3]; exact this
      · by_cases q : n' = n
        · subst q
          obtain ⟨m, m1, m2⟩ := hcomp t xs hr
          obtain ⟨i', hi'⟩ := List.mem_iff_getElem?.1 m1
          rw [← m2]
          exact (hI i' m (by have := (List.getElem?_eq_some_iff.1 hi').1; have := v.len; omega) hi').1
        · exact hnone n' t xs (by omega) hr
  · have e : ¬ (0 : Int) < (rs.len : Int) := of_decide_eq_false e
    have hts : ts = [] := List.length_eq_zero_iff.1 (by rw [← v.len]; omega)
    refine hQ false k ⟨fun q => (by cases q), ?_⟩ nr.le
    rintro ⟨os, hL⟩
    obtain ⟨is, t, xs, _, hW, hD⟩ := legal_way hH hL
    have hr : RN cs most is.length t xs := ⟨is, rfl, hW⟩
    by_cases q : is.length < n
    · exact absurd hD (hnone _ t xs q hr)
    · obtain ⟨t', xs', hr'⟩ := hr.down (n := n) (by omega)
      obtain ⟨m, m1, _⟩ := hcomp t' xs' hr'
      rw [hts] at m1; cases m1

theorem refused_spec {calls : Sl} {most : Int} {h : Heap} {cs : List Cl} (ha : Arr h kapiCall calls cs) (hn : calls.len ≤ 2097152)
    {c1 : Sl → Int → Heap → (Int → Heap → Prop) → Prop} {c2 : Sl → Int → Heap → (Bool → Heap → Prop) → Prop} {c4 : Sl → Heap → (Bool → Heap → Prop) → Prop}
    (i4 : ∀ {l : Sl} {h Q} {us : List Cl}, Arr h kapiCall l us → l.len ≤ 2097152 → (∀ b : Bool, (b = true ↔ HistN us us.length) → Q b h) → c4 l h Q) (i1 : ∀ {a b h Q}, ref4_Bad.M c4 a b h Q → c1 a b h Q)
    (i2 : ∀ {Q : Bool → Heap → Prop}, cs.length ≤ 40 → HistN cs cs.length → (∀ b h', (b = true ↔ HasO cs most) → le h h' → Q b h') → c2 calls most h Q) {Q : Int → Heap → Prop} (hQ : ∀ e h', ErrO cs most e → le h h' → Q e h') : ref4_Refused.M c1 c2 calls most h Q := by
  have hl : cs.length = calls.len := ha.1
  have bad : ∀ e, e ≠ 0 → ErrO cs most e → (decide (e ≠ 0) = true → Q e h) ∧ (decide (e ≠ 0) = false → c2 calls most h fun r6 h7 => (((!r6) = true → Q 41 h7) ∧ ((!r6) = false → Q 0 h7))) := fun e h0 h1 => ⟨fun _ => hQ e h h1 (.refl h), fun q => absurd h0 (of_decide_eq_false q)⟩
  refine i1 ⟨fun e => ?_, fun e => ?_⟩
  · have e : (40 : Int) < (calls.len : Int) := of_decide_eq_true e
    exact bad 2 (by decide) (.inl ⟨by omega, rfl⟩)
  have e : ¬ (40 : Int) < (calls.len : Int) := of_decide_eq_false e
  have e40 : ¬ 40 < cs.length := by omega
  have good : (1 ≤ most ∧ most ≤ 4096) → ref4_Bad.j1 c4 calls (fun r4 h5 => (decide (r4 ≠ 0) = true → Q r4 h5) ∧ (decide (r4 ≠ 0) = false → c2 calls most h5 fun r6 h7 => (((!r6) = true → Q 41 h7) ∧ ((!r6) = false → Q 0 h7)))) () h := fun g => by
    refine i4 ha hn fun b hb => ⟨fun q => ?_, fun q => ⟨fun z => absurd rfl (of_decide_eq_true z), fun _ => ?_⟩⟩
    · exact bad 40 (by decide) (.inr (.inr (.inl ⟨e40, g, fun z => (by rw [hb.2 z] at q; cases q), rfl⟩)))
    · have hH : HistN cs cs.length := hb.1 (by cases b <;> first | rfl | cases q)
      refine i2 (by omega) hH fun b' h' hb' hle => ⟨fun z => ?_, fun z => ?_⟩
      · exact hQ 41 h' (.inr (.inr (.inr (.inl ⟨e40, g, hH, fun y => (by rw [hb'.2 y] at z; cases z), rfl⟩)))) hle
      · exact hQ 0 h' (.inr (.inr (.inr (.inr ⟨e40, g, hH, hb'.1 (by cases b' <;> first | rfl | cases z), rfl⟩)))) hle
  have nog : ¬ (1 ≤ most ∧ most ≤ 4096) → _ := fun g => bad 3 (by decide) (.inr (.inl ⟨e40, g, rfl⟩))
  refine ⟨fun f => ⟨fun _ => nog fun q => ?_, fun q => (by cases q)⟩, fun f => ⟨fun q => nog fun z => ?_, fun q => good ?_⟩⟩
  · have f : most < 1 := of_decide_eq_true f
    omega
  · have q : (4096 : Int) < most := of_decide_eq_true q
    omega
  · have f : ¬ most < 1 := of_decide_eq_false f
    have q : ¬ (4096 : Int) < most := of_decide_eq_false q
    omega

theorem histOrder_spec {calls : Sl} {most : Int} {h0 : Heap} {cs : List Cl} (ha : Arr h0 kapiCall calls cs) (hn : calls.len ≤ 1048576)
    {c1 : Sl → Heap → (Sl → Heap → Prop) → Prop} {c2 : Sl → Int → Heap → ((Sl × (Int × Unit)) → Heap → Prop) → Prop} {c3 : Sl → Sl → Heap → (Unit → Heap → Prop) → Prop} {c4 : Sl → Sl → Heap → (Bool → Heap → Prop) → Prop} {c5 : Sl → Heap → (Bool → Heap → Prop) → Prop} {c6 : Sl → Int → Heap → (Int → Heap → Prop) → Prop} {c7 : Sl → Int → Sl → Heap → (Bool → Heap → Prop) → Prop}
    (i1 : ∀ {a h Q}, law4_moved.M a h Q → c1 a h Q) (i2 : ∀ {l : Sl} {m : Int} {h : Heap} {us : List Cl} {Q : (Sl × (Int × Unit)) → Heap → Prop}, Arr h kapiCall l us → l.len ≤ 2097152 → (∀ r e os h', OrdR us m e os → New h h' ki r os → Q (r, (e, ())) h') → c2 l m h Q)
    (i3 : ∀ {a b h Q}, law4_back.M a b h Q → c3 a b h Q) (i4 : ∀ {a b h Q}, law4_same.M a b h Q → c4 a b h Q) (i5 : ∀ {a h Q}, law4_marked.M a h Q → c5 a h Q)
    (i6 : ∀ {l : Sl} {m : Int} {h : Heap} {us : List Cl} {Q : Int → Heap → Prop}, Arr h kapiCall l us → l.len ≤ 2097152 → (∀ e h', ErrO us m e → le h h' → Q e h') → c6 l m h Q)
    (i7 : ∀ {a o : Sl} {m : Int} {h : Heap} {us : List Cl} {vs : List Int} {Q : Bool → Heap → Prop}, Arr h kapiCall a us → Arr h ki o vs → a.len ≤ 2097152 → o.len ≤ 2097152 → (∀ (b : Bool) h', (b = true ↔ OkL us m vs) → le h h' → Q b h') → c7 a m o h Q)
    {Q : Bool → Heap → Prop} (hQ : ∀ h', le h0 h' → Q true h') : law4_HistOrder.M c1 c2 c3 c4 c5 c6 c7 calls most h0 Q := by
  refine i1 (moved_spec ha (by omega) fun l h5 hl => ?_)
  have hll : l.len = calls.len := by rw [← hl.len, List.length_map, ha.1]
  refine i2 hl.arr (by omega) fun r6 e6 os6 h7 _ n6 => ?_
  have hl7 : Bay h0 h7 l (cs.map moved1) := ⟨hl.own.le n6.le, hl.len, hl.cap, hl.le.trans n6.le, hl.new⟩
  refine i3 (back_spec ha (by omega) hl7 (by simp) fun h9 hl9 _ => ?_)
  refine i2 hl9.arr (by omega) fun r10 e10 os10 h11 R10 n10 => ?_
  have hl11 : Bay h0 h11 l cs := ⟨hl9.own.le n10.le, hl9.len, hl9.cap, hl9.le.trans n10.le, hl9.new⟩
  refine i2 hl11.arr (by omega) fun r12 e12 os12 h13 R12 n12 => ?_
  obtain rfl := R10.1.one R12.1
  have small : ∀ {os : List Int}, OrdR cs most e10 os → os.length ≤ 1000 := fun {os} R => by
    by_cases q : e10 = 0
    · obtain ⟨o1, _, hH, hL⟩ := R.2.2 q
      obtain ⟨is, t, xs, e, hW, _⟩ := legal_way hH hL
      have h1 := hW.fits
      have h2 := h1.sum
      have h3 := h1.len
      rw [← e]; simp [iL]; omega
    · rw [R.2.1 q]; simp
  have sm12 := small R12
  have sm10 := small R10
  have hl12 := n12.len
  refine Loop.up os12.length (fun s => s.1) (fun i s k => ∃ vs, New h11 k ki r12 vs ∧ vs.length = os12.length) rfl ⟨os12, n12, rfl⟩ ?_
  rintro i ⟨i', u⟩ k go hi hc ⟨vs, nv, hvl⟩ hgo
  dsimp only at hc; subst hc
  refine ⟨fun f => ?_, fun f => ?_⟩
  · have f : (i : Int) < (r12.len : Int) := of_decide_eq_true f
    have hbi : (0 : Int) ≤ (i : Int) := by omega
    exact ⟨⟨hbi, f⟩, nv.set hbi f rfl rfl fun h' n' _ => hgo (by omega) _ _ (w64_up' (n := os12.length) (by omega) (by omega)) ⟨_, n', by rw [List.length_set]; exact hvl⟩⟩
  have f : ¬ (i : Int) < (r12.len : Int) := of_decide_eq_false f
  refine nv.app rfl rfl (by omega) fun t h14 n14 => ?_
  have htl := n14.len
  rw [List.length_append] at htl
  have htl : vs.length + 1 = t.len := htl
  have hl14 : Bay h0 h14 l cs := ⟨hl11.own.le n14.le, hl11.len, hl11.cap, hl11.le.trans n14.le, hl11.new⟩
  refine i4 (same_spec hl14.arr (ha.le hl14.le) (by omega) ⟨fun q => (by cases q), fun _ => ?_⟩)
  refine i5 (marked_spec hl14.own hl14.len hl14.cap (by omega) ⟨fun q => (by cases q), fun _ => ?_⟩)
  refine i6 (ha.le hl14.le) (by omega) fun e33 h34 R33 l34 => ?_
  obtain rfl := R10.1.one R33
  refine ⟨fun q => absurd rfl (of_decide_eq_true q), fun _ => ⟨fun q => absurd rfl (of_decide_eq_true q), fun _ => ?_⟩⟩
  have hd : decide ((t.len : Int) < 1) = false := decide_eq_false (by omega)
  rw [hd]
  refine ⟨fun q => (by cases q), fun _ => ⟨fun q => ?_, fun q => ?_⟩⟩
  · have q : e10 ≠ 0 := of_decide_eq_true q
    have : os10 = [] := R10.2.1 q
    subst this
    have h0l : r10.len = 0 := by rw [← n10.len]; rfl
    have : decide ((r10.len : Int) = 0) = true := decide_eq_true (by omega)
    show Q (decide ((r10.len : Int) = 0)) h34
    rw [this]
    exact hQ _ (hl14.le.trans l34)
  · have q : ¬ e10 ≠ 0 := of_decide_eq_false q
    have q : e10 = 0 := by omega
    have n10' := (n10.more n14.le).more l34
    have hol := n10.len
    refine i7 (ha.le (hl14.le.trans l34)) n10'.arr (by omega) (by show r10.len ≤ _; omega) fun b h' hb hle => ?_
    have : b = true := hb.2 (R10.2.2 q)
    subst this
    exact hQ _ ((hl14.le.trans l34).trans hle)

end Go.Mx
