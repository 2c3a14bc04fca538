/-
  ExploreRun: the law.
-/
import Derived.Test.YtanfmmcpjifgiabMxFh
set_option linter.unusedVariables false
set_option linter.unusedSimpArgs false
namespace Go.Mx

def runP (sz : Int) (bs : List Int) (xss : List (List Ac)) (ps : List Int) (e : Int) : PlS := if e = 0 then playP sz bs xss ps else ([], [])

theorem run_spec {s : Sc} {t : Sl} {h : Heap} {bs ps : List Int} {xss : List (List Ac)} {c1 : Sc → Sl → Heap → (Int → Heap → Prop) → Prop} {c2 : Sc → Sl → Heap → (Den kapiEnding → Heap → Prop) → Prop}
    (i1 : ∀ {Q : Int → Heap → Prop}, (∀ e h', Rdy s.1 bs.length xss ps e → le h h' → Q e h') → c1 s t h Q)
    (i2 : ∀ {h' : Heap} {Q : Den kapiEnding → Heap → Prop}, le h h' → chkE s.1 bs.length xss = 0 → ScriptP (xss.map List.length) ps → (∀ e h2, EndR h' h2 e (playP s.1 bs xss ps) → Q e h2) → c2 s t h' Q)
    {Q : (Den kapiEnding × (Int × Unit)) → Heap → Prop} (hQ : ∀ en e h', Rdy s.1 bs.length xss ps e → EndR h h' en (runP s.1 bs xss ps e) → Q (en, (e, ())) h') : explore_Run.M c1 c2 s t h Q := by
  refine i1 fun e h' hr l => ⟨fun d => ?_, fun d => ?_⟩
  · have d : e ≠ 0 := of_decide_eq_true d
    refine hQ _ e h' hr ?_
    unfold runP
    rw [if_neg d]
    exact (EndR.none h').base l
  · have d : ¬ e ≠ 0 := of_decide_eq_false d
    have d : e = 0 := by omega
    subst d
    obtain ⟨a, b⟩ := hr.ok
    exact i2 l a b fun en h2 q => hQ en 0 h2 hr (q.base l)
theorem rrun_spec {s : Sc} {t : Sl} {h : Heap} {bs ps : List Int} {xss : List (List Ac)} {c1 : Sc → Sl → Heap → (Int → Heap → Prop) → Prop} {c2 : Sc → Sl → Heap → (Den kapiEnding → Heap → Prop) → Prop}
    (i1 : ∀ {Q : Int → Heap → Prop}, (∀ e, Rdy s.1 bs.length xss ps e → Q e h) → c1 s t h Q)
    (i2 : ∀ {Q : Den kapiEnding → Heap → Prop}, chkE s.1 bs.length xss = 0 → ScriptP (xss.map List.length) ps → (∀ e h2, EndR h h2 e (playP s.1 bs xss ps) → Q e h2) → c2 s t h Q)
    {Q : (Den kapiEnding × (Int × Unit)) → Heap → Prop} (hQ : ∀ en e h', Rdy s.1 bs.length xss ps e → EndR h h' en (runP s.1 bs xss ps e) → Q (en, (e, ())) h') : ref22_Run.M c1 c2 s t h Q := by
  refine i1 fun e hr => ⟨fun d => ?_, fun d => ?_⟩
  · have d : e ≠ 0 := of_decide_eq_true d
    refine hQ _ e h hr ?_
    unfold runP
    rw [if_neg d]
    exact EndR.none h
  · have d : ¬ e ≠ 0 := of_decide_eq_false d
    have d : e = 0 := by omega
    subst d
    obtain ⟨a, b⟩ := hr.ok
    exact i2 a b fun en h2 q => hQ en 0 h2 hr q

/-- What a run tells is not long. -/
theorem runP_small {sz : Int} {bs : List Int} {xss : List (List Ac)} {ps : List Int} {e : Int} (hr : Rdy sz bs.length xss ps e) (hn : ps.length ≤ 1048576) (hx : xss.length ≤ 1048576) :
    (runP sz bs xss ps e).2.length ≤ 1048576 ∧ (∀ r ∈ (runP sz bs xss ps e).2, r.length ≤ 1048576) ∧ (runP sz bs xss ps e).1.length ≤ 1048576 := by
  unfold runP
  split
  · rename_i d
    subst d
    obtain ⟨a, b⟩ := hr.ok
    obtain ⟨_, z1, z2, _⟩ := chkE_ok a
    have hin := b.1
    rw [List.length_map] at hin
    refine ⟨by rw [playP_len]; exact hx, fun r hr => ?_, by have := playP_cells (xss := xss) z2 ps; omega⟩
    obtain ⟨i, hi⟩ := List.mem_iff_getElem?.1 hr
    have hil : i < xss.length := by rw [← playP_len (sz := sz) (bs := bs) ps]; exact (List.getElem?_eq_some_iff.1 hi).1
    have := playP_cnt (sz := sz) (bs := bs) hin hil
    rw [hi] at this
    dsimp only [Option.getD] at this
    have h2 := cnt_le ps ps.length i
    rw [List.take_length] at h2
    omega
  · exact ⟨Nat.zero_le _, fun r hr => (by cases hr), Nat.zero_le _⟩

theorem sameEnding_spec {a b : Den kapiEnding} {h : Heap} {ea eb : List Sl} {st : PlS} {h1 h2 : Heap} (na : Nest h1 h kapiEffect a.1 ea st.2) (ca : New h1 h ki a.2.1 st.1) (nb : Nest h2 h kapiEffect b.1 eb st.2) (cb : New h2 h ki b.2.1 st.1)
    (hs : st.2.length ≤ 1048576 ∧ (∀ r ∈ st.2, r.length ≤ 1048576) ∧ st.1.length ≤ 1048576) {c1 : Sl → Sl → Heap → (Bool → Heap → Prop) → Prop} (i1 : ∀ {x y Q}, law22_sameCells.M x y h Q → c1 x y h Q) {Q : Bool → Heap → Prop} (hQ : Q true h) : law22_sameEnding.M c1 a b h Q := by
  obtain ⟨ao, ac, ua⟩ := a
  obtain ⟨bo, bc, ub⟩ := b
  dsimp only at na ca nb cb
  have la : ea.length = ao.len := na.out.len
  have lb : eb.length = bo.len := nb.out.len
  have l1 := na.len
  have l2 := nb.len
  have l0 := hs.1
  refine i1 (sameCells_spec ca.arr cb.arr hs.2.2 ⟨fun e => (by cases e), fun _ => ⟨fun e => absurd (of_decide_eq_true e) (by show ¬ (ao.len : Int) ≠ (bo.len : Int); omega), fun _ => ?_⟩⟩)
  refine Loop.up ea.length (fun s => s.1) (fun i s k => k = h) rfl rfl ?_
  rintro i ⟨i', u⟩ k go hi hc rfl hgo
  dsimp only at hc; subst hc
  refine ⟨fun e => ?_, fun _ => hQ⟩
  have e : (i : Int) < (ao.len : Int) := of_decide_eq_true e
  have hia : i < ea.length := by omega
  have hib : i < eb.length := by omega
  have his : i < st.2.length := by omega
  have hbA : (0 : Int) ≤ (i : Int) ∧ (i : Int) < (ao.len : Int) := by omega
  have hbB : (0 : Int) ≤ (i : Int) ∧ (i : Int) < (bo.len : Int) := by omega
  have hea : ea[i]? = some ea[i] := by simp
  have heb : eb[i]? = some eb[i] := by simp
  have hst : st.2[i]? = some st.2[i] := by simp
  have ra := na.row i _ _ hea hst
  have rb := nb.row i _ _ heb hst
  have rla := ra.len
  have rlb := rb.len
  have rls := hs.2.1 st.2[i] (by simp)
  have rda : ∀ {K : Sl → Prop}, K ea[i] → ((0 : Int) ≤ (i : Int) ∧ (i : Int) < (ao.len : Int)) ∧ deref ao.a fun a => ld (.sl : Kd) k (a.add ((i : Int).toNat * 1)) K := fun {K} hK =>
    ⟨hbA, na.out.arr.at hbA.1 hbA.2 rfl fun s hs => by rw [Int.toNat_natCast, hea] at hs; cases hs; exact hK⟩
  have rdb : ∀ {K : Sl → Prop}, K eb[i] → ((0 : Int) ≤ (i : Int) ∧ (i : Int) < (bo.len : Int)) ∧ deref bo.a fun a => ld (.sl : Kd) k (a.add ((i : Int).toNat * 1)) K := fun {K} hK =>
    ⟨hbB, nb.out.arr.at hbB.1 hbB.2 rfl fun s hs => by rw [Int.toNat_natCast, heb] at hs; cases hs; exact hK⟩
  refine rda (rdb ⟨fun f => absurd (of_decide_eq_true f) (by omega), fun _ => ?_⟩)
  refine Loop.up ea[i].len (fun s => s.1) (fun j s k' => k' = k) rfl rfl ?_
  rintro j ⟨j', u2⟩ k2 go2 hj hc rfl hgo2
  dsimp only at hc; subst hc
  refine rda ⟨fun f => ?_, fun f => hgo hia _ _ (w64_up' (n := ea.length) hia (by omega)) rfl⟩
  have f : (j : Int) < (ea[i].len : Int) := of_decide_eq_true f
  have hbj : (0 : Int) ≤ (j : Int) := by omega
  have fb : (j : Int) < (eb[i].len : Int) := by omega
  refine rda ⟨⟨hbj, f⟩, ra.arr.at hbj f rfl fun x hx => rdb ⟨⟨hbj, fb⟩, rb.arr.at hbj fb rfl fun y hy => ?_⟩⟩
  rw [hx] at hy; cases hy
  refine ⟨fun g => ?_, fun _ => hgo2 (by omega) _ _ (w64_up' (n := ea[i].len) (by omega) (by omega)) rfl⟩
  rw [eqK_refl] at g
  · cases g
  · rfl

theorem Scn.ext {h0 h h' c cls mk bs xss} (o : Scn h0 h c cls mk bs xss) {S : Nat → Prop} (e : Ext S h h') (d1 : ∀ x, fpS c cls x → ¬ S x) (d2 : ∀ x, blkOf c.2.2.1 x → ¬ S x) (d3 : ∀ x, blkOf mk x → ¬ S x) (f : ∀ x, S x → h0 x = none) : Scn h0 h' c cls mk bs xss :=
  ⟨o.beg.ext e (fun x q => d1 x (.inl q)) f, o.ls.ext e d2 f, o.lone.ext e d3 f, o.len, fun i sl xs a b => (o.row i sl xs a b).ext e (fun x q => d1 x (.inr ⟨sl, List.mem_of_getElem? a, q⟩)) f, o.sep⟩
theorem Scn.live {h0 h c cls mk bs xss} (o : Scn h0 h c cls mk bs xss) {x : Nat} (hx : fpS c cls x ∨ blkOf c.2.2.1 x ∨ blkOf mk x) : h x ≠ none := by
  rcases hx with (q | ⟨sl, hm, q⟩) | q | q
  · exact o.beg.own.live x q
  · obtain ⟨i, e⟩ := List.mem_iff_getElem?.1 hm
    have hi : i < xss.length := by rw [← o.len]; exact (List.getElem?_eq_some_iff.1 e).1
    exact (o.row i sl xss[i] e (by simp)).own.live x q
  · exact o.ls.own.live x q
  · exact o.lone.own.live x q
theorem Scn.fresh {h0 h c cls mk bs xss} (o : Scn h0 h c cls mk bs xss) {x : Nat} (hx : fpS c cls x) : h0 x = none := by
  rcases hx with q | ⟨sl, hm, q⟩
  · exact o.beg.new x q
  · obtain ⟨i, e⟩ := List.mem_iff_getElem?.1 hm
    have hi : i < xss.length := by rw [← o.len]; exact (List.getElem?_eq_some_iff.1 e).1
    exact (o.row i sl xss[i] e (by simp)).new x q

theorem exploreRun_spec {s : Sc} {t : Sl} {h0 : Heap} {bs ps : List Int} {xss : List (List Ac)} (r : ScR h0 s bs xss) (hs : Small bs xss) (hp : Arr h0 ki t ps) (hn : ps.length ≤ 1048576) {Q : Bool → Heap → Prop} (hQ : ∀ h', le h0 h' → Q true h')
    {c1 : Sc → Heap → (Sc → Heap → Prop) → Prop} {c2 : Sc → Heap → (Unit → Heap → Prop) → Prop} {c3 : Sl → Heap → (Sl → Heap → Prop) → Prop} {c4 c9 : Sc → Sl → Heap → ((Den kapiEnding × (Int × Unit)) → Heap → Prop) → Prop} {c5 : Sc → Sc → Heap → (Unit → Heap → Prop) → Prop}
    {c6 : Sl → Sl → Heap → (Unit → Heap → Prop) → Prop} {c7 c8 : Sl → Heap → (Bool → Heap → Prop) → Prop} {c10 : Den kapiEnding → Den kapiEnding → Heap → (Bool → Heap → Prop) → Prop} {c11 : Sc → Sc → Heap → (Bool → Heap → Prop) → Prop} {c12 : Sl → Sl → Heap → (Bool → Heap → Prop) → Prop}
    (i1 : ∀ {a h Q}, law22_copied.M a h Q → c1 a h Q) (i2 : ∀ {a h Q}, law22_moved.M a h Q → c2 a h Q) (i3 : ∀ {a h Q}, law22_turned.M a h Q → c3 a h Q)
    (i4 : ∀ {s : Sc} {t : Sl} {h : Heap} {bs ps : List Int} {xss : List (List Ac)} {Q : (Den kapiEnding × (Int × Unit)) → Heap → Prop}, ScR h s bs xss → Small bs xss → Arr h ki t ps → ps.length ≤ 1048576 → (∀ en e h', Rdy s.1 bs.length xss ps e → EndR h h' en (runP s.1 bs xss ps e) → Q (en, (e, ())) h') → c4 s t h Q)
    (i5 : ∀ {a b h Q}, law22_back.M a b h Q → c5 a b h Q) (i6 : ∀ {a b h Q}, law22_written.M a b h Q → c6 a b h Q) (i7 : ∀ {a h Q}, law22_effectsApart.M a h Q → c7 a h Q) (i8 : ∀ {a h Q}, law22_cellsApart.M a h Q → c8 a h Q)
    (i9 : ∀ {s : Sc} {t : Sl} {h : Heap} {bs ps : List Int} {xss : List (List Ac)} {Q : (Den kapiEnding × (Int × Unit)) → Heap → Prop}, ScR h s bs xss → Small bs xss → Arr h ki t ps → ps.length ≤ 1048576 → (∀ en e h', Rdy s.1 bs.length xss ps e → EndR h h' en (runP s.1 bs xss ps e) → Q (en, (e, ())) h') → c9 s t h Q)
    (i10 : ∀ {a b : Den kapiEnding} {h : Heap} {ea eb : List Sl} {st : PlS} {h1 h2 : Heap} {Q : Bool → Heap → Prop}, Nest h1 h kapiEffect a.1 ea st.2 → New h1 h ki a.2.1 st.1 → Nest h2 h kapiEffect b.1 eb st.2 → New h2 h ki b.2.1 st.1 →
      (st.2.length ≤ 1048576 ∧ (∀ r ∈ st.2, r.length ≤ 1048576) ∧ st.1.length ≤ 1048576) → Q true h → c10 a b h Q)
    (i11 : ∀ {h : Heap} {a b : Sc} {cls : List Sl} {mk : Sl} {bs : List Int} {xss : List (List Ac)} {Q}, Scn h0 h a cls mk bs xss → ScR h0 b bs xss → Small bs xss → a.1 = b.1 → Q true h → c11 a b h Q)
    (i12 : ∀ {h0 h : Heap} {t s : Sl} {ps : List Int} {Q : Bool → Heap → Prop}, BayK h0 h ki t ps (-77) → Arr h ki s ps → ps.length ≤ 1048576 → Q true h → c12 t s h Q) :
    law22_ExploreRun.M c1 c2 c3 c4 c5 c6 c7 c8 c9 c10 c11 c12 s t h0 Q := by
  refine i1 (copied_spec r hs fun c hA cls mk oA eA => i2 (moved_spec oA hs fun h2 bs' xss' o2 el ek => ?_))
  refine i3 (turned_spec (hp.le o2.base) hn fun p h3 qs bp hq => ?_)
  have o3 := o2.more bp.le
  refine i4 o3.read (o3.small hs el ek) bp.arr (by omega) fun en0 e0 h4 hr0 en0R => ?_
  have o4 := o3.more en0R.le
  have bp4 := bp.more en0R.le
  -- the scene is set right again
  refine i5 (back_spec2 o4 r hs el ek fun h5 o5 x5 => ?_)
  have dps : ∀ x, blkOf p x → ¬ fpS c cls x := fun x a b => o2.live (.inl b) (bp.new x a)
  have bp5 := (bp4.base o2.base).ext x5 dps (fun x q => o4.fresh q)
  refine i4 o5.read hs bp5.arr (by omega) fun en1 e1 h6 hr1 en1R => ?_
  have o6 := o5.more en1R.le
  have bp6 := bp5.more en1R.le
  refine i6 (written_spec bp6 hp hq.symm hn fun h7 bp7 x7 => ?_)
  have o7 := o6.ext x7 (fun x a b => dps x b a) (fun x a b => o2.live (.inr (.inl a)) (bp.new x b)) (fun x a b => o2.live (.inr (.inr a)) (bp.new x b)) bp5.new
  refine i4 o7.read hs bp7.arr hn fun en e h8 hr enR => ?_
  have o8 := o7.more enR.le
  have bp8 := bp7.more enR.le
  refine i4 o8.read hs bp8.arr hn fun ag e' h9 hr' agR => ?_
  obtain rfl := hr.one hr'
  have sm := runP_small hr hn hs.2.1
  obtain ⟨els, n9, c9', d9⟩ := agR
  refine i7 (effectsApart_spec n9 sm.1 sm.2.1 fun hB xB => ⟨fun _ => ?_, fun f => (by cases f)⟩)
  have lB : le h8 hB := le_ext n9.le xB (fun x q => n9.fresh q)
  have cB := c9'.ext xB d9 (fun x q => n9.fresh q)
  refine New.lit fun pc hC nC => ?_
  have nN : Nest h8 hC ki ⟨some pc, 1, 1⟩ [ag.2.1] [(runP c.1 bs xss ps e).1] := by
    refine ⟨nC.base lB, rfl, fun i sl xs a b => ?_, ?_⟩
    · cases i with
      | zero => cases a; cases b; exact cB.more nC.le
      | succ i => simp at a
    · refine List.pairwise_cons.2 ⟨fun y hy => ?_, by simp⟩
      obtain rfl : y = ag.2.1 := by simpa using hy
      exact fun x u v => cB.own.live x v (nC.new x u)
  refine i8 (cellsApart_spec nN (by simp) (fun xs hx => by obtain rfl : xs = (runP c.1 bs xss ps e).1 := by simpa using hx
                                                           exact sm.2.2) fun hD xD => ?_)
  have lD : le h8 hD := le_ext nN.le xD (fun x q => nN.fresh q)
  have enD := enR.more lD
  have oD := o8.more lD
  have bpD := bp8.more lD
  refine i9 (r.le oD.base) hs (hp.le oD.base) hn fun wa ew hE hrw waR => ?_
  have ec : c.1 = s.1 := eA
  have hrw : Rdy c.1 bs.length xss ps ew := by rw [ec]; exact hrw
  obtain rfl := hr.one hrw
  have enE := enD.more waR.le
  have oE := oD.more waR.le
  have bpE := bpD.more waR.le
  obtain ⟨ea, a1, a2, a3⟩ := enE
  have waR : EndR hD hE wa (runP c.1 bs xss ps e) := by rw [ec]; exact waR
  obtain ⟨eb, b1, b2, b3⟩ := waR
  refine ⟨fun d => absurd rfl (of_decide_eq_true d), fun _ => i10 (a := (en.1, (en.2.1, ()))) (b := (wa.1, (wa.2.1, ()))) a1 a2 b1 b2 sm ⟨fun d => (by cases d), fun _ => ?_⟩⟩
  refine i11 oE r hs ec ⟨fun d => (by cases d), fun _ => i12 bpE (hp.le oE.base) hn ⟨fun d => (by cases d), fun _ => ⟨fun _ => ?_, fun d => (by cases d)⟩⟩⟩
  refine i7 (effectsApart_spec a1 sm.1 sm.2.1 fun hF xF => ?_)
  exact hQ _ (le_ext oE.base xF (fun x q => o7.base.none (a1.fresh q)))

end Go.Mx
