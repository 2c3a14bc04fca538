/-
  buffers.Play: its walk.
-/
import Derived.Test.YtppehoailhjdfabMxBf
set_option linter.unusedVariables false
set_option linter.unusedSimpArgs false
set_option linter.unusedSectionVars false
namespace Go.Mx

abbrev KRun : Kd := .pair .sl (.pair .sl (.pair .sl (.pair .sl (.pair .bool .nil))))
/-- A run in memory of its own. -/
structure RunR (h0 h : Heap) (r : Den KRun) (n : Nat) (s : PB) (els wls : List Sl) (dn : Bool) : Prop where
  e : Nest h0 h KEf r.1 els s.e
  w : Nest h0 h KWt r.2.1 wls ((List.range n).map s.m.q)
  c : New h0 h ki r.2.2.1 s.m.cs
  l : New h0 h KAcc r.2.2.2.1 s.m.lg
  dn : r.2.2.2.2.1 = dn
  ew : ∀ x, fpN r.1 els x → ¬ fpN r.2.1 wls x
  cx : ∀ x, blkOf r.2.2.1 x → ¬ fpN r.1 els x ∧ ¬ fpN r.2.1 wls x
  lx : ∀ x, blkOf r.2.2.2.1 x → ¬ fpN r.1 els x ∧ ¬ fpN r.2.1 wls x ∧ ¬ blkOf r.2.2.1 x
def zeroRun : Den KRun := (Sl.none, (Sl.none, (Sl.none, (Sl.none, (false, ())))))
def PlayC (c : Int → Int → Int → Sl → Sl → Heap → ((Den KRun × (Int × Unit)) → Heap → Prop) → Prop) : Prop := ∀ {size used room : Int} {lists picks : Sl} {h : Heap} {ls : List (List AMv)} {ps : List Int} {Q : (Den KRun × (Int × Unit)) → Heap → Prop}, Arr2 h KMv lists ls → Arr h ki picks ps →
  (judgedP size used room ls ps.length ≠ 0 → Q (zeroRun, (judgedP size used room ls ps.length, ())) h) →
  (judgedP size used room ls ps.length = 0 → ∀ r h' els wls, RunR h h' r ls.length (PB.run ls (PB.start ls.length room.toNat size used.toNat) ps) els wls (PB.done ls (PB.run ls (PB.start ls.length room.toNat size used.toNat) ps) ls.length) → Q (r, (0, ())) h') → c size used room lists picks h Q
theorem judgedP_ok {size used room : Int} {ls : List (List AMv)} {np : Nat} (h : judgedP size used room ls np = 0) : 0 ≤ size ∧ size ≤ 1048576 ∧ 0 ≤ used ∧ used ≤ size ∧ 1 ≤ ls.length ∧ ls.length ≤ 8 ∧ 1 ≤ room ∧ room ≤ 64 ∧ np ≤ 1048576 ∧ ∀ l ∈ ls, l.length ≤ 4096 := by
  unfold judgedP at h
  split at h
  · cases h
  split at h
  · cases h
  split at h
  · cases h
  split at h
  · cases h
  rename_i h1 h2 h3 h4
  refine ⟨by omega, by omega, by omega, by omega, by omega, by omega, by omega, by omega, by omega, fun l hl => ?_⟩
  refine Nat.le_of_not_lt fun q => h4 (List.any_eq_true.2 ⟨l, hl, decide_eq_true q⟩)
theorem getD_le {α : Type} {ls : List (List α)} {n : Nat} (h : ∀ l ∈ ls, l.length ≤ n) (k : Nat) : (ls.getD k []).length ≤ n := by
  rw [List.getD_eq_getElem?_getD]
  cases e : ls[k]? with
  | none => exact Nat.zero_le _
  | some l => exact h l (List.mem_of_getElem? e)
theorem run_succ {ls : List (List AMv)} {s : PB} {ps : List Int} {j : Nat} (h : j < ps.length) : PB.run ls s (ps.take (j + 1)) = PB.step ls (PB.run ls s (ps.take j)) ps[j] := by
  unfold PB.run
  rw [take_succ' ps h, List.foldl_append]; rfl
theorem mix_get {α : Type} {xs ys : List α} (e : xs.length = ys.length) {i j : Nat} (h : i ≤ j) : (mix i xs ys)[j]? = ys[j]? := by
  unfold mix
  by_cases q : i ≤ xs.length
  · rw [List.getElem?_append_right (by rw [List.length_take]; omega), List.length_take, Nat.min_eq_left q, List.getElem?_drop]
    congr 1; omega
  · rw [List.getElem?_eq_none (by rw [List.length_append, List.length_take, List.length_drop]; omega), List.getElem?_eq_none (by omega)]

section
variable {cJ : Int → Int → Int → Sl → Sl → Heap → (Int → Heap → Prop) → Prop} {cN : Int → Int → Int → Heap → (Den KPl → Heap → Prop) → Prop} {cU : Option Addr → Int → Heap → (Unit → Heap → Prop) → Prop} {cM : Int → Int → Heap → (Int → Heap → Prop) → Prop}
  {cF : Option Addr → Int → Heap → (Bool → Heap → Prop) → Prop} {cV : Option Addr → Int → Heap → (Option Addr → Heap → Prop) → Prop} {cA : Option Addr → AMv → Heap → (Eff → Heap → Prop) → Prop} {cW : Option Addr → Int → Heap → (Sl → Heap → Prop) → Prop} {cC cL : Option Addr → Heap → (Sl → Heap → Prop) → Prop}
  (iJ : JudgedC cJ) (iN : BNewC cN) (iU : UseC cU) (iM : ModC cM) (iF : FlushC cF) (iV : ViewC cV) (iA : VActC cA) (iW : WaitC cW) (iC : CellsC cC) (iL : LogC cL)
include iM iF iV iA iW iC iL
theorem bplay_loop {h hX : Heap} {bm : Nat} {ls : List (List AMv)} {ps : List Int} {lists picks : Sl} (hl : Arr2 h KMv lists ls) (hp : Arr h ki picks ps) (hnp : ps.length ≤ 1048576) (h4 : ∀ l ∈ ls, l.length ≤ 4096) (hn1 : 1 ≤ ls.length) (hn8 : ls.length ≤ 8) {s0 : PB} (ok0 : s0.Ok ls 0) (he0 : s0.e = List.replicate ls.length [])
    {S0 : Nat → Prop} (R0 : BmR h bm s0.m S0 hX) {so sw : Sl} (ne0 : Nest h hX KEf so (List.replicate ls.length Sl.none) (List.replicate ls.length [])) (nw0 : Nest h hX KWt sw (List.replicate ls.length Sl.none) (List.replicate ls.length [])) (d01 : ∀ x, S0 x → ¬ blkOf so x ∧ ¬ blkOf sw x) (d02 : ∀ x, blkOf so x → ¬ blkOf sw x)
    {Q : (Den KRun × (Int × Unit)) → Heap → Prop} (hQ : ∀ r h' els wls, RunR h h' r ls.length (PB.run ls s0 ps) els wls (PB.done ls (PB.run ls s0 ps) ls.length) → Q (r, (0, ())) h') :
    Loop (buffers_Play.l4 cM cF cV cA cW cC cL Q (lists, (picks, ((lists.len : Int), (some (ptr bm), (zeroRun, ()))))) so sw) (0, ()) hX := by
  have hll := hl.len
  have hpl := hp.1
  obtain ⟨sls, l1, l2, l3⟩ := hl
  have fn : ∀ {o : Sl} {x : Nat}, fpN o (List.replicate ls.length Sl.none) x → blkOf o x := by
    rintro o x (q | ⟨sl, hm, q⟩)
    · exact q
    · rw [List.eq_of_mem_replicate hm] at q; exact absurd q no_blk
  obtain ⟨la, ln, lc⟩ := lists
  cases la with
  | none => obtain ⟨a, e⟩ := l1.addr (by omega); cases e
  | some la =>
  obtain ⟨soa, son, soc⟩ := so
  have sol := ne0.out.len
  rw [List.length_replicate] at sol
  cases soa with
  | none => obtain ⟨a, e⟩ := ne0.out.arr.addr (by omega); cases e
  | some ea =>
  obtain ⟨swa, swn, swc⟩ := sw
  have swl := nw0.out.len
  rw [List.length_replicate] at swl
  cases swa with
  | none => obtain ⟨a, e⟩ := nw0.out.arr.addr (by omega); cases e
  | some wa =>
  dsimp only at hll sol swl
  have l1n := l1.1
  dsimp only at l1n
  refine Loop.up ps.length (fun s => s.1) (fun j _ g => ∃ S els, BmR h bm (PB.run ls s0 (ps.take j)).m S g ∧ Nest h g KEf ⟨some ea, son, soc⟩ els (PB.run ls s0 (ps.take j)).e ∧ Nest h g KWt ⟨some wa, swn, swc⟩ (List.replicate ls.length Sl.none) (List.replicate ls.length []) ∧
    (∀ x, S x → ¬ fpN ⟨some ea, son, soc⟩ els x ∧ ¬ blkOf ⟨some wa, swn, swc⟩ x) ∧ (∀ x, fpN ⟨some ea, son, soc⟩ els x → ¬ blkOf ⟨some wa, swn, swc⟩ x)) rfl ⟨S0, List.replicate ls.length Sl.none, R0, by show Nest _ _ _ _ _ s0.e; rw [he0]; exact ne0, nw0, fun x hx => ⟨fun q => (d01 x hx).1 (fn q), (d01 x hx).2⟩, fun x hx => d02 x (fn hx)⟩ ?_
  rintro j ⟨j', u⟩ g go hj hc ⟨S, els, R, ne, nw, d1, d2⟩ hgo
  dsimp only at hc; subst hc
  have okj : (PB.run ls s0 (ps.take j)).Ok ls 80000000 := (ok0.run (ps.take j)).mono (by have := List.length_take_le j ps; omega)
  refine ⟨fun e => ?_, fun e => ?_⟩
  · have e : (j : Int) < (picks.len : Int) := of_decide_eq_true e
    have hjt : j < ps.length := by omega
    have hrun := run_succ (s := s0) (ls := ls) hjt
    generalize PB.run ls s0 (ps.take j) = st at R ne okj hrun
    have lg := R.le
    refine ⟨⟨by omega, e⟩, (hp.le lg).at (by omega) e rfl fun p hp' => ?_⟩
    rw [Int.toNat_natCast] at hp'
    obtain rfl : ps[j] = p := by simpa [hjt] using hp'
    have hw2 : w64 (2 * (ln : Int)) = 2 * (ls.length : Int) := by rw [w64_of] <;> omega
    show cM ps[j] (w64 (2 * (ln : Int))) g _
    rw [hw2]
    refine iM (by omega) (by omega) ?_
    have hr := mod_rangeB (x := ps[j]) (n := 2 * (ls.length : Int)) (by omega)
    obtain ⟨k, hk⟩ := Int.eq_ofNat_of_zero_le hr.1
    rw [hk] at hr ⊢
    have hkt : (ps[j] % (2 * (ls.length : Int))).toNat = k := by rw [hk]; rfl
    have next : w64 ((j : Int) + 1) = ((j + 1 : Nat) : Int) := by rw [w64_of] <;> omega
    have hel := okj.el
    have elen := ne.len
    refine ⟨fun f => ?_, fun f => ?_⟩
    · have f : (ln : Int) ≤ (k : Int) := of_decide_eq_true f
      have hwk : w64 ((k : Int) - (ln : Int)) = ((k - ls.length : Nat) : Int) := by rw [w64_of] <;> omega
      show cF (some (ptr bm)) (w64 ((k : Int) - (ln : Int))) g _
      rw [hwk]
      have hs := PB.step_flush (ls := ls) (s := st) (x := ps[j]) (by omega)
      rw [hkt] at hs
      have hn := okj.n
      refine iF R okj.m (by omega) (fun q => absurd ⟨by omega, by omega⟩ q) fun i S' h' ei hi R' s' => ?_
      obtain rfl : k - ls.length = i := by omega
      refine hgo hjt _ _ next ⟨S', els, by rw [hrun, hs]; exact R', by rw [hrun, hs]; exact ne.ext s'.1 (fun x p q => (d1 x q).1 p) (fun x q => R.fresh q), nw.ext s'.1 (fun x p q => (d1 x q).2 (fn p)) (fun x q => R.fresh q), fun x hx => ⟨fun p => ?_, fun p => ?_⟩, d2⟩
      · exact s'.off (T := fpN ⟨some ea, son, soc⟩ els) (fun x p q => (d1 x q).1 p) (fun x p => ne.live p) x p hx
      · exact s'.off (T := blkOf ⟨some wa, swn, swc⟩) (fun x p q => (d1 x q).2 p) (fun x p => nw.live (.inl p)) x p hx
    · have f : ¬ (ln : Int) ≤ (k : Int) := of_decide_eq_false f
      have hkl : k < ls.length := by omega
      have hei : els[k]? = some (els[k]'(by omega)) := by simp
      have hsi : st.e[k]? = some (st.e[k]'(by omega)) := by simp
      have hli : sls[k]? = some (sls[k]'(by omega)) := by simp
      have hxi : ls[k]? = some ls[k] := by simp
      have ge : st.e.getD k [] = st.e[k]'(by omega) := by rw [List.getD_eq_getElem?_getD, hsi]; rfl
      have gl : ls.getD k [] = ls[k] := by rw [List.getD_eq_getElem?_getD, hxi]; rfl
      have row := ne.row k _ _ hei hsi
      have lrow := l3 k _ _ hli hxi
      have rl := row.len
      have xl := lrow.1
      have x4 := h4 ls[k] (List.getElem_mem hkl)
      generalize els[k]'(by omega) = esl at hei row rl
      generalize sls[k]'(by omega) = lsl at hli lrow xl
      refine ⟨⟨by omega, by dsimp only; omega⟩, ne.out.arr.atA (i := (k : Int)) (by omega) (by omega) rfl fun sl hsl => ?_⟩
      rw [Int.toNat_natCast, hei] at hsl
      cases hsl
      refine ⟨⟨by omega, by dsimp only; omega⟩, (l1.le lg).atA (i := (k : Int)) (by omega) (by omega) rfl fun tl htl => ?_⟩
      rw [Int.toNat_natCast, hli] at htl
      cases htl
      refine ⟨fun q => ?_, fun q => ?_⟩
      · have q : (esl.len : Int) < (lsl.len : Int) := of_decide_eq_true q
        refine ⟨⟨by omega, by dsimp only; omega⟩, ⟨by omega, by dsimp only; omega⟩, ne.out.arr.atA (i := (k : Int)) (by omega) (by omega) rfl fun sl hsl => (l1.le lg).atA (i := (k : Int)) (by omega) (by omega) rfl fun tl htl => ?_⟩
        rw [Int.toNat_natCast, hei] at hsl
        cases hsl
        rw [Int.toNat_natCast, hli] at htl
        cases htl
        obtain ⟨ra, rn, rc⟩ := lsl
        cases ra with
        | none => obtain ⟨a, e⟩ := lrow.addr (by dsimp only at q ⊢; omega); cases e
        | some ra =>
        refine ⟨⟨by omega, q⟩, (lrow.le lg).atA (i := (esl.len : Int)) (by omega) q rfl fun t ht => ?_⟩
        have ht0 := ht
        rw [Int.toNat_natCast] at ht
        have hs := PB.step_act (ls := ls) (s := st) (x := ps[j]) hkt hkl (t := t) (by rw [gl, ge, rl]; exact ht)
        rw [ge] at hs
        have hn := okj.n
        refine iV R (by omega) (fun q => absurd ⟨by omega, by omega⟩ q) fun i ei hi => ?_
        obtain rfl : k = i := by omega
        refine ⟨(lrow.le lg).sees (by omega) q ht0 rfl, (l1.le lg).sees (i := (k : Int)) (by omega) (by omega) (by rw [Int.toNat_natCast]; exact hli) rfl, ne.out.arr.sees (i := (k : Int)) (by omega) (by omega) (by rw [Int.toNat_natCast]; exact hei) rfl, ?_⟩
        refine iA R okj.m (by omega) hi fun S' h' R' s' => ?_
        have ne' := ne.ext s'.1 (fun x p q => (d1 x q).1 p) (fun x q => R.fresh q)
        have nw' := nw.ext s'.1 (fun x p q => (d1 x q).2 (fn p)) (fun x q => R.fresh q)
        have d1' : ∀ x, S' x → ¬ fpN ⟨some ea, son, soc⟩ els x ∧ ¬ blkOf ⟨some wa, swn, swc⟩ x := fun x hx =>
          ⟨fun p => s'.off (T := fpN ⟨some ea, son, soc⟩ els) (fun x p q => (d1 x q).1 p) (fun x p => ne.live p) x p hx, fun p => s'.off (T := blkOf ⟨some wa, swn, swc⟩) (fun x p q => (d1 x q).2 p) (fun x p => nw.live (.inl p)) x p hx⟩
        refine ⟨ne'.out.arr.sees (i := (k : Int)) (by omega) (by omega) (by rw [Int.toNat_natCast]; exact hei) rfl, ?_⟩
        have row' := ne'.row k _ _ hei hsi
        refine row'.app3 rfl rfl (by dsimp only at q xl; omega) fun t2 h2 n2 x2 b2 => ?_
        refine ⟨⟨by omega, by dsimp only; omega⟩, ne'.put (p := (k : Int)) (i := k) rfl hei n2 x2 b2 rfl fun h3 ne3 s3 => ?_⟩
        refine hgo hjt _ _ next ⟨S', els.set k t2, by rw [hrun, hs]; exact R'.ext s3.1 (fun x hx q => (d1' x hx).1 q) (fun x q => ne'.fresh q), by rw [hrun, hs]; exact ne3, nw'.ext s3.1 (fun x p q => d2 x q (fn p)) (fun x q => ne'.fresh q), fun x hx => ⟨fun p => ?_, (d1' x hx).2⟩, fun x p p' => ?_⟩
        · exact s3.off (T := S') (fun x p q => (d1' x p).1 q) (fun x p => R'.live p) x hx p
        · exact s3.off (T := blkOf ⟨some wa, swn, swc⟩) (fun x p q => d2 x q p) (fun x p => nw'.live (.inl p)) x p' p
      · have q : ¬ (esl.len : Int) < (lsl.len : Int) := of_decide_eq_false q
        have hs := PB.step_idle (ls := ls) (s := st) (x := ps[j]) hkt hkl (by rw [gl, ge, rl]; exact List.getElem?_eq_none (by omega))
        exact hgo hjt _ _ next ⟨S, els, by rw [hrun, hs]; exact R, by rw [hrun, hs]; exact ne, nw, d1, d2⟩
  · have e : ¬ (j : Int) < (picks.len : Int) := of_decide_eq_false e
    rw [List.take_of_length_le (by omega)] at R ne okj
    generalize PB.run ls s0 ps = st at R ne okj hQ
    have hn := okj.n
    have hel := okj.el
    have elen := ne.len
    have hmap : ((List.range ls.length).map st.m.q).length = (List.replicate ls.length ([] : List Wait)).length := by simp
    refine Loop.up ls.length (fun s => s.1) (fun k s g' => ∃ wls, s.2 = ((⟨some ea, son, soc⟩, (⟨some wa, swn, swc⟩, (Sl.none, (Sl.none, (PB.done ls st k, ()))))), ()) ∧ BmR h bm st.m S g' ∧ Nest h g' KEf ⟨some ea, son, soc⟩ els st.e ∧ Nest h g' KWt ⟨some wa, swn, swc⟩ wls (mix k ((List.range ls.length).map st.m.q) (List.replicate ls.length [])) ∧
      (∀ x, S x → ¬ fpN ⟨some wa, swn, swc⟩ wls x) ∧ (∀ x, fpN ⟨some ea, son, soc⟩ els x → ¬ fpN ⟨some wa, swn, swc⟩ wls x)) rfl ⟨List.replicate ls.length Sl.none, rfl, R, ne, nw, fun x hx p => (d1 x hx).2 (fn p), fun x hx p => d2 x hx (fn p)⟩ ?_
    rintro k ⟨k', run, u'⟩ g' go' hk hc ⟨wls, e2, R, ne, nw, d3, d4⟩ hgo'
    dsimp only at hc; subst hc
    dsimp only at e2
    obtain ⟨rfl, -⟩ := Prod.mk.inj e2
    have lg := R.le
    have wlen := nw.len
    rw [mix_len hmap, List.length_replicate] at wlen
    refine ⟨fun e => ?_, fun e => ?_⟩
    · have e : (k : Int) < (ln : Int) := of_decide_eq_true e
      have hkl : k < ls.length := by omega
      refine iW R okj.m (fun q => absurd ⟨by omega, by omega⟩ q) fun i t h' ei hi n' => ?_
      obtain rfl : k = i := by omega
      have hwi : wls[k]? = some (wls[k]'(by omega)) := by simp
      refine ⟨⟨by omega, by dsimp only; omega⟩, nw.put (p := (k : Int)) (i := k) rfl hwi (n'.base lg) n'.le.toExt (fun b hb => .inr (n'.new b hb)) rfl fun h3 nw3 s3 => ?_⟩
      rw [mix_set hmap (by simp [hkl])] at nw3
      have R3 := R.ext s3.1 (fun x hx q => d3 x hx q) (fun x q => nw.fresh q)
      have ne3 := ne.ext s3.1 (fun x p q => d4 x p q) (fun x q => nw.fresh q)
      have d33 : ∀ x, S x → ¬ fpN ⟨some wa, swn, swc⟩ (wls.set k t) x := s3.off (fun x p q => d3 x p q) (fun x p => R.live p)
      have d43 : ∀ x, fpN ⟨some ea, son, soc⟩ els x → ¬ fpN ⟨some wa, swn, swc⟩ (wls.set k t) x := s3.off (fun x p q => d4 x p q) (fun x p => ne.live p)
      have next : w64 ((k : Int) + 1) = ((k + 1 : Nat) : Int) := by rw [w64_of] <;> omega
      have hsucc : PB.done ls st (k + 1) = (PB.done ls st k && ((st.m.q k).isEmpty && decide ((st.e.getD k []).length = (ls.getD k []).length))) := by
        unfold PB.done
        rw [List.range_succ, List.all_append, List.all_cons, List.all_nil, Bool.and_true]
      have fin : ∀ b, b = PB.done ls st (k + 1) → go' (w64 ((k : Int) + 1), (((⟨some ea, son, soc⟩, (⟨some wa, swn, swc⟩, (Sl.none, (Sl.none, (b, ()))))) : Den KRun), ())) h3 := fun b hb => by
        subst hb
        exact hgo' hkl _ _ next ⟨_, rfl, R3, ne3, nw3, d33, d43⟩
      have hei : els[k]? = some (els[k]'(by omega)) := by simp
      have hsi : st.e[k]? = some (st.e[k]'(by omega)) := by simp
      have hli : sls[k]? = some (sls[k]'(by omega)) := by simp
      have hxi : ls[k]? = some ls[k] := by simp
      have ge : st.e.getD k [] = st.e[k]'(by omega) := by rw [List.getD_eq_getElem?_getD, hsi]; rfl
      have gl : ls.getD k [] = ls[k] := by rw [List.getD_eq_getElem?_getD, hxi]; rfl
      have rl := (ne.row k _ _ hei hsi).len
      have xl := (l3 k _ _ hli hxi).1
      have tl := n'.len
      refine ⟨fun b => ?_, fun b => fin false (by rw [hsucc, show PB.done ls st k = false from b]; rfl)⟩
      have b : PB.done ls st k = true := b
      rw [b, Bool.true_and] at hsucc
      refine ⟨⟨by omega, by dsimp only; omega⟩, nw3.out.arr.atA (i := (k : Int)) (by omega) (by omega) rfl fun t8 ht8 => ?_⟩
      rw [Int.toNat_natCast, List.getElem?_set_self (by omega)] at ht8
      cases ht8
      refine ⟨fun z => ?_, fun z => fin false ?_⟩
      · have z : (t.len : Int) = 0 := of_decide_eq_true z
        refine ⟨⟨by omega, by dsimp only; omega⟩, ⟨by omega, by dsimp only; omega⟩, ne3.out.arr.atA (i := (k : Int)) (by omega) (by omega) rfl fun sl hsl => (l1.le R3.le).atA (i := (k : Int)) (by omega) (by omega) rfl fun tl' htl => ?_⟩
        rw [Int.toNat_natCast, hei] at hsl
        cases hsl
        rw [Int.toNat_natCast, hli] at htl
        cases htl
        refine fin _ ?_
        rw [hsucc, List.length_eq_zero_iff.1 (show (st.m.q k).length = 0 by omega), ge, gl, rl, xl]
        show _ = (true && _)
        rw [Bool.true_and]
        exact decide_eq_decide.2 (by omega)
      · have z : ¬ (t.len : Int) = 0 := of_decide_eq_false z
        cases hq : st.m.q k with
        | nil => rw [hq] at tl; exact absurd tl (by rw [List.length_nil]; omega)
        | cons a r => rw [hsucc, hq]; rfl
    · have e : ¬ (k : Int) < (ln : Int) := of_decide_eq_false e
      obtain rfl : k = ls.length := by omega
      rw [mix_all (by simp) hmap] at nw
      refine iC R okj.m (by omega) fun c h5 n5 => ?_
      have R5 := R.more n5.le
      refine iL R5 okj.m (by omega) fun l h6 n6 => ?_
      have l56 := n5.le.trans n6.le
      refine hQ _ h6 els wls ⟨ne.more l56, nw.more l56, (n5.base lg).more n6.le, n6.base R5.le, rfl, d4, fun x hx => ⟨fun p => ne.live p (n5.new x hx), fun p => nw.live p (n5.new x hx)⟩, fun x hx => ⟨fun p => (ne.more n5.le).live p (n6.new x hx), fun p => (nw.more n5.le).live p (n6.new x hx), fun p => n5.own.live x p (n6.new x hx)⟩⟩
include iJ iN iU
theorem bplay_spec : PlayC (buffers_Play.M cJ cN cU cM cF cV cA cW cC cL) := by
  intro size used room lists picks h ls ps Q hl hp hE hQ
  have hll := hl.len
  refine iJ hl hp ⟨fun e => ?_, fun e => ?_⟩
  · exact hE (of_decide_eq_true e)
  have e : judgedP size used room ls ps.length = 0 := Decidable.not_not.1 (of_decide_eq_false e)
  have hQ := hQ e
  obtain ⟨g1, g2, g3, g4, g5, g6, g7, g8, g9, g10⟩ := judgedP_ok e
  obtain ⟨rm, rfl⟩ := Int.eq_ofNat_of_zero_le (show 0 ≤ room by omega)
  obtain ⟨u, rfl⟩ := Int.eq_ofNat_of_zero_le g3
  rw [Int.toNat_natCast, Int.toNat_natCast] at hQ
  show cN size (lists.len : Int) (rm : Int) h _
  refine iN (fun q => absurd ⟨g1, g2⟩ q) (fun _ q => absurd (by omega) q) fun n rm' _ hn _ _ hrm _ _ bm S h1 R => ⟨fun e => (by cases e), fun _ => ?_⟩
  obtain rfl : rm = rm' := by omega
  obtain rfl : lists.len = n := by omega
  have rest : ∀ S h1, BmR h bm (PB.start ls.length rm size u).m S h1 → buffers_Play.k9 cM cF cV cA cW cC cL Q (lists, (picks, ((lists.len : Int), (some (ptr bm), (zeroRun, ()))))) h1 := by
    intro S h1 R
    have ok0 := PB.start_ok (ls := ls) (n := ls.length) (rm := rm) (u := u) (sz := size) rfl g6 (by omega) (by omega) g4 g2
    have mk : ∀ {h2 : Heap} {K : Sl → Heap → Prop}, (∀ s h', New h2 h' .sl s (List.replicate ls.length Sl.none) → K s h') → makeM (.sl : Kd) 24 h2 (lists.len : Int) (lists.len : Int) K := by
      intro h2 K hK
      refine make_new (by omega) (Int.le_refl _) (by show ((24 : Nat) : Int) * (lists.len : Int) ≤ _; omega) (by show (lists.len : Int) ≤ _; omega) fun s h' n _ _ _ => hK s h' ?_
      rw [Int.toNat_natCast, hll] at n
      exact n
    have go : ∀ {h2 h3 : Heap} {so sw : Sl}, New h1 h2 .sl so (List.replicate ls.length Sl.none) → New h2 h3 .sl sw (List.replicate ls.length Sl.none) →
        Nest h h3 KEf so (List.replicate ls.length Sl.none) (List.replicate ls.length []) ∧ Nest h h3 KEf sw (List.replicate ls.length Sl.none) (List.replicate ls.length []) ∧ Nest h h3 KWt so (List.replicate ls.length Sl.none) (List.replicate ls.length []) ∧ Nest h h3 KWt sw (List.replicate ls.length Sl.none) (List.replicate ls.length []) ∧ BmR h bm (PB.start ls.length rm size u).m S h3 ∧ (∀ x, S x → ¬ blkOf so x ∧ ¬ blkOf sw x) ∧ (∀ x, blkOf so x → ¬ blkOf sw x) := by
      intro h2 h3 so sw n1 n2
      refine ⟨((Nest.init n1).base R.le).more n2.le, (Nest.init n2).base (R.le.trans n1.le), ((Nest.init n1).base R.le).more n2.le, (Nest.init n2).base (R.le.trans n1.le), (R.more n1.le).more n2.le, fun x hx => ⟨fun p => R.live hx (n1.new x p), fun p => (R.more n1.le).live hx (n2.new x p)⟩, fun x p q => n1.own.live x p (n2.new x q)⟩
    refine ⟨mk fun so h2 n1 => mk fun sw h3 n2 => ?_, mk fun sw h2 n1 => mk fun so h3 n2 => ?_⟩
    · obtain ⟨a1, a2, a3, a4, a5, a6, a7⟩ := go n1 n2
      exact bplay_loop iM iF iV iA iW iC iL hl hp g9 g10 g5 g6 ok0 rfl a5 a1 a4 a6 a7 hQ
    · obtain ⟨a1, a2, a3, a4, a5, a6, a7⟩ := go n1 n2
      exact bplay_loop iM iF iV iA iW iC iL hl hp g9 g10 g5 g6 ok0 rfl a5 a2 a3 (fun x hx => ⟨(a6 x hx).2, (a6 x hx).1⟩) (fun x p q => a7 x q p) hQ
  rw [hll] at R
  refine ⟨fun q => ?_, fun q => ?_⟩
  · have q : (0 : Int) < (u : Int) := of_decide_eq_true q
    exact iU R g2 (by omega) g4 fun S' h' R' => rest S' h' R'
  · have q : ¬ (0 : Int) < (u : Int) := of_decide_eq_false q
    obtain rfl : u = 0 := by omega
    exact rest S h1 R
end

end Go.Mx
