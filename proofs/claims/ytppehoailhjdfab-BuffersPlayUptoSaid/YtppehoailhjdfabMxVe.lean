/-
  The reference's Play (plunderref21).
-/
import Derived.Test.YtppehoailhjdfabMxVd
set_option linter.unusedVariables false
set_option linter.unusedSimpArgs false
set_option linter.unusedSectionVars false
namespace Go.Mx

section
variable {cM : Int → Int → Heap → (Int → Heap → Prop) → Prop} {cF : Option Addr → Int → Heap → (Bool → Heap → Prop) → Prop} {cA : Option Addr → Int → AMv → Heap → (Eff → Heap → Prop) → Prop} (iM : ModC cM) (iF : RFlushC cF) (iA : RActC cA)
include iM iF iA
theorem rplay_loop {h hX : Heap} {bm : Nat} {ls : List (List AMv)} {ps : List Int} {lists picks : Sl} (hl : Arr2 h KMv lists ls) (hp : Arr h ki picks ps) (hnp : ps.length ≤ 1048576) (h4 : ∀ l ∈ ls, l.length ≤ 4096) (hn1 : 1 ≤ ls.length) (hn8 : ls.length ≤ 8) {s0 : PB} (ok0 : s0.Ok ls 0) (he0 : s0.e = List.replicate ls.length [])
    {S0 : Nat → Prop} (R0 : RmR h bm s0.m S0 hX) {so : Sl} (ne0 : Nest h hX KEf so (List.replicate ls.length Sl.none) (List.replicate ls.length [])) (d01 : ∀ x, S0 x → ¬ blkOf so x)
    {Q : (Den KRun × (Int × Unit)) → Heap → Prop} (hQ : ∀ r h' els wls, RunR h h' r ls.length (PB.run ls s0 ps) els wls (PB.done ls (PB.run ls s0 ps) ls.length) → Q (r, (0, ())) h') :
    Loop (ref21_Play.l5 cM cF cA lists picks Q (some (ptr bm)) so) (0, ()) hX := by
  have hll := hl.len
  have hpl := hp.1
  obtain ⟨sls, l1, l2, l3⟩ := hl
  have fn : ∀ {o : Sl} {x : Nat}, fpN o (List.replicate ls.length Sl.none) x → blkOf o x := by
    rintro o x (q | ⟨sl, hm, q⟩)
    · exact q
    · rw [List.eq_of_mem_replicate hm] at q; exact absurd q no_blk
  obtain ⟨la, ln, lc⟩ := lists
  cases la with
  | none => obtain ⟨a, e⟩ := l1.addr (by omega); cases e
  | some la =>
  obtain ⟨soa, son, soc⟩ := so
  have sol := ne0.out.len
  rw [List.length_replicate] at sol
  cases soa with
  | none => obtain ⟨a, e⟩ := ne0.out.arr.addr (by omega); cases e
  | some ea =>
  dsimp only at hll sol
  have l1n := l1.1
  dsimp only at l1n
  refine Loop.up ps.length (fun s => s.1) (fun j _ g => ∃ S els, RmR h bm (PB.run ls s0 (ps.take j)).m S g ∧ Nest h g KEf ⟨some ea, son, soc⟩ els (PB.run ls s0 (ps.take j)).e ∧ (∀ x, S x → ¬ fpN ⟨some ea, son, soc⟩ els x)) rfl ⟨S0, List.replicate ls.length Sl.none, R0, by show Nest _ _ _ _ _ s0.e; rw [he0]; exact ne0, fun x hx q => d01 x hx (fn q)⟩ ?_
  rintro j ⟨j', u⟩ g go hj hc ⟨S, els, R, ne, d1⟩ hgo
  dsimp only at hc; subst hc
  have okj : (PB.run ls s0 (ps.take j)).Ok ls 80000000 := (ok0.run (ps.take j)).mono (by have := List.length_take_le j ps; omega)
  refine ⟨fun e => ?_, fun e => ?_⟩
  · have e : (j : Int) < (picks.len : Int) := of_decide_eq_true e
    have hjt : j < ps.length := by omega
    have hrun := run_succ (s := s0) (ls := ls) hjt
    generalize PB.run ls s0 (ps.take j) = st at R ne okj hrun
    have lg := R.le
    refine ⟨⟨by omega, e⟩, (hp.le lg).at (by omega) e rfl fun p hp' => ?_⟩
    rw [Int.toNat_natCast] at hp'
    obtain rfl : ps[j] = p := by simpa [hjt] using hp'
    have hw2 : w64 (2 * (ln : Int)) = 2 * (ls.length : Int) := by rw [w64_of] <;> omega
    show cM ps[j] (w64 (2 * (ln : Int))) g _
    rw [hw2]
    refine iM (by omega) (by omega) ?_
    have hr := mod_rangeB (x := ps[j]) (n := 2 * (ls.length : Int)) (by omega)
    obtain ⟨k, hk⟩ := Int.eq_ofNat_of_zero_le hr.1
    rw [hk] at hr ⊢
    have hkt : (ps[j] % (2 * (ls.length : Int))).toNat = k := by rw [hk]; rfl
    have next : w64 ((j : Int) + 1) = ((j + 1 : Nat) : Int) := by rw [w64_of] <;> omega
    have hel := okj.el
    have elen := ne.len
    refine ⟨fun f => ?_, fun f => ?_⟩
    · have f : (ln : Int) ≤ (k : Int) := of_decide_eq_true f
      have hwk : w64 ((k : Int) - (ln : Int)) = ((k - ls.length : Nat) : Int) := by rw [w64_of] <;> omega
      show cF (some (ptr bm)) (w64 ((k : Int) - (ln : Int))) g _
      rw [hwk]
      have hs := PB.step_flush (ls := ls) (s := st) (x := ps[j]) (by omega)
      rw [hkt] at hs
      have hn := okj.n
      refine iF R okj.m (by omega) (fun q => absurd ⟨by omega, by omega⟩ q) fun i S' h' ei hi R' s' => ?_
      obtain rfl : k - ls.length = i := by omega
      refine hgo hjt _ _ next ⟨S', els, by rw [hrun, hs]; exact R', by rw [hrun, hs]; exact ne.ext s'.1 (fun x p q => d1 x q p) (fun x q => R.fresh q), fun x hx p => ?_⟩
      exact s'.off (T := fpN ⟨some ea, son, soc⟩ els) (fun x p q => d1 x q p) (fun x p => ne.live p) x p hx
    · have f : ¬ (ln : Int) ≤ (k : Int) := of_decide_eq_false f
      have hkl : k < ls.length := by omega
      have hei : els[k]? = some (els[k]'(by omega)) := by simp
      have hsi : st.e[k]? = some (st.e[k]'(by omega)) := by simp
      have hli : sls[k]? = some (sls[k]'(by omega)) := by simp
      have hxi : ls[k]? = some ls[k] := by simp
      have ge : st.e.getD k [] = st.e[k]'(by omega) := by rw [List.getD_eq_getElem?_getD, hsi]; rfl
      have gl : ls.getD k [] = ls[k] := by rw [List.getD_eq_getElem?_getD, hxi]; rfl
      have row := ne.row k _ _ hei hsi
      have lrow := l3 k _ _ hli hxi
      have rl := row.len
      have xl := lrow.1
      have x4 := h4 ls[k] (List.getElem_mem hkl)
      generalize els[k]'(by omega) = esl at hei row rl
      generalize sls[k]'(by omega) = lsl at hli lrow xl
      have hbE : 0 ≤ (k : Int) ∧ (k : Int) < (son : Int) := ⟨by omega, by omega⟩
      have hbL : 0 ≤ (k : Int) ∧ (k : Int) < (ln : Int) := ⟨by omega, by omega⟩
      have rE : ∀ {K : Sl → Prop}, K esl → ld .sl g (ea.add (k * 1)) K := fun h => ne.out.arr.ldAt rfl hei rfl h
      have rL : ∀ {K : Sl → Prop}, K lsl → ld .sl g (la.add (k * 1)) K := fun h => (l1.le lg).ldAt rfl hli rfl h
      refine ⟨hbE, hbL, rE (rL ⟨fun q => ?_, fun q => ?_⟩)⟩
      · have q : (esl.len : Int) < (lsl.len : Int) := of_decide_eq_true q
        have hbq : 0 ≤ (esl.len : Int) ∧ (esl.len : Int) < (lsl.len : Int) := ⟨by omega, q⟩
        have ht : ls[k][esl.len]? = some (ls[k][esl.len]'(by omega)) := by simp
        generalize ls[k][esl.len]'(by omega) = t at ht
        have hs := PB.step_act (ls := ls) (s := st) (x := ps[j]) hkt hkl (t := t) (by rw [gl, ge, rl]; exact ht)
        rw [ge] at hs
        have hn := okj.n
        obtain ⟨xa, xn, xc⟩ := lsl
        dsimp only at hbq xl q
        cases xa with
        | none => obtain ⟨a, e⟩ := lrow.addr (by dsimp only; omega); cases e
        | some xa =>
        refine ⟨hbL, hbE, rL (rE ⟨hbq, (lrow.le lg).ldAt rfl ht rfl (iA R okj.m (by omega) (by omega) fun S' h' R' s' => ?_)⟩)⟩
        have ne' := ne.ext s'.1 (fun x p q => d1 x q p) (fun x q => R.fresh q)
        have d1' : ∀ x, S' x → ¬ fpN ⟨some ea, son, soc⟩ els x := fun x hx p => s'.off (T := fpN ⟨some ea, son, soc⟩ els) (fun x p q => d1 x q p) (fun x p => ne.live p) x p hx
        have row' := ne'.row k _ _ hei hsi
        refine ⟨hbE, ne'.out.arr.ldAt rfl hei rfl (row'.app3 rfl rfl (by dsimp only at q xl; omega) fun t2 h2 n2 x2 b2 => ?_)⟩
        refine ⟨hbE, ne'.put (p := (k : Int)) (i := k) rfl hei n2 x2 b2 rfl fun h3 ne3 s3 => ?_⟩
        refine hgo hjt _ _ next ⟨S', els.set k t2, by rw [hrun, hs]; exact R'.ext s3.1 (fun x hx q => d1' x hx q) (fun x q => ne'.fresh q), by rw [hrun, hs]; exact ne3, fun x hx p => ?_⟩
        exact s3.off (T := S') (fun x p q => d1' x p q) (fun x p => R'.live p) x hx p
      · have q : ¬ (esl.len : Int) < (lsl.len : Int) := of_decide_eq_false q
        have hs := PB.step_idle (ls := ls) (s := st) (x := ps[j]) hkt hkl (by rw [gl, ge, rl]; exact List.getElem?_eq_none (by omega))
        exact hgo hjt _ _ next ⟨S, els, by rw [hrun, hs]; exact R, by rw [hrun, hs]; exact ne, d1⟩
  · have e : ¬ (j : Int) < (picks.len : Int) := of_decide_eq_false e
    rw [List.take_of_length_le (by omega)] at R ne okj
    generalize PB.run ls s0 ps = st at R ne okj hQ
    have hn := okj.n
    have hel := okj.el
    have elen := ne.len
    have lg := R.le
    obtain ⟨ba, c, l, qs, qels, who, rfl, o⟩ := R
    obtain ⟨qa, qn, qc, rfl⟩ := o.qsome (by omega)
    refine o.ld2 (o.ld0 (o.ar.ld1 (o.ld0 (o.ar.ld4 ?_))))
    refine Loop.up ls.length (fun s => s.1) (fun k s g' => g' = g ∧ s.2.1 = (⟨some ea, son, soc⟩, (⟨some qa, qn, qc⟩, (c, (l, (PB.done ls st k, ())))))) rfl ⟨rfl, rfl⟩ ?_
    rintro k ⟨k', run, u'⟩ g' go' hk hc ⟨rfl, e2⟩ hgo'
    dsimp only at hc e2; subst hc; subst e2
    refine ⟨fun e => ?_, fun e => ?_⟩
    · have e : (k : Int) < (ln : Int) := of_decide_eq_true e
      have hkl : k < ls.length := by omega
      have hei : els[k]? = some (els[k]'(by omega)) := by simp
      have hsi : st.e[k]? = some (st.e[k]'(by omega)) := by simp
      have hli : sls[k]? = some (sls[k]'(by omega)) := by simp
      have hxi : ls[k]? = some ls[k] := by simp
      have ge : st.e.getD k [] = st.e[k]'(by omega) := by rw [List.getD_eq_getElem?_getD, hsi]; rfl
      have gl : ls.getD k [] = ls[k] := by rw [List.getD_eq_getElem?_getD, hxi]; rfl
      have rl := (ne.row k _ _ hei hsi).len
      have xl := (l3 k _ _ hli hxi).1
      have er := okj.er k
      rw [ge, gl] at er
      obtain ⟨sl, hsl, row, hb, hqn⟩ := o.rowQ (g := g') (k := k) (by omega)
      have tl := row.len
      have hbE : 0 ≤ (k : Int) ∧ (k : Int) < (son : Int) := ⟨by omega, by omega⟩
      have hbL : 0 ≤ (k : Int) ∧ (k : Int) < (ln : Int) := ⟨by omega, by omega⟩
      have hsucc : PB.done ls st (k + 1) = (PB.done ls st k && ((st.m.q k).isEmpty && decide ((st.e.getD k []).length = (ls.getD k []).length))) := by
        unfold PB.done
        rw [List.range_succ, List.all_append, List.all_cons, List.all_nil, Bool.and_true]
      have next : w64 ((k : Int) + 1) = ((k + 1 : Nat) : Int) := by rw [w64_of] <;> omega
      have no : PB.done ls st (k + 1) = false → ref21_Play.j3 go' ((k : Int), (((⟨some ea, son, soc⟩, (⟨some qa, qn, qc⟩, (c, (l, (PB.done ls st k, ()))))) : Den KRun), u')) (true, ()) g' := fun z => by
        refine ⟨fun _ => hgo' hkl _ _ next ⟨rfl, ?_⟩, fun e => (by cases e)⟩
        rw [z]
      have yes : PB.done ls st (k + 1) = PB.done ls st k → ref21_Play.j3 go' ((k : Int), (((⟨some ea, son, soc⟩, (⟨some qa, qn, qc⟩, (c, (l, (PB.done ls st k, ()))))) : Den KRun), u')) (false, ()) g' := fun z => by
        refine ⟨fun e => (by cases e), fun _ => hgo' hkl _ _ next ⟨rfl, ?_⟩⟩
        rw [z]
      refine ⟨hbE, hbL, ne.out.arr.ldAt rfl hei rfl ((l1.le lg).ldAt rfl hli rfl ⟨fun q => no ?_, fun q => ?_⟩)⟩
      · have q := of_decide_eq_true q
        rw [hsucc, ge, gl, decide_eq_false (by omega), Bool.and_false, Bool.and_false]
      · have q := of_decide_eq_false q
        refine o.ld2 ⟨hb, o.q.out.arr.ldAt rfl hsl rfl ?_⟩
        show ref21_Play.j3 go' _ (decide ((0 : Int) < (sl.len : Int)), ()) g'
        by_cases z : (0 : Int) < (sl.len : Int)
        · rw [decide_eq_true z]
          refine no ?_
          cases hq : st.m.q k with
          | nil => rw [hq] at tl; exact absurd tl (by rw [List.length_nil]; omega)
          | cons a r => rw [hsucc, hq]; simp
        · rw [decide_eq_false z]
          refine yes ?_
          have hq : st.m.q k = [] := List.length_eq_zero_iff.1 (by omega)
          rw [hsucc, hq, ge, gl, decide_eq_true (by omega)]; simp
    · have e : ¬ (k : Int) < (ln : Int) := of_decide_eq_false e
      obtain rfl : k = ls.length := by omega
      refine hQ _ g' els qels ⟨ne, by rw [← hn]; exact o.q, o.ar.cell, o.ar.log, rfl, fun x p q => d1 x (.inr (.inr q)) p, fun x hx => ⟨fun p => d1 x (.inr (.inl (.inr (.inl hx)))) p, fun p => o.dq x p (.inr (.inl hx))⟩, fun x hx => ⟨fun p => d1 x (.inr (.inl (.inr (.inr hx)))) p, fun p => o.dq x p (.inr (.inr hx)), fun p => o.ar.ap x p hx⟩⟩
theorem rplay_spec {cR cU} (iR : JudgedC cR) (iU : RUsingC cU) : PlayC (ref21_Play.M cR cU cM cF cA) := by
  intro size used room lists picks h ls ps Q hl hp hE hQ
  have hll := hl.len
  refine iR hl hp ⟨fun e => ?_, fun e => ?_⟩
  · exact hE (of_decide_eq_true e)
  have e : judgedP size used room ls ps.length = 0 := Decidable.not_not.1 (of_decide_eq_false e)
  have hQ := hQ e
  obtain ⟨g1, g2, g3, g4, g5, g6, g7, g8, g9, g10⟩ := judgedP_ok e
  obtain ⟨rm, rfl⟩ := Int.eq_ofNat_of_zero_le (show 0 ≤ room by omega)
  obtain ⟨u, rfl⟩ := Int.eq_ofNat_of_zero_le g3
  rw [Int.toNat_natCast, Int.toNat_natCast] at hQ
  have ok0 := PB.start_ok (ls := ls) (n := ls.length) (rm := rm) (u := u) (sz := size) rfl g6 (by omega) (by omega) g4 g2
  rw [hll]
  refine iU g1 g2 g4 g5 g6 (by omega) (by omega) fun bm S h1 R => ?_
  refine make_new (by omega) (Int.le_refl _) (by show ((24 : Nat) : Int) * (ls.length : Int) ≤ _; omega) (by show (ls.length : Int) ≤ _; omega) fun so h2 n2 _ _ _ => ?_
  rw [Int.toNat_natCast] at n2
  have n2 : New h1 h2 .sl so (List.replicate ls.length Sl.none) := n2
  exact rplay_loop iM iF iA hl hp g9 g10 g5 g6 ok0 rfl (R.more n2.le) ((Nest.init n2).base R.le) (fun x hx q => R.live hx (n2.new x q)) hQ
end

end Go.Mx
