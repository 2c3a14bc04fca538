/-
  The law BuffersFenced: its walk.
-/
import Derived.Test.YtppehoailhjdfabMxBs
set_option linter.unusedVariables false
set_option linter.unusedSimpArgs false
set_option linter.unusedSectionVars false
namespace Go.Mx

theorem PB.step_size (ls : List (List AMv)) (s : PB) (x : Int) : (PB.step ls s x).m.sz = s.m.sz := by
  unfold PB.step
  dsimp only
  split
  · exact (BM.flush_same _ _).2.2.1
  · split
    · exact (BM.act_n _ _ _).2.2.1
    · rfl
theorem PB.run_size (ls : List (List AMv)) : ∀ (ps : List Int) (s : PB), (PB.run ls s ps).m.sz = s.m.sz
  | [], _ => rfl
  | x :: ps, s => (PB.run_size ls ps _).trans (PB.step_size ls s x)
def LI (ls : List (List AMv)) (st : PB) (k : Nat) (a : List Nat) : Prop := a.length = ls.length ∧ ∀ w, w < ls.length → ∃ m, a[w]? = some m ∧ m ≤ (st.e.getD w []).length ∧ toldL w (leftL ls st w m) = whoL w (st.m.lg.drop k) ++ (st.m.q w).map (stE w)
theorem LI.set {ls : List (List AMv)} {st : PB} {k k' : Nat} {a : List Nat} (li : LI ls st k a) {w m : Nat} (hw : w < ls.length) (hm : m ≤ (st.e.getD w []).length) (ht : toldL w (leftL ls st w m) = whoL w (st.m.lg.drop k') ++ (st.m.q w).map (stE w)) (ho : ∀ v, v ≠ w → whoL v (st.m.lg.drop k') = whoL v (st.m.lg.drop k)) : LI ls st k' (a.set w m) := by
  refine ⟨by rw [List.length_set]; exact li.1, fun v hv => ?_⟩
  by_cases e : v = w
  · subst e
    exact ⟨m, by rw [List.getElem?_set_self (by rw [li.1]; exact hw)], hm, ht⟩
  · obtain ⟨m', a1, a2, a3⟩ := li.2 v hv
    exact ⟨m', by rw [List.getElem?_set_ne (fun q => e q.symm)]; exact a1, a2, by rw [a3, ho v e]⟩
def RI (ls : List (List AMv)) (st : PB) (i : Nat) (a : List Nat) : Prop := a.length = ls.length ∧ ∀ w, i ≤ w → w < ls.length → ∃ m, a[w]? = some m ∧ m ≤ (st.e.getD w []).length ∧ toldL w (leftL ls st w m) = (st.m.q w).map (stE w)
structure FX (hR : Heap) (ls : List (List AMv)) (st : PB) (l e wt rl : Sl) (sls els wls : List Sl) : Prop where
  l1 : Arr hR .sl l sls
  ll : sls.length = ls.length
  lr : ∀ (i : Nat) sl, sls[i]? = some sl → Arr hR KMv sl (ls.getD i [])
  e1 : Arr hR .sl e els
  el : els.length = ls.length
  er : ∀ (i : Nat) sl, els[i]? = some sl → Arr hR KEf sl (st.e.getD i [])
  w1 : Arr hR .sl wt wls
  wl : wls.length = ls.length
  wr : ∀ (i : Nat) sl, wls[i]? = some sl → sl.len = (st.m.q i).length
  lg : Arr hR KAcc rl st.m.lg
  ok : st.Ok ls 80000000
  x4 : ∀ w, (ls.getD w []).length ≤ 4096
  l2 : st.m.lg.length ≤ 2000

section
variable {hR : Heap} {ls : List (List AMv)} {st : PB} {la ea wa sa : Addr} {ln lc en ec wn wc sn sc : Nat} {rc rl : Sl} {rd : Bool} {sls els wls : List Sl} (X : FX hR ls st ⟨some la, ln, lc⟩ ⟨some ea, en, ec⟩ ⟨some wa, wn, wc⟩ rl sls els wls) {size used : Int} {picks : Sl} {u1 u2 : Unit}
  {ct : Int → AMv → Eff → Heap → (Acc → Heap → Prop) → Prop} (iT : ToldC ct) {Q : Bool → Heap → Prop}
include X iT
theorem fen_skip {k w : Nat} {a2 : Den (.pair (.int .i64) (.pair (.int .i64) (.pair (.int .i64) (.pair (.int .i64) (.pair .bool .nil)))))} (hk : st.m.lg[k]? = some (((w : Nat) : Int), a2)) (hw : w < ls.length) {go : (Int × Unit) → Heap → Prop} {u3 : Unit} {a0 : List Nat} {g0 : Heap} (n0 : New hR g0 ki ⟨some sa, sn, sc⟩ (nz a0)) (li0 : LI ls st k a0)
    (hgo : ∀ a g, New hR g ki ⟨some sa, sn, sc⟩ (nz a) → LI ls st (k + 1) a → go (((k + 1 : Nat) : Int), ()) g) :
    Loop (law21_BuffersFenced.l7 ct Q (size, (used, (picks, (⟨some la, ln, lc⟩, ((⟨some ea, en, ec⟩, (⟨some wa, wn, wc⟩, (rc, (rl, (rd, u1))))), u2))))) ⟨some sa, sn, sc⟩ go ((k : Int), u3) ((w : Int), a2)) () g0 := by
  have hkl := (List.getElem?_eq_some_iff.1 hk).1
  have l2 := X.l2
  have hdrop : st.m.lg.drop k = ((w : Int), a2) :: st.m.lg.drop (k + 1) := by
    rw [List.drop_eq_getElem_cons hkl, (List.getElem?_eq_some_iff.1 hk).2]
  have lln := X.l1.1
  have eln := X.e1.1
  have ll := X.ll
  have el := X.el
  dsimp only at lln eln
  obtain ⟨lsl, hli⟩ : ∃ sl, sls[w]? = some sl := ⟨sls[w]'(by omega), by simp⟩
  obtain ⟨esl, hei⟩ : ∃ sl, els[w]? = some sl := ⟨els[w]'(by omega), by simp⟩
  have hX := X.lr w _ hli
  have hE := X.er w _ hei
  have her := X.ok.er w
  have hx4 := X.x4 w
  have hxl := hX.1
  have hel := hE.1
  refine Loop.idxB (st.e.getD w []).length (fun i _ g => ∃ a m, New hR g ki ⟨some sa, sn, sc⟩ (nz a) ∧ LI ls st k a ∧ a[w]? = some m ∧ i ≤ m) (by
    obtain ⟨m, h1, _⟩ := li0.2 w hw
    exact ⟨a0, m, n0, li0, h1, Nat.zero_le _⟩) ?_
  rintro i ⟨⟩ g go58 hi ⟨a, m, n, li, hm, him⟩ hgo58
  obtain ⟨m', hm', hmE, ht⟩ := li.2 w hw
  rw [hm] at hm'
  cases hm'
  rw [hdrop, whoL_cons, if_pos rfl] at ht
  have hmlt : m < (st.e.getD w []).length := by
    refine Nat.lt_of_not_le fun q => ?_
    have : leftL ls st w m = [] := List.length_eq_zero_iff.1 (by rw [left_len X.ok]; omega)
    rw [this] at ht
    cases ht
  obtain ⟨t, f, htx, hfx, hl⟩ := left_cons X.ok hmlt
  rw [hl, toldL_cons] at ht
  have lg := n.le
  have al := n.len
  have nzl : (nz a).length = a.length := List.length_map ..
  have ali := li.1
  dsimp only at al
  have hbA : 0 ≤ (w : Int) ∧ (w : Int) < (sn : Int) := ⟨by omega, by omega⟩
  have hbE : 0 ≤ (w : Int) ∧ (w : Int) < (en : Int) := ⟨by omega, by omega⟩
  have hbL : 0 ≤ (w : Int) ∧ (w : Int) < (ln : Int) := ⟨by omega, by omega⟩
  have hbm : 0 ≤ (m : Int) ∧ (m : Int) < (lsl.len : Int) := ⟨by omega, by omega⟩
  have hbf : 0 ≤ (m : Int) ∧ (m : Int) < (esl.len : Int) := ⟨by omega, by omega⟩
  obtain ⟨xa, xn, xc⟩ := lsl
  obtain ⟨fa, fn, fc⟩ := esl
  dsimp only at hbm hbf hxl hel
  cases xa with
  | none => obtain ⟨a, e⟩ := hX.addr (by dsimp only; omega); cases e
  | some xa =>
  cases fa with
  | none => obtain ⟨a, e⟩ := hE.addr (by dsimp only; omega); cases e
  | some fa =>
  have rA : ∀ {K : Int → Prop}, K (m : Int) → ld ki g (sa.add (w * 1)) K := fun h => n.arr.ldAt rfl (nz_get hm) rfl h
  have rL : ∀ {K : Sl → Prop}, K ⟨some xa, xn, xc⟩ → ld .sl g (la.add (w * 1)) K := fun h => (X.l1.le lg).ldAt rfl hli rfl h
  have rE : ∀ {K : Sl → Prop}, K ⟨some fa, fn, fc⟩ → ld .sl g (ea.add (w * 1)) K := fun h => (X.e1.le lg).ldAt rfl hei rfl h
  have next : w64 ((m : Int) + 1) = ((m + 1 : Nat) : Int) := by rw [w64_of] <;> omega
  have nextk : w64 ((k : Int) + 1) = ((k + 1 : Nat) : Int) := by rw [w64_of] <;> omega
  -- a step further
  have stp : ∀ {K : Heap → Prop}, (∀ g', New hR g' ki ⟨some sa, sn, sc⟩ (nz (a.set w (m + 1))) → K g') → Go.Mx.st ki g (sa.add (w * 1)) (w64 ((m : Int) + 1)) K := fun hK => n.stAt rfl (by omega) rfl rfl fun g' n' _ => hK g' (by rw [next, nz_set] at n'; exact n')
  have skip : toldOk (t, f) = false → law21_BuffersFenced.j5 ⟨some sa, sn, sc⟩ ((w : Int), a2) go58 () g := by
    intro q
    refine ⟨hbA, rA ⟨hbA, stp fun g' n' => hgo58 (by omega) _ _ ⟨_, m + 1, n', li.set hw hmlt ?_ (fun _ _ => rfl), by rw [List.getElem?_set_self (by omega)], by omega⟩⟩⟩
    rw [q, if_neg (by decide)] at ht
    rw [ht, hdrop, whoL_cons, if_pos rfl]
  have take : toldOk (t, f) = true → law21_BuffersFenced.j4 ct Q (size, (used, (picks, (⟨some la, ln, lc⟩, ((⟨some ea, en, ec⟩, (⟨some wa, wn, wc⟩, (rc, (rl, (rd, u1))))), u2))))) ⟨some sa, sn, sc⟩ go ((k : Int), u3) ((w : Int), a2) () g := by
    intro q
    rw [q, if_pos rfl] at ht
    obtain ⟨ht1, ht2⟩ := List.cons.inj ht
    refine ⟨hbA, rA ⟨hbE, rE ⟨fun d => absurd (of_decide_eq_true d) (by dsimp only; omega), fun _ => ⟨hbL, hbA, hbA, rL (rA ⟨hbm, (hX.le lg).ldAt rfl htx rfl ⟨hbE, rE (rA ⟨hbf, (hE.le lg).ldAt rfl hfx rfl (iT ?_)⟩)⟩⟩)⟩⟩⟩⟩
    refine ⟨fun d => ?_, fun _ => ⟨hbA, rA ⟨hbA, stp fun g' n' => ?_⟩⟩⟩
    · have : eqK KAcc ((w : Int), a2) (toldP (w : Int) t f) = true := by rw [← ht1]; exact eqK_refl KAcc _ rfl
      have d : (!(eqK KAcc ((w : Int), a2) (toldP (w : Int) t f))) = true := d
      rw [this] at d; cases d
    · show go (w64 ((k : Int) + 1), ()) g'
      rw [nextk]
      refine hgo _ _ n' (li.set hw hmlt ht2 fun v hv => ?_)
      rw [hdrop, whoL_cons, if_neg (fun (q : (w : Int) = (v : Int)) => hv (by omega))]
  refine ⟨hbA, rA ⟨hbE, rE ⟨fun _ => ⟨hbL, hbA, rL (rA ⟨hbm, (hX.le lg).ldPart (kp := ki) (off := 1) (y := t.2.1) rfl htx ⟨[_], _, rfl, rfl⟩ rfl ⟨fun z => ⟨fun _ => skip ?_, fun e => (by cases e)⟩, fun z => ⟨hbA, hbE, rE (rA ⟨hbf, (hE.le lg).ldPart (kp := ki) (off := 2) (y := f.2.2.1) rfl hfx ⟨[_, _], _, rfl, rfl⟩ rfl ⟨fun y => skip ?_, fun y => take ?_⟩⟩)⟩⟩⟩)⟩, fun d => absurd hbf.2 (of_decide_eq_false d)⟩⟩⟩
  · have z : t.2.1 = 5 := of_decide_eq_true z
    simp [toldOk, z]
  · have y : f.2.2.1 ≠ 0 := of_decide_eq_true y
    simp [toldOk, y]
  · have z : ¬ t.2.1 = 5 := of_decide_eq_false z
    have y : ¬ f.2.2.1 ≠ 0 := of_decide_eq_false y
    have y : f.2.2.1 = 0 := Decidable.not_not.1 y
    simp [toldOk, z, y]
omit iT in
theorem fen_rest {w : Nat} (hw : w < ls.length) (hq1 : (st.m.q w).length ≤ 1) {go : (Int × Unit) → Heap → Prop} {u3 : Unit} {a0 : List Nat} {g0 : Heap} (n0 : New hR g0 ki ⟨some sa, sn, sc⟩ (nz a0)) (li0 : RI ls st w a0)
    (hgo : ∀ a g, New hR g ki ⟨some sa, sn, sc⟩ (nz a) → RI ls st (w + 1) a → go (((w + 1 : Nat) : Int), ()) g) :
    Loop (law21_BuffersFenced.l14 Q (size, (used, (picks, (⟨some la, ln, lc⟩, ((⟨some ea, en, ec⟩, (⟨some wa, wn, wc⟩, (rc, (rl, (rd, u1))))), u2))))) ⟨some sa, sn, sc⟩ go ((w : Int), u3)) (0, ()) g0 := by
  have lln := X.l1.1
  have eln := X.e1.1
  have wln := X.w1.1
  have ll := X.ll
  have el := X.el
  have wl := X.wl
  have n8 : ls.length ≤ 8 := by have := X.ok.n; have := X.ok.m.n8; omega
  dsimp only at lln eln wln
  obtain ⟨lsl, hli⟩ : ∃ sl, sls[w]? = some sl := ⟨sls[w]'(by omega), by simp⟩
  obtain ⟨esl, hei⟩ : ∃ sl, els[w]? = some sl := ⟨els[w]'(by omega), by simp⟩
  obtain ⟨wsl, hwi⟩ : ∃ sl, wls[w]? = some sl := ⟨wls[w]'(by omega), by simp⟩
  have hX := X.lr w _ hli
  have hE := X.er w _ hei
  have hW := X.wr w _ hwi
  have her := X.ok.er w
  have hx4 := X.x4 w
  have hxl := hX.1
  have hel := hE.1
  refine Loop.idxB (st.e.getD w []).length (fun i s g => ∃ a m r : Nat, ∃ b : List Nat, New hR g ki ⟨some sa, sn, sc⟩ (nz b) ∧ b.length = ls.length ∧ (∀ v, w + 1 ≤ v → v < ls.length → ∃ m, b[v]? = some m ∧ m ≤ (st.e.getD v []).length ∧ toldL v (leftL ls st v m) = (st.m.q v).map (stE v)) ∧ b[w]? = some m ∧ i ≤ m ∧ m ≤ (st.e.getD w []).length ∧ s.1 = (r : Int) ∧ r + (toldL w (leftL ls st w m)).length = (st.m.q w).length) (by
    obtain ⟨m, h1, h2, h3⟩ := li0.2 w (Nat.le_refl _) hw
    exact ⟨0, m, 0, a0, n0, li0.1, fun v hv => li0.2 v (by omega), h1, Nat.zero_le _, h2, rfl, by rw [h3, List.length_map]; omega⟩) ?_
  rintro i ⟨r', u4⟩ g go2 hi ⟨_, m, r, a, n, ali, oth, hm, him, hmE, hr, hcnt⟩ hgo2
  dsimp only at hr; subst hr
  have lg := n.le
  have al := n.len
  have nzl : (nz a).length = a.length := List.length_map ..
  dsimp only at al
  have hbA : 0 ≤ (w : Int) ∧ (w : Int) < (sn : Int) := ⟨by omega, by omega⟩
  have hbE : 0 ≤ (w : Int) ∧ (w : Int) < (en : Int) := ⟨by omega, by omega⟩
  have hbL : 0 ≤ (w : Int) ∧ (w : Int) < (ln : Int) := ⟨by omega, by omega⟩
  have hbW : 0 ≤ (w : Int) ∧ (w : Int) < (wn : Int) := ⟨by omega, by omega⟩
  have rA : ∀ {K : Int → Prop}, K (m : Int) → ld ki g (sa.add (w * 1)) K := fun h => n.arr.ldAt rfl (nz_get hm) rfl h
  have rL : ∀ {K : Sl → Prop}, K lsl → ld .sl g (la.add (w * 1)) K := fun h => (X.l1.le lg).ldAt rfl hli rfl h
  have rE : ∀ {K : Sl → Prop}, K esl → ld .sl g (ea.add (w * 1)) K := fun h => (X.e1.le lg).ldAt rfl hei rfl h
  have rW : ∀ {K : Sl → Prop}, K wsl → ld .sl g (wa.add (w * 1)) K := fun h => (X.w1.le lg).ldAt rfl hwi rfl h
  have next : w64 ((m : Int) + 1) = ((m + 1 : Nat) : Int) := by rw [w64_of] <;> omega
  have nextr : w64 ((r : Int) + 1) = ((r + 1 : Nat) : Int) := by rw [w64_of] <;> omega
  have nextw : w64 ((w : Int) + 1) = ((w + 1 : Nat) : Int) := by rw [w64_of] <;> omega
  refine ⟨hbA, rA ⟨hbE, rE ⟨fun d => ?_, fun d => ?_⟩⟩⟩
  · have d : (m : Int) < (esl.len : Int) := of_decide_eq_true d
    have hmlt : m < (st.e.getD w []).length := by omega
    obtain ⟨t, f, htx, hfx, hl⟩ := left_cons X.ok hmlt
    rw [hl, toldL_cons] at hcnt
    have hbm : 0 ≤ (m : Int) ∧ (m : Int) < (lsl.len : Int) := ⟨by omega, by omega⟩
    have hbf : 0 ≤ (m : Int) ∧ (m : Int) < (esl.len : Int) := ⟨by omega, by omega⟩
    have stp : ∀ {K : Heap → Prop}, (∀ g', New hR g' ki ⟨some sa, sn, sc⟩ (nz (a.set w (m + 1))) → K g') → Go.Mx.st ki g (sa.add (w * 1)) (w64 ((m : Int) + 1)) K := fun hK => n.stAt rfl (by omega) rfl rfl fun g' n' _ => hK g' (by rw [next, nz_set] at n'; exact n')
    have fin : ∀ r' : Nat, r' + (toldL w (leftL ls st w (m + 1))).length = (st.m.q w).length → law21_BuffersFenced.j11 ⟨some sa, sn, sc⟩ ((w : Int), u3) go2 ((r' : Int), ()) g := by
      intro r' hr'
      refine ⟨hbA, rA ⟨hbA, stp fun g' n' => hgo2 (by omega) _ _ ⟨0, m + 1, r', _, n', by rw [List.length_set]; exact ali, fun v hv hv' => ?_, by rw [List.getElem?_set_self (by omega)], by omega, hmlt, rfl, hr'⟩⟩⟩
      rw [List.getElem?_set_ne (by omega)]
      exact oth v hv hv'
    have yes : toldOk (t, f) = true → law21_BuffersFenced.j12 ⟨some sa, sn, sc⟩ ((w : Int), u3) go2 ((r : Int), u4) (true, ()) g := by
      intro q
      rw [q, if_pos rfl, List.length_cons] at hcnt
      refine ⟨fun _ => ?_, fun e => (by cases e)⟩
      show law21_BuffersFenced.j11 ⟨some sa, sn, sc⟩ ((w : Int), u3) go2 (w64 ((r : Int) + 1), ()) g
      rw [nextr]
      exact fin _ (by omega)
    have no : toldOk (t, f) = false → law21_BuffersFenced.j12 ⟨some sa, sn, sc⟩ ((w : Int), u3) go2 ((r : Int), u4) (false, ()) g := by
      intro q
      rw [q, if_neg (by decide)] at hcnt
      exact ⟨fun e => (by cases e), fun _ => fin _ hcnt⟩
    obtain ⟨xa, xn, xc⟩ := lsl
    obtain ⟨fa, fn, fc⟩ := esl
    dsimp only at hbm hbf hxl hel
    cases xa with
    | none => obtain ⟨a, e⟩ := hX.addr (by dsimp only; omega); cases e
    | some xa =>
    cases fa with
    | none => obtain ⟨a, e⟩ := hE.addr (by dsimp only; omega); cases e
    | some fa =>
    refine ⟨hbL, hbA, rL (rA ⟨hbm, (hX.le lg).ldPart (kp := ki) (off := 1) (y := t.2.1) rfl htx ⟨[_], _, rfl, rfl⟩ rfl ⟨fun z => ⟨hbA, hbE, rE (rA ⟨hbf, (hE.le lg).ldPart (kp := ki) (off := 2) (y := f.2.2.1) rfl hfx ⟨[_, _], _, rfl, rfl⟩ rfl ?_⟩)⟩, fun z => no ?_⟩⟩)⟩
    · have z : t.2.1 ≠ 5 := of_decide_eq_true z
      by_cases y : f.2.2.1 = 0
      · rw [decide_eq_true y]; exact yes (by simp [toldOk, z, y])
      · rw [decide_eq_false y]; exact no (by simp [toldOk, y])
    · have z : ¬ t.2.1 ≠ 5 := of_decide_eq_false z
      have z : t.2.1 = 5 := Decidable.not_not.1 z
      simp [toldOk, z]
  · have d : ¬ (m : Int) < (esl.len : Int) := of_decide_eq_false d
    have hl : leftL ls st w m = [] := List.length_eq_zero_iff.1 (by rw [left_len X.ok]; omega)
    rw [hl] at hcnt
    have hcnt : r + 0 = (st.m.q w).length := hcnt
    refine ⟨hbW, rW ⟨fun d => absurd (of_decide_eq_true d) (show ¬ (r : Int) ≠ (wsl.len : Int) by omega), fun _ => ?_⟩⟩
    show law21_BuffersFenced.j13 Q go ((w : Int), u3) (decide ((1 : Int) < (r : Int)), ()) g
    rw [decide_eq_false (by omega)]
    refine ⟨fun e => (by cases e), fun _ => ?_⟩
    show go (w64 ((w : Int) + 1), ()) g
    rw [nextw]
    exact hgo a g n ⟨ali, oth⟩
omit iT in
theorem fen_tail {co : Int → Sl → Heap → (Sl → Heap → Prop) → Prop} {ca : Sl → Heap → (Sl → Heap → Prop) → Prop} {cc : Int → Sl → Heap → ((Den KCr × (Int × Unit)) → Heap → Prop) → Prop} {cn cl : Sl → Sl → Heap → (Bool → Heap → Prop) → Prop} {cg : Den KRun → Sl → Sl → Heap → (Bool → Heap → Prop) → Prop}
    (iO : OpnC co) (iA : AsActC ca) (iC : CPlayC cc) (iN : SameNC cn) (iL : SameLC cl) (hG : ∀ {h' : Heap} {K : Bool → Heap → Prop}, Go.Mx.le hR h' → (∀ h'', Go.Mx.le h' h'' → K true h'') → cg (⟨some ea, en, ec⟩, (⟨some wa, wn, wc⟩, (rc, (rl, (rd, ()))))) ⟨some la, ln, lc⟩ picks h' K)
    (hq1 : ∀ w, (st.m.q w).length ≤ 1) (hrep : RepI size (List.replicate used.toNat 0) st.m.cs st.m.lg) (hu0 : 0 ≤ used) (hus : used ≤ size) (hsz : size ≤ 1048576) (hcs : Arr hR ki rc st.m.cs) (hcl : st.m.cs.length ≤ 1048576) (hQ : ∀ h', Go.Mx.le hR h' → Q true h')
    {a0 : List Nat} {g0 : Heap} (n0 : New hR g0 ki ⟨some sa, sn, sc⟩ (nz a0)) (li0 : RI ls st 0 a0) :
    Loop (law21_BuffersFenced.l17 co ca cc cn cl cg Q (size, (used, (picks, (⟨some la, ln, lc⟩, ((⟨some ea, en, ec⟩, (⟨some wa, wn, wc⟩, (rc, (rl, (rd, u1))))), u2))))) ⟨some sa, sn, sc⟩) (0, ()) g0 := by
  have lln := X.l1.1
  have ll := X.ll
  dsimp only at lln
  refine Loop.up ls.length (fun s => s.1) (fun i s g => ∃ a, New hR g ki ⟨some sa, sn, sc⟩ (nz a) ∧ RI ls st i a) rfl ⟨a0, n0, li0⟩ ?_
  rintro i ⟨i', u3⟩ g go hi hc ⟨a, n, li⟩ hgo
  dsimp only at hc; subst hc
  refine ⟨fun d => ?_, fun d => ?_⟩
  · have d : (i : Int) < (ln : Int) := of_decide_eq_true d
    exact fen_rest X (by omega) (hq1 i) n li fun a g n' li' => hgo (by omega) _ _ rfl ⟨a, n', li'⟩
  have lg := n.le
  have l2 := X.l2
  have hlen : (st.m.lg.map asAct).length = st.m.lg.length := List.length_map ..
  refine iO (ts := []) (New.nil g KMv).arr (Nat.zero_le _) fun t1 h1 n1 => iA ((X.lg.le lg).le n1.le) (by omega) fun t2 h2 n2 => iO n2.arr (by omega) fun t3 h3 n3 => ?_
  have n1 : New g h1 KMv t1 (opn used []) := n1
  have n3 : New h2 h3 KMv t3 (opn used (st.m.lg.map asAct)) := n3
  have o1 : (opn used []).length = (headL used).length := by
    unfold opn headL
    split <;> rfl
  have o0 : (headL used).length ≤ 1 := by unfold headL; split <;> simp
  have o3 : (opn used (st.m.lg.map asAct)).length = (headL used).length + st.m.lg.length := by
    unfold opn headL
    rw [List.length_append, hlen]
    split <;> rfl
  have e1 := n1.len
  obtain ⟨q1, q2⟩ := rep_opn hu0 hus hrep
  refine iC n3.arr (by omega) hsz (by omega) fun p h4 _ a2 a3 => ?_
  have a2 : New h3 h4 ki p.2.1 (CA.run size ⟨[], [], []⟩ (opn used (st.m.lg.map asAct))).cs := a2
  have a3 : New h3 h4 KAcc p.2.2.1 (CA.run size ⟨[], [], []⟩ (opn used (st.m.lg.map asAct))).lg := a3
  rw [q1] at a2
  rw [q2] at a3
  have l14 : Go.Mx.le h1 h4 := (n2.le.trans n3.le).trans a3.le
  have l4 : Go.Mx.le hR h4 := (lg.trans n1.le).trans l14
  have e3 := a3.len
  have rln := X.lg.1
  rw [List.length_append] at e3
  refine ⟨fun d => (by cases d), fun _ => ⟨fun d => absurd (of_decide_eq_true d) ?_, fun _ => ?_⟩⟩
  · show ¬ ((p.2.2.1.len : Int) ≠ w64 ((rl.len : Int) + (t1.len : Int)))
    rw [w64_of (by omega) (by omega)]; omega
  refine iN a2.arr (hcs.le l4) (by omega) ⟨fun d => (by cases d), fun _ => ?_⟩
  have hcap := a3.arr.2.1
  have hb : 0 ≤ (t1.len : Int) ∧ (t1.len : Int) ≤ (p.2.2.1.len : Int) := ⟨by omega, by omega⟩
  refine ⟨hb, ?_⟩
  have suf := a3.arr.suf (n := t1.len) (by omega) (sz := 6) rfl
  rw [show t1.len = (headL used).length by omega, List.drop_left] at suf
  rw [← show t1.len = (headL used).length by omega] at suf
  refine iL (xs := st.m.lg) suf (X.lg.le l4) (by omega) ⟨fun _ => hG l4 fun h'' l'' => hQ h'' (l4.trans l''), fun e => (by cases e)⟩
theorem fen_log {co : Int → Sl → Heap → (Sl → Heap → Prop) → Prop} {ca : Sl → Heap → (Sl → Heap → Prop) → Prop} {cc : Int → Sl → Heap → ((Den KCr × (Int × Unit)) → Heap → Prop) → Prop} {cn cl : Sl → Sl → Heap → (Bool → Heap → Prop) → Prop} {cg : Den KRun → Sl → Sl → Heap → (Bool → Heap → Prop) → Prop}
    (iO : OpnC co) (iA : AsActC ca) (iC : CPlayC cc) (iN : SameNC cn) (iL : SameLC cl) (hG : ∀ {h' : Heap} {K : Bool → Heap → Prop}, Go.Mx.le hR h' → (∀ h'', Go.Mx.le h' h'' → K true h'') → cg (⟨some ea, en, ec⟩, (⟨some wa, wn, wc⟩, (rc, (rl, (rd, ()))))) ⟨some la, ln, lc⟩ picks h' K)
    (hq1 : ∀ w, (st.m.q w).length ≤ 1) (hrep : RepI size (List.replicate used.toNat 0) st.m.cs st.m.lg) (hu0 : 0 ≤ used) (hus : used ≤ size) (hsz : size ≤ 1048576) (hcs : Arr hR ki rc st.m.cs) (hcl : st.m.cs.length ≤ 1048576) (hQ : ∀ h', Go.Mx.le hR h' → Q true h')
    (hwho : WhoI ls.length st.m) {a0 : List Nat} {g0 : Heap} (n0 : New hR g0 ki ⟨some sa, sn, sc⟩ (nz a0)) (li0 : LI ls st 0 a0) :
    Loop (law21_BuffersFenced.l18 ct co ca cc cn cl cg Q (size, (used, (picks, (⟨some la, ln, lc⟩, ((⟨some ea, en, ec⟩, (⟨some wa, wn, wc⟩, (rc, (rl, (rd, u1))))), u2))))) ⟨some sa, sn, sc⟩) (0, ()) g0 := by
  have rln := X.lg.1
  have lln := X.l1.1
  have ll := X.ll
  dsimp only at lln
  refine Loop.up st.m.lg.length (fun s => s.1) (fun k s g => ∃ a, New hR g ki ⟨some sa, sn, sc⟩ (nz a) ∧ LI ls st k a) rfl ⟨a0, n0, li0⟩ ?_
  rintro k ⟨k', u3⟩ g go hk hc ⟨a, n, li⟩ hgo
  dsimp only at hc; subst hc
  refine ⟨fun d => ?_, fun d => ?_⟩
  · have d : (k : Int) < (rl.len : Int) := of_decide_eq_true d
    have hkl : k < st.m.lg.length := by omega
    have hb : 0 ≤ (k : Int) ∧ (k : Int) < (rl.len : Int) := ⟨by omega, d⟩
    refine ⟨hb, (X.lg.le n.le).at (i := (k : Int)) (by omega) d rfl fun y hy => ?_⟩
    rw [Int.toNat_natCast] at hy
    obtain ⟨w, e1, hw⟩ := hwho y (List.mem_of_getElem? hy)
    obtain ⟨y1, y2⟩ := y
    dsimp only at e1
    subst e1
    have key : law21_BuffersFenced.j9 ct Q (size, (used, (picks, (⟨some la, ln, lc⟩, ((⟨some ea, en, ec⟩, (⟨some wa, wn, wc⟩, (rc, (rl, (rd, u1))))), u2))))) ⟨some sa, sn, sc⟩ go ((k : Int), u3) ((w : Int), y2) (false, ()) g :=
      ⟨fun e => (by cases e), fun _ => fen_skip X iT hy hw n li fun a' g' n' li' => hgo hkl _ _ rfl ⟨a', n', li'⟩⟩
    refine ⟨fun e => absurd (of_decide_eq_true e) (show ¬ (w : Int) < 0 by omega), fun _ => ?_⟩
    show law21_BuffersFenced.j9 ct Q _ _ go _ _ (decide ((ln : Int) ≤ (w : Int)), ()) g
    rw [decide_eq_false (by omega)]
    exact key
  · have d : ¬ (k : Int) < (rl.len : Int) := of_decide_eq_false d
    refine fen_tail X iO iA iC iN iL hG hq1 hrep hu0 hus hsz hcs hcl hQ n ⟨li.1, fun w _ hw => ?_⟩
    obtain ⟨m, h1, h2, h3⟩ := li.2 w hw
    refine ⟨m, h1, h2, ?_⟩
    rw [List.drop_of_length_le (by omega)] at h3
    exact h3
end
theorem fen_spec {cb cf cp ct co ca cc cn cl cg} (iB : BoundC cb) (iF : FewC true guardP cf) (iP : PlayC cp) (iT : ToldC ct) (iO : OpnC co) (iA : AsActC ca) (iC : CPlayC cc) (iN : SameNC cn) (iL : SameLC cl) (iG : ProgC cg) {size used room : Int} {lists picks : Sl} {h : Heap} {ls : List (List AMv)} {ps : List Int} (hl : Arr2 h KMv lists ls) (hp : Arr h ki picks ps) {Q : Bool → Heap → Prop} (hQ : ∀ h', Go.Mx.le h h' → Q true h') :
    law21_BuffersFenced.M cb cf cp ct co ca cc cn cl cg size used room lists picks h Q := by
  refine iB (iF hl fun t h1 ht l1 => ?_)
  have fl := fewP_len (f := guardP) (ls := ls)
  have gb : ∀ l : List AMv, l.length ≤ 1000 → (guardP l).length ≤ 4096 := fun l q => by have := guardP_len l; omega
  have f4 : ∀ x ∈ fewP guardP ls, x.length ≤ 4096 := fewP_le gb
  have hgrd := few_grd ls
  have hj0 : ∀ np, np ≤ 1048576 → _ := fun np hnp => judgedB (f := guardP) gb (size := size) (used := used) (room := room) (ls := ls) (np := np) hnp
  generalize fewP guardP ls = G at ht fl f4 hgrd hj0
  have main : ∀ pk qs, Arr h1 ki pk qs → qs.length ≤ 2000 → law21_BuffersFenced.k21 cp ct co ca cc cn cl cg Q (used % 17 + size % 9, (used % 17, (1 + room % 64, (pk, (t, ()))))) h1 := by
    intro pk qs ha hq
    have hj := hj0 qs.length (by omega)
    refine iP ht ha (fun q => absurd hj q) fun _ r h2 els wls R => ?_
    have R : RunR h1 h2 r G.length (PB.run G (PB.start G.length (1 + room % 64).toNat (used % 17 + size % 9) (used % 17).toNat) qs) els wls _ := R
    have tl := ht.len
    have l2 := R.e.le
    have e1 := R.e.out.len
    have e2 := R.e.len
    have w1 := R.w.out.len
    have w2 := R.w.len
    rw [List.length_map, List.length_range] at w2
    have ok0 := PB.start_ok (ls := G) (n := G.length) (rm := (1 + room % 64).toNat) (u := (used % 17).toNat) (sz := used % 17 + size % 9) rfl fl.2 (by omega) (by omega) (by omega) (by omega)
    have ok : (PB.run G (PB.start G.length (1 + room % 64).toNat (used % 17 + size % 9) (used % 17).toNat) qs).Ok G 80000000 := (ok0.run qs).mono (by omega)
    have fen := FenI.run hgrd qs ok0 (FenI.start G G.length (1 + room % 64).toNat (used % 17).toNat (used % 17 + size % 9))
    have rep := RepM.run qs ok0 (RepM.start G.length (1 + room % 64).toNat (used % 17).toNat (used % 17 + size % 9))
    have who := WhoI.run rfl qs ok0 (WhoI.start G.length (1 + room % 64).toNat (used % 17).toNat (used % 17 + size % 9) G.length)
    have hlg := PB.log_le (ls := G) qs ok0
    have hsz : (PB.run G (PB.start G.length (1 + room % 64).toNat (used % 17 + size % 9) (used % 17).toNat) qs).m.sz = used % 17 + size % 9 := PB.run_size G qs _
    have hel := ok.el
    have hcsl := ok.m.cs
    rw [hsz] at hcsl
    have prog : ∀ {h' : Heap} {K : Bool → Heap → Prop}, Go.Mx.le h2 h' → (∀ h'', Go.Mx.le h' h'' → K true h'') → cg r t pk h' K := by
      intro h' K l' hK
      refine iG ((ht.le l2).le l') ((ha.le l2).le l') (R.e.out.arr.le l') fl.1 fl.2 (by omega) f4 ok0 rfl (by omega) (fun i sl hs => ?_) hK
      have hi := (List.getElem?_eq_some_iff.1 hs).1
      have hsi : (PB.run G (PB.start G.length (1 + room % 64).toNat (used % 17 + size % 9) (used % 17).toNat) qs).e[i]? = some ((PB.run G (PB.start G.length (1 + room % 64).toNat (used % 17 + size % 9) (used % 17).toNat) qs).e[i]'(by omega)) := by simp
      rw [List.getD_eq_getElem?_getD, hsi]
      exact (R.e.row i sl _ hs hsi).len.symm
    generalize PB.run G (PB.start G.length (1 + room % 64).toNat (used % 17 + size % 9) (used % 17).toNat) qs = st at R ok fen rep who hlg hsz hel hcsl e2
    refine ⟨fun q => (by cases q), fun _ => ⟨fun q => absurd (of_decide_eq_true q) ?_, fun _ => ?_⟩⟩
    · dsimp only; omega
    show law21_BuffersFenced.j20 ct co ca cc cn cl cg Q _ (r, (0, ())) (decide ((r.2.1.len : Int) ≠ (t.len : Int)), ()) h2
    rw [decide_eq_false (by omega)]
    refine ⟨fun e => (by cases e), fun _ => ?_⟩
    obtain ⟨sls, a1, a2, a3⟩ := ht
    obtain ⟨⟨ea, en, ec⟩, ⟨wa, wn, wc⟩, rc, rl, rd, u⟩ := r
    obtain ⟨Re, Rw, Rc, Rl, Rd, -, -, -⟩ := R
    dsimp only at Re Rw Rc Rl e1 w1
    obtain ⟨la, ln, lc⟩ := t
    have a1n := a1.1
    dsimp only at tl a1n
    cases la with
    | none => obtain ⟨a, e⟩ := a1.addr (by dsimp only; omega); cases e
    | some la =>
    cases ea with
    | none => obtain ⟨a, e⟩ := Re.out.arr.addr (by dsimp only; omega); cases e
    | some ea =>
    cases wa with
    | none => obtain ⟨a, e⟩ := Rw.out.arr.addr (by dsimp only; omega); cases e
    | some wa =>
    have X : FX h2 G st ⟨some la, ln, lc⟩ ⟨some ea, en, ec⟩ ⟨some wa, wn, wc⟩ rl sls els wls := {
      l1 := a1.le l2
      ll := a2
      lr := fun i sl hs => by
        have hi := (List.getElem?_eq_some_iff.1 hs).1
        have hx : G[i]? = some (G[i]'(by omega)) := by simp
        rw [List.getD_eq_getElem?_getD, hx]
        exact (a3 i sl _ hs hx).le l2
      e1 := Re.out.arr
      el := by omega
      er := fun i sl hs => by
        have hi := (List.getElem?_eq_some_iff.1 hs).1
        have hx : st.e[i]? = some (st.e[i]'(by omega)) := by simp
        rw [List.getD_eq_getElem?_getD, hx]
        exact (Re.row i sl _ hs hx).arr
      w1 := Rw.out.arr
      wl := w2
      wr := fun i sl hs => by
        have hi := (List.getElem?_eq_some_iff.1 hs).1
        have hx : ((List.range G.length).map st.m.q)[i]? = some (st.m.q i) := by rw [List.getElem?_map, List.getElem?_range (by omega)]; rfl
        exact (Rw.row i sl _ hs hx).len.symm
      lg := Rl.arr
      ok := ok
      x4 := fun w => getD_le f4 w
      l2 := by omega }
    have hq1 : ∀ w, (st.m.q w).length ≤ 1 := fun w => by
      rcases (fen.2 w).2 with q | ⟨q, _⟩
      · rw [q]; exact Nat.zero_le _
      · omega
    have hrep : RepI (used % 17 + size % 9) (List.replicate (used % 17).toNat 0) st.m.cs st.m.lg := by
      have := rep.2
      rwa [hsz] at this
    refine make_new (n := (ln : Int)) (c := (ln : Int)) (by omega) (Int.le_refl _) (by show ((8 : Nat) : Int) * (ln : Int) ≤ _; omega) (by omega) fun s h3 n _ _ hs => ?_
    obtain ⟨sa, sn, sc⟩ := s
    cases sa with
    | none => exact absurd rfl hs
    | some sa =>
    have hz : List.replicate ((ln : Int)).toNat (Kd.zero ki) = nz (List.replicate G.length 0) := by
      rw [Int.toNat_natCast, tl]
      show _ = List.map _ _
      rw [List.map_replicate]; rfl
    rw [hz] at n
    refine fen_log X iT iO iA iC iN iL prog hq1 hrep (by omega) (by omega) (by omega) Rc.arr (by omega) (fun h' l' => hQ h' (l1.trans (l2.trans l'))) who n ⟨List.length_replicate .., fun w hw => ⟨0, by rw [List.getElem?_replicate, if_pos hw], Nat.zero_le _, (fen.2 w).1.symm⟩⟩
  have hpl := hp.1
  have hpc := hp.2.1
  refine ⟨fun e => ?_, fun e => ?_⟩
  · have e : (2000 : Int) < (picks.len : Int) := of_decide_eq_true e
    exact ⟨⟨by omega, by omega⟩, main _ _ ((hp.le l1).pre (by show 2000 ≤ picks.len; omega)) (List.length_take_le ..)⟩
  · have e : ¬ (2000 : Int) < (picks.len : Int) := of_decide_eq_false e
    exact main _ _ (hp.le l1) (by omega)

end Go.Mx
