/-
  DequeRace: the walk.
-/
import Derived.Test.YtjkecefbbijajaaMxSc
set_option linter.unusedVariables false
set_option linter.unusedSimpArgs false
set_option linter.unusedSectionVars false
namespace Go.Mx

/-- What is known where a pick goes on. -/
structure At (low most thieves : Int) (todos : List DTd) (picks : List Int) (k : Nat) (w : Nat) : Prop where
  lt : k < picks.length
  W : (whos thieves picks)[k]? = some w
  wl : w < (1 + thieves).toNat
  pi : PI most (stN low most todos thieves picks k) (k : Int)
  hi : HI (whos thieves picks) todos k (stN low most todos thieves picks k)
  ai : AI (whos thieves picks) most k (stN low most todos thieves picks k)
  al : (stN low most todos thieves picks k).acts.length = (1 + thieves).toNat
structure AtQ (low most thieves : Int) (todos : List DTd) (picks : List Int) (k : Nat) (w : Nat) (q : PS) : Prop where
  pre : (stN low most todos thieves picks k).pre most (k : Int) w = some q
  pi : PI most q (k : Int)
  hi : HI (whos thieves picks) todos (k + 1) q
  ai : AI (whos thieves picks) most k q
  al : q.acts.length = (1 + thieves).toNat
  run : 0 ≤ (q.act w).2
  pc : (q.act w).1.pc ≠ 0
  m : q.m = (stN low most todos thieves picks k).m
/-- Induction over the picks. -/
theorem stN_ind {low most thieves : Int} {todos : List DTd} {picks : List Int} (hj : judgeE low most todos thieves picks = 0) {P : Nat → PS → Prop} (h0 : P 0 (ps0 low most todos thieves))
    (hn : ∀ k w, At low most thieves todos picks k w → P k (stN low most todos thieves picks k) → (stN low most todos thieves picks k).pre most (k : Int) w = none → stN low most todos thieves picks (k + 1) = stN low most todos thieves picks k → P (k + 1) (stN low most todos thieves picks k))
    (hg : ∀ k w q v m' x, At low most thieves todos picks k w → P k (stN low most todos thieves picks k) → AtQ low most thieves todos picks k w q → GoR most q (k : Int) w v m' x (k : Int) → stN low most todos thieves picks (k + 1) = q.go (k : Int) w → P (k + 1) (q.go (k : Int) w)) : ∀ {k : Nat}, k ≤ picks.length → P k (stN low most todos thieves picks k) := by
  obtain ⟨j1, hp, hc, ht, j5, htd⟩ := judge_ok hj
  intro k
  induction k with
  | zero => intro _; exact h0
  | succ k ih =>
    intro hk
    obtain ⟨i1, i2, i3⟩ := stN_all' (todos := todos) (picks := picks) hc ht hp (k := k) (by omega)
    have ai := stN_ai (todos := todos) (picks := picks) hc ht hp htd (k := k) (by omega)
    have hwl : (whos thieves picks).length = picks.length := List.length_map ..
    have hW : (whos thieves picks)[k]? = some ((whos thieves picks)[k]'(by omega)) := by simp
    have hwm := whos_mem ht (List.getElem_mem (l := whos thieves picks) (n := k) (by omega))
    have es := stN_succ low most todos thieves picks hW
    rw [PS.step_pre] at es
    have htp : ∀ t ∈ (stN low most todos thieves picks k).todos, t.1 = 0 ∨ t.1 = 1 := fun t ht => by
      obtain ⟨dn, d1, _⟩ := i2.tds
      exact htd t (by rw [d1]; exact List.mem_append_right _ ht)
    generalize (whos thieves picks)[k]'(by omega) = w at *
    have a : At low most thieves todos picks k w := ⟨by omega, hW, hwm, i1, i2, ai, i3⟩
    have hwl' : w < (stN low most todos thieves picks k).acts.length := by rw [i3]; exact hwm
    cases e : (stN low most todos thieves picks k).pre most (k : Int) w with
    | none =>
      rw [e] at es
      have es : stN low most todos thieves picks (k + 1) = stN low most todos thieves picks k := es
      rw [es]
      exact hn k w a (ih (by omega)) e es
    | some q =>
      rw [e] at es
      have es : stN low most todos thieves picks (k + 1) = q.go (k : Int) w := es
      obtain ⟨h1, h2, h3, h4, h5, _⟩ := i1.pre hwl' e
      obtain ⟨v, m', x, r⟩ := h1.go (by omega) (n := (k : Int)) (who := w) (by omega) h4
      rw [es]
      exact hg k w q v m' x a (ih (by omega)) ⟨e, h1, i2.pre hwl' hW e, ai.pre hwl' i1 htp e, by omega, h5, h4, h2⟩ r es
theorem AtQ.wl {low most thieves : Int} {todos : List DTd} {picks : List Int} {k w : Nat} {q : PS} (h : AtQ low most thieves todos picks k w q) (a : At low most thieves todos picks k w) : w < q.acts.length := by rw [h.al]; exact a.wl
theorem stN_lg {low most thieves : Int} {todos : List DTd} {picks : List Int} (hj : judgeE low most todos thieves picks = 0) {k : Nat} (hk : k ≤ picks.length) : (stN low most todos thieves picks k).m.lg.length ≤ k := by
  refine stN_ind hj (P := fun k p => p.m.lg.length ≤ k) (Nat.le_refl _) (fun k w a h _ _ => Nat.le_succ_of_le h) (fun k w q v m' x a h aq r _ => ?_) hk
  obtain ⟨e, l1, _, _⟩ := r.log aq.pi.wt
  rw [(r.act (aq.wl a)).1, l1, List.length_append, aq.m]
  exact Nat.succ_le_succ h
theorem rsN_ri (lg : List Acc) : ∀ i, (rsN lg i).ri ≤ (i : Int) ∧ 0 ≤ (rsN lg i).ri
  | 0 => ⟨Int.le_refl _, Int.le_refl _⟩
  | i + 1 => by
    have h := rsN_ri lg i
    cases e : lg[i]? with
    | none =>
      have : rsN lg (i + 1) = rsN lg i := by show (match lg[i]? with | some e => rstep i (rsN lg i) e | none => rsN lg i) = _; rw [e]
      rw [this]; omega
    | some y =>
      rw [rsN_succ e]
      unfold rstep
      refine pif (P := fun s : RSt => s.ri ≤ ((i + 1 : Nat) : Int) ∧ 0 ≤ s.ri) (fun _ => by omega) fun _ => pif (P := fun s : RSt => s.ri ≤ ((i + 1 : Nat) : Int) ∧ 0 ≤ s.ri) (fun _ => ?_) fun _ => pif (P := fun s : RSt => s.ri ≤ ((i + 1 : Nat) : Int) ∧ 0 ≤ s.ri) (fun _ => ?_) fun _ => by omega
      · show (rsN lg i).ri ≤ _ ∧ 0 ≤ (rsN lg i).ri; omega
      · show (rsN lg i).ri + 1 ≤ _ ∧ 0 ≤ (rsN lg i).ri + 1; omega

theorem drace_spec {low most thieves : Int} {td pkS : Sl} {h : Heap} {todos : List DTd} {picks : List Int} (ht : Arr h KTd td todos) (hp : Arr h ki pkS picks)
    {c1 : Int → Int → Sl → Int → Sl → Heap → (Bool → Heap → Prop) → Prop} {c3 : Int → Int → Sl → Int → Sl → Heap → ((Den kapiDequeRun × (Int × Unit)) → Heap → Prop) → Prop} {c4 : Den kapiDequeRun → Sl → Int → Sl → Heap → (Bool → Heap → Prop) → Prop}
    (i1 : ∀ {a b s t u h Q} {ts : List DTd} {ps : List Int}, Arr h KTd s ts → Arr h ki u ps → Q false h → (judgeE a b ts t ps = 0 → Q true h) → c1 a b s t u h Q)
    (i3 : ∀ {a b s t u h Q} {ts : List DTd} {ps : List Int}, Arr h KTd s ts → Arr h ki u ps → judgeE a b ts t ps = 0 → (∀ ca re lg h', PlayR h h' (playOf a b ts t ps) ca re lg → Q ((ca, (re, (lg, ()))), (0, ())) h') → c3 a b s t u h Q)
    (i4 : ∀ {r s t u h Q} {ts : List DTd} {ps : List Int} {a b : Int}, Arr h KCl r.1 (playOf a b ts t ps).calls → Arr h KTd s ts → Arr h ki u ps → judgeE a b ts t ps = 0 → Q true h → c4 r s t u h Q)
    {Q : Bool → Heap → Prop} (hQ : ∀ h', le h h' → Q true h') : law3_DequeRace.M c1 c3 c4 low most td thieves pkS h Q := by
  refine i1 ht hp ⟨fun _ => hQ h (le.refl h), fun z => (by cases z)⟩ fun hj => ⟨fun z => (by cases z), fun _ => ?_⟩
  obtain ⟨j1, j2, j3, j4, j5, j6⟩ := judge_ok hj
  refine i3 ht hp hj fun ca re lg h2 pr => ?_
  have hl2 := pr.calls.le
  have hcl := pr.calls.len
  have hll := pr.log.len
  have hal := (play_pf hj).hi.len_le
  refine ⟨fun z => absurd rfl (of_decide_eq_true z), fun _ => ?_⟩
  refine i4 pr.calls.arr (ht.le hl2) (hp.le hl2) hj ⟨fun z => (by cases z), fun _ => ?_⟩
  have ri := stN_ri (todos := todos) (picks := picks) j3 j4 j2 j6 (Nat.le_refl _)
  have hlb := stN_lg hj (Nat.le_refl _)
  rw [stN_all] at ri hlb
  have pca := pr.calls.arr
  have plg := pr.log.arr
  generalize playOf low most todos thieves picks = p at *
  obtain ⟨a1, a2, a3, a4, a5, a6, a7⟩ := ri
  generalize p.m.lg = L at *
  refine Loop.up L.length (fun s => s.2.2.2.1) (fun i s k => k = h2 ∧ s.1 = (rsN L i).lc ∧ s.2.1 = (rsN L i).top ∧ s.2.2.1 = (rsN L i).ri ∧ ∀ v : Nat, v < 4 → aget (n := 4) (a := ki) s.2.2.2.2.1.1 v = (rsN L i).rd v) rfl ⟨rfl, rfl, rfl, rfl, fun v hv => by unfold aget; rw [dif_pos hv]; rfl⟩ ?_
  rintro i ⟨(lc : Int), (tp : Int), (rn : Int), i', ⟨rd, u⟩, u2⟩ k go hi hc ⟨rfl, e1, e2, e3, e4⟩ hgo
  dsimp only at hc e1 e2 e3 e4; subst hc
  refine dcase (fun g => ?_) (fun g => ?_)
  · have g : (i : Int) < (lg.len : Int) := g
    have hil : i < L.length := by omega
    have hx : L[i]? = some L[i] := by simp
    obtain ⟨al, hal'⟩ := plg.addr (by omega)
    refine ⟨⟨Int.natCast_nonneg i, g⟩, ?_⟩
    rw [hal']
    simp only [deref]
    rw [Int.toNat_natCast]
    refine plg.ldAt (k := KAcc) hal' hx rfl ?_
    have hok := a1 i _ hx
    have hst := rsN_succ hx
    have hri := rsN_ri L i
    generalize L[i] = e at *
    obtain ⟨⟨w0, w1⟩, hk⟩ := hok
    refine dcase (fun z => absurd z (Int.not_lt.2 w0)) (fun _ => ?_)
    show law3_DequeRace.j8 Q ((ca, (re, (lg, ()))), (0, ())) go (lc, (tp, (rn, ((i : Int), ((rd, u), u2))))) e (decide (thieves < aWho e), ()) k
    rw [decide_eq_false (Int.not_lt.2 w1)]
    refine ⟨fun z => (by cases z), fun _ => ?_⟩
    have nxt : ∀ (lc' tp' rn' : Int) (rd' : Fin 4 → Int), lc' = (rsN L (i + 1)).lc → tp' = (rsN L (i + 1)).top → rn' = (rsN L (i + 1)).ri → (∀ v : Nat, v < 4 → aget (n := 4) (a := ki) rd' v = (rsN L (i + 1)).rd v) → go (lc', (tp', (rn', (w64 ((i : Int) + 1), ((rd', ()), ()))))) k := fun lc' tp' rn' rd' f1 f2 f3 f4 =>
      hgo hil _ _ (w64_nat (n := L.length) hil (by omega)) ⟨rfl, f1, f2, f3, f4⟩
    have same : rstep i (rsN L i) e = rsN L i → go (lc, (tp, (rn, (w64 ((i : Int) + 1), ((rd, ()), ()))))) k := fun q => by
      rw [q] at hst
      exact nxt _ _ _ _ (by rw [hst]; exact e1) (by rw [hst]; exact e2) (by rw [hst]; exact e3) (by rw [hst]; exact e4)
    by_cases q1 : aAddr e ≠ 0 ∨ aKind e = 4
    · have s1 := same (if_pos q1)
      refine dcase (fun z => ⟨fun _ => s1, fun z => (by cases z)⟩) (fun z => ?_)
      have z : ¬ aAddr e ≠ 0 := z
      show law3_DequeRace.j6 Q ((ca, (re, (lg, ()))), (0, ())) go (lc, (tp, (rn, ((i : Int), ((rd, u), u2))))) e (decide (aKind e = 4), ()) k
      rw [decide_eq_true (q1.resolve_left z)]
      exact ⟨fun _ => s1, fun z => (by cases z)⟩
    · refine dcase (fun z => absurd (Or.inl z) q1) (fun _ => ?_)
      show law3_DequeRace.j6 Q ((ca, (re, (lg, ()))), (0, ())) go (lc, (tp, (rn, ((i : Int), ((rd, u), u2))))) e (decide (aKind e = 4), ()) k
      rw [decide_eq_false (fun z => q1 (Or.inr z))]
      refine ⟨fun z => (by cases z), fun _ => ?_⟩
      have w3 : (0 : Int) ≤ aWho e ∧ aWho e < 4 := ⟨w0, by omega⟩
      rcases hk with hk | ⟨b1, b2, b3⟩ | ⟨b1, b2, b3, b4, b5, b6⟩
      · exact absurd hk q1
      · refine dcase (fun _ => ?_) (fun z => absurd b2 z)
        refine dcase (fun z => absurd (b3.trans e2.symm) z) (fun _ => ⟨w3, ?_⟩)
        have q2 : rstep i (rsN L i) e = { rsN L i with rd := fun j => if (j : Int) = aWho e then (i : Int) else (rsN L i).rd j } := by
          unfold rstep; rw [if_neg q1, if_pos b2]
        rw [q2] at hst
        refine nxt _ _ _ _ (by rw [hst]; exact e1) (by rw [hst]; exact e2) (by rw [hst]; exact e3) (fun v hv => ?_)
        rw [hst]
        show aget (n := 4) (a := ki) (aset (n := 4) (a := ki) rd (aWho e).toNat (i : Int)) v = if (v : Int) = aWho e then (i : Int) else (rsN L i).rd v
        rw [aget_seti hv]
        by_cases z : v = (aWho e).toNat
        · rw [if_pos z, if_pos (by omega)]
        · rw [if_neg z, if_neg (by omega)]; exact e4 v hv
      · refine dcase (fun z => absurd (show aKind e = 0 from z) (by omega)) (fun _ => ?_)
        refine dcase (fun z => absurd b2 z) (fun _ => ?_)
        have ey : w64 (aX e + 1) = aX e + 1 := by rw [w64_of] <;> omega
        show law3_DequeRace.j4 Q ((ca, (re, (lg, ()))), (0, ())) go (lc, (tp, (rn, ((i : Int), ((rd, u), u2))))) e (decide (aY e ≠ w64 (aX e + 1)), ()) k
        rw [ey, decide_eq_false (fun q => q b3)]
        refine ⟨fun z => (by cases z), fun _ => ?_⟩
        rcases b6 with ⟨d1, d2⟩ | ⟨d1, d2, d3, d4, l, d5, d6⟩
        · refine ⟨fun _ => ?_, fun z => absurd (d1.symm.trans z) (by decide)⟩
          refine dcase (fun z => absurd (d2.trans e2.symm) z) (fun _ => ?_)
          have q2 : rstep i (rsN L i) e = { rsN L i with lc := (i : Int), top := (rsN L i).top + 1, ri := (rsN L i).ri + 1 } := by
            unfold rstep; rw [if_neg q1, if_neg (by omega), if_pos d1]
          rw [q2] at hst
          refine nxt _ _ _ _ (by rw [hst]) ?_ ?_ (by rw [hst]; exact e4)
          · rw [hst]
            show w64 (tp + 1) = (rsN L i).top + 1
            rw [e2, w64_of] <;> omega
          · rw [hst]
            show w64 (rn + 1) = (rsN L i).ri + 1
            rw [e3, w64_of] <;> omega
        · refine ⟨fun z => absurd (d1.symm.trans z) (by decide), fun _ => ⟨w3, ?_⟩⟩
          have er : aget (n := 4) (a := ki) rd (aWho e).toNat = (rsN L i).rd (aWho e).toNat := e4 _ (by omega)
          have s1 := same (by unfold rstep; rw [if_neg q1, if_neg (by omega), if_neg (by rw [d1]; decide)])
          refine dcase (fun z => ?_) (fun _ => ?_)
          · have z : lc < aget (n := 4) (a := ki) rd (aWho e).toNat := z
            rw [er, e1] at z
            exact absurd z (Int.not_lt.2 d2)
          · have hlc : (rsN L i).lc.toNat < L.length := (List.getElem?_eq_some_iff.1 d5).1
            refine ⟨⟨show (0 : Int) ≤ lc by omega, show lc < (lg.len : Int) by omega⟩, ?_⟩
            show deref lg.a _
            rw [hal']
            simp only [deref]
            refine plg.ldPart (k := KAcc) (kp := ki) (y := l.1) hal' (i := lc.toNat) (by rw [e1]; exact d5) (PartAt.zero (post := Kd.cells (.pair ki (.pair ki (.pair ki (.pair ki (.pair .bool .nil))))) l.2) rfl) rfl ?_
            refine dcase (fun z => absurd z d6) (fun _ => ?_)
            show law3_DequeRace.j2 Q go (lc, (tp, (rn, ((i : Int), ((rd, u), u2))))) (decide (tp ≤ aX e), ()) k
            rw [decide_eq_false (by omega)]
            exact ⟨fun z => (by cases z), fun _ => s1⟩
  have g : ¬ (i : Int) < (lg.len : Int) := g
  obtain rfl : i = L.length := by omega
  clear hgo g
  -- the steals
  have fb : ∀ i, 0 ≤ wsum fS (p.calls.take i) ∧ wsum fS (p.calls.take i) ≤ 1048576 := fun i => by
    have h1 := wsum_nn (f := fS) (l := p.calls.take i) fun x _ => by unfold fS; split <;> decide
    have h2 : ∀ l : List DCl, wsum fS l ≤ (l.length : Int) := fun l => by
      induction l with
      | nil => exact Int.le_refl _
      | cons a l ih =>
        have : fS a ≤ 1 := by unfold fS; split <;> decide
        unfold wsum at *
        rw [List.map_cons, List.sum_cons, List.length_cons]; omega
    have h2 := h2 (p.calls.take i)
    have h3 := List.length_take_le' i p.calls
    omega
  refine Loop.up p.calls.length (fun s => s.2.1) (fun i s k' => k' = k ∧ s.1 = (rsN L L.length).ri - wsum fS (p.calls.take i)) rfl ⟨rfl, by show rn = _; rw [e3]; exact (Int.sub_zero _).symm⟩ ?_
  rintro i ⟨(cn : Int), i', u3⟩ k' go2 hi hc ⟨rfl, f1⟩ hgo
  dsimp only at hc f1; subst hc
  refine dcase (fun g => ?_) (fun g => ?_)
  · have g : (i : Int) < (ca.len : Int) := g
    have hil : i < p.calls.length := by omega
    have hx : p.calls[i]? = some p.calls[i] := by simp
    obtain ⟨ac, hac⟩ := pca.addr (by omega)
    refine ⟨⟨Int.natCast_nonneg i, g⟩, ?_⟩
    rw [hac]
    simp only [deref]
    rw [Int.toNat_natCast]
    refine pca.ldAt (k := KCl) hac hx rfl ?_
    have hs : wsum fS (p.calls.take (i + 1)) = wsum fS (p.calls.take i) + fS p.calls[i] := by
      rw [List.take_add_one, hx]; exact wsum_snoc _ _ _
    have f2 := fb i
    generalize p.calls[i] = c at *
    have no : ¬ (0 < dWho c ∧ dCode c = 4) → law3_DequeRace.j10 go2 (cn, ((i : Int), u3)) (false, ()) k' := fun q => ⟨fun z => (by cases z), fun _ => hgo hil _ _ (w64_nat (n := p.calls.length) hil (by omega)) ⟨rfl, by show cn = _; rw [hs, show fS c = 0 from if_neg q]; omega⟩⟩
    refine dcase (fun z => ?_) (fun z => no (fun q => z q.1))
    show law3_DequeRace.j10 go2 (cn, ((i : Int), u3)) (decide (dCode c = 4), ()) k'
    by_cases z2 : dCode c = 4
    · rw [decide_eq_true z2]
      refine ⟨fun _ => hgo hil _ _ (w64_nat (n := p.calls.length) hil (by omega)) ⟨rfl, ?_⟩, fun z => (by cases z)⟩
      show w64 (cn - 1) = _
      rw [hs, show fS c = 1 from if_pos ⟨z, z2⟩, f1, w64_of] <;> omega
    · rw [decide_eq_false z2]; exact no (fun q => z2 q.2)
  · have g : ¬ (i : Int) < (ca.len : Int) := g
    obtain rfl : i = p.calls.length := by omega
    rw [List.take_length] at f1
    show Q (decide (0 ≤ cn)) k'
    rw [decide_eq_true (by omega)]
    exact hQ _ hl2
end Go.Mx
