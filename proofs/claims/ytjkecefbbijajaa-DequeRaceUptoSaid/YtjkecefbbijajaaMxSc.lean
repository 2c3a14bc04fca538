/-
  The CASes of a play: how a step keeps what holds of them.
-/
import Derived.Test.YtjkecefbbijajaaMxSb
set_option linter.unusedVariables false
set_option linter.unusedSimpArgs false
set_option linter.unusedSectionVars false
namespace Go.Mx

theorem go_acts {most : Int} {q : PS} {n : Int} {w : Nat} {v : Int} {m' : AS} {x : DOp} {N : Int} (r : GoR most q n w v m' x N) : (q.go n w).acts.length = q.acts.length := by
  by_cases e : x.pc = 0
  · rw [r.off e]; exact List.length_set
  · rw [r.on e]; exact List.length_set
theorem go_stolen {W : List Nat} {most : Int} {k : Nat} {q : PS} (ai : AI W most k q) (cd : ∀ (i : Nat) c, q.calls[i]? = some c → dEnd c = -1 → dCode c = 0) {w : Nat} (hw : w < q.acts.length) (hr : 0 ≤ (q.act w).2) {n : Int} {v : Int} {m' : AS} {x : DOp} {N : Int} (r : GoR most q n w v m' x N) :
    wsum fS (q.go n w).calls ≤ wsum fS q.calls + 1 ∧ (gt m'.cs 0 = gt q.m.cs 0 → wsum fS (q.go n w).calls ≤ wsum fS q.calls) := by
  by_cases xp : x.pc = 0
  · obtain ⟨c0, r1, r2, r3, r4, r5⟩ := ai.s0 w hw hr
    have c00 := cd _ c0 r1 r3
    have e : (q.go n w).calls = endAt q.calls (q.act w).2.toNat n x.code x.value := by rw [r.off xp]
    rw [e, wsum_end fS r1, show fS c0 = 0 from if_neg (fun q => by have := q.2; omega)]
    by_cases z : 0 < dWho c0 ∧ x.code = 4
    · rw [show fS (endCall c0 n x.code x.value) = 1 from if_pos z]
      refine ⟨by omega, fun g => ?_⟩
      have w0 : w ≠ 0 := by have := z.1; omega
      cases r.thief w0 with
      | same p => exact absurd xp p
      | empty _ _ co => omega
      | lost _ _ co => omega
      | got _ _ _ _ _ t' => omega
      | look _ _ co => omega
    · rw [show fS (endCall c0 n x.code x.value) = 0 from if_neg z]
      exact ⟨by omega, fun _ => by omega⟩
  · have e : (q.go n w).calls = q.calls := by rw [r.on xp]
    rw [e]
    exact ⟨by omega, fun _ => Int.le_refl _⟩
theorem RI.pre {thieves most : Int} {p : PS} (h : RI thieves p) {k : Nat} {w : Nat} (hw : w < p.acts.length) {N : Int} (pi : PI most p N) {q : PS} (e : p.pre most (k : Int) w = some q) : RI thieves q := by
  have m1 : 1 ≤ most := by have := pi.dg.c1; have := pi.dg.cm; omega
  have m2 := pi.dg.mx
  have h0 := pi.pos
  obtain ⟨a1, a2, a3, a4, a5, a6, a7⟩ := h
  have nh : ∀ {kind pc v : Int}, (pc = 1 ∧ kind ≠ 3 ∨ pc = 2) → ¬ hasT (DOp.begin kind pc 0 most v) := fun {kind pc v} z q => by
    rw [begin_eq m1 m2] at q
    unfold hasT at q
    dsimp only at q
    omega
  have mk : ∀ (i : Nat) (x : DOp) (y : DCl) (ts : List DTd), i < p.acts.length → ¬ hasT x → fS y = 0 → RI thieves { p with todos := ts, acts := p.acts.set i (x, (p.calls.length : Int)), calls := p.calls ++ [y] } := fun i x y ts hi nx hy => by
    have e : ∀ j, ({ p with todos := ts, acts := p.acts.set i (x, (p.calls.length : Int)), calls := p.calls ++ [y] } : PS).act j = if j = i then (x, (p.calls.length : Int)) else p.act j := fun j => act_set (p := p) hi
    refine ⟨a1, a2, a3, a4, fun j hj ht => ?_, by show wsum fS (p.calls ++ [y]) ≤ _; rw [wsum_snoc, hy, Int.add_zero]; exact a6, a7⟩
    rw [e] at ht ⊢
    by_cases z : j = i
    · rw [if_pos z] at ht; exact absurd ht nx
    · rw [if_neg z] at ht ⊢
      exact a5 j (by have : j < (p.acts.set i (x, (p.calls.length : Int))).length := hj; rw [List.length_set] at this; exact this) ht
  cases pre_cases e with
  | on _ eq => subst eq; exact ⟨a1, a2, a3, a4, a5, a6, a7⟩
  | push w0 h1 t ts et k1 eq => subst eq; exact mk 0 _ _ ts h0 (nh (.inl ⟨rfl, by decide⟩)) (if_neg (fun q => absurd (show (0 : Int) < 0 from q.1) (by decide)))
  | pop w0 h1 t ts et k1 eq => subst eq; exact mk 0 _ _ ts h0 (nh (.inl ⟨rfl, by decide⟩)) (if_neg (fun q => absurd (show (0 : Int) < 0 from q.1) (by decide)))
  | steal w0 h1 eq => subst eq; exact mk w _ _ p.todos hw (nh (.inr rfl)) (if_neg (fun q => absurd (show (0 : Int) = 4 from q.2) (by decide)))

theorem RI.go {thieves most : Int} {q : PS} (h : RI thieves q) (t0 : 0 ≤ thieves) {W : List Nat} {k : Nat} (ai : AI W most k q) (cd : ∀ (i : Nat) c, q.calls[i]? = some c → dEnd c = -1 → dCode c = 0) {w : Nat} (hw : w < q.acts.length) (hal : q.acts.length = (1 + thieves).toNat) (hr : 0 ≤ (q.act w).2) {N : Int} (pi : PI most q N) (nn : N ≤ 900000000) {v : Int} {m' : AS} {x : DOp} (r : GoR most q (k : Int) w v m' x N) : RI thieves (q.go (k : Int) w) := by
  obtain ⟨a1, a2, a3, a4, a5, a6, a7⟩ := h
  obtain ⟨s1, s2⟩ := go_stolen ai cd hw hr r
  obtain ⟨e1, e2⟩ := r.act hw
  have e3 := go_acts r
  obtain ⟨e, l1, l2, l3⟩ := r.log pi.wt
  have pc : (q.act w).1.pc ≠ 0 := fun z => by have := (pi.run w hw).2 z; omega
  have base := (pi.mach w hw pc).1
  have hT0 := pi.dg.t0
  have hTb : gt q.m.cs 0 ≤ 1000000000 := by have := pi.dg.tb; have := pi.dg.bn; omega
  have whe : 0 ≤ aWho e ∧ aWho e ≤ thieves := by rw [l2]; omega
  have hxe := r.ex
  generalize hlg : q.m.lg = lg at *
  generalize hs : rsN lg lg.length = s at *
  have sl : (lg ++ [e]).length = lg.length + 1 := by simp
  have ss : rsN (lg ++ [e]) (lg ++ [e]).length = rstep lg.length s e := by rw [sl, rsN_snoc, hs]
  have ge : (lg ++ [e])[lg.length]? = some e := by rw [List.getElem?_append_right (Nat.le_refl _), Nat.sub_self]; rfl
  generalize q.go (k : Int) w = q' at *
  have hm : q'.m.lg = lg ++ [e] := by rw [e1]; exact l1
  have keepl : ∀ {i : Nat} {y : Acc}, lg[i]? = some y → (lg ++ [e])[i]? = some y := fun {i y} hy => by rw [List.getElem?_append_left (List.getElem?_eq_some_iff.1 hy).1]; exact hy
  -- nothing about TOP
  have far : FarR (q.act w).1.req → (q.act w).1.pc ≠ 2 → RI thieves q' := fun hf p2 => by
    obtain ⟨f1, f2⟩ := hf.acc l3 (by have := pi.dg.len; have := pi.dg.a3; have := pi.dg.c1; have := newer_nn pi.os pi.dg.c1 pi.dg.cm; show 3 ≤ q.m.cs.length; omega)
    have f2 : gt m'.cs 0 = gt q.m.cs 0 := f2
    have sr : rstep lg.length s e = s := if_pos (.inl f1)
    rw [sr] at ss
    refine ⟨?_, ?_, ?_, fun j => ?_, fun j hj ht => ?_, ?_, ?_⟩
    · rw [hm]; exact a1.snoc ⟨whe, .inl (.inl f1)⟩
    · rw [hm, ss, e1, f2]; exact a2
    · rw [hm, ss, sl]; omega
    · rw [hm, ss, sl]; have := a4 j; omega
    · rw [hm, ss, e1, f2]
      rw [e2] at ht ⊢
      rw [e3] at hj
      by_cases z : j = w
      · subst z
        rw [if_pos rfl] at ht ⊢
        rw [hxe] at ht ⊢
        obtain ⟨b1, b2, b3⟩ := hasT_after p2 ht
        rw [b3]
        obtain ⟨c1, c2, c3⟩ := a5 j hj b1
        exact ⟨c1, c2, fun z => by obtain ⟨d1, y, d2, d3⟩ := c3 z; exact ⟨d1, y, keepl d2, d3⟩⟩
      · rw [if_neg z] at ht ⊢
        obtain ⟨c1, c2, c3⟩ := a5 j hj ht
        exact ⟨c1, c2, fun z => by obtain ⟨d1, y, d2, d3⟩ := c3 z; exact ⟨d1, y, keepl d2, d3⟩⟩
    · rw [hm, ss]; have := s2 f2; omega
    · rw [hm, ss, sl]; omega
  by_cases p2 : (q.act w).1.pc = 2
  · -- TOP is read
    have hrq := req2 base p2
    rw [hrq] at l3
    obtain ⟨rfl, hv, hcs⟩ := l3
    have hv : v = gt q.m.cs 0 := hv
    have hcs : m'.cs = q.m.cs := hcs
    generalize hec : acc { q.m with who := (w : Int) } 0 0 v 0 true = e at *
    have k1 : aAddr e = 0 := by rw [← hec]; rfl
    have k2 : aKind e = 0 := by rw [← hec]; rfl
    have k3 : aX e = v := by rw [← hec]; rfl
    have sr : rstep lg.length s e = { s with rd := fun j => if (j : Int) = aWho e then (lg.length : Int) else s.rd j } := by
      unfold rstep; rw [if_neg (by omega), if_pos k2]
    rw [sr] at ss
    have f2 : gt m'.cs 0 = gt q.m.cs 0 := by rw [hcs]
    refine ⟨?_, ?_, ?_, fun j => ?_, fun j hj ht => ?_, ?_, ?_⟩
    · rw [hm]; exact a1.snoc ⟨whe, .inr (.inl ⟨k1, k2, by rw [k3, hs, hv]; exact a2.symm⟩)⟩
    · rw [hm, ss, e1, f2]; exact a2
    · rw [hm, ss, sl]; show s.lc < _; omega
    · rw [hm, ss, sl]
      have := a4 j
      show (if (j : Int) = aWho e then (lg.length : Int) else s.rd j) ≤ _ ∧ _ ≤ (if (j : Int) = aWho e then (lg.length : Int) else s.rd j)
      split <;> omega
    · rw [hm, ss, e1, f2]
      rw [e2] at ht ⊢
      rw [e3] at hj
      by_cases z : j = w
      · subst z
        rw [if_pos rfl] at ht ⊢
        rw [hxe] at ht ⊢
        rw [after_t2 p2 ht, hv]
        exact ⟨hT0, Int.le_refl _, fun z => absurd z (Int.lt_irrefl _)⟩
      · rw [if_neg z] at ht ⊢
        obtain ⟨c1, c2, c3⟩ := a5 j hj ht
        refine ⟨c1, c2, fun zz => ?_⟩
        obtain ⟨d1, y, d2, d3⟩ := c3 zz
        refine ⟨?_, y, keepl d2, d3⟩
        show (if (j : Int) = aWho e then (lg.length : Int) else s.rd j) ≤ s.lc
        rw [if_neg (fun q => z (Int.ofNat_inj.1 (q.trans l2)))]; exact d1
    · rw [hm, ss]; have := s2 f2; show _ ≤ s.ri; omega
    · rw [hm, ss, sl]; show s.ri ≤ _ ∧ 0 ≤ s.ri ∧ s.top ≤ _; omega
  by_cases p13 : (q.act w).1.pc = 13
  · -- a CAS at TOP
    have hk : (q.act w).1.kind = 2 ∨ (q.act w).1.kind = 3 := by
      by_cases z : w = 0
      · subst z
        cases pi.os with
        | idle p => omega
        | pu1 k' p | pu2 k' p | pu3 k' p | pu4 k' p | pu5 k' p | pu6 k' p | pu7 k' p | pu8 k' p | pu9 k' p | pu10 k' p | pu11 k' p => omega
        | po1 k' | po3 k' | po11 k' | po2 k' | po4 k' | po12 k' | po13 k' | pe k' | pf k' => exact .inl k'
      · exact .inr (pi.kind w (by omega) hw pc)
    have hh : hasT (q.act w).1 := by
      rcases hk with z | z
      · exact .inr ⟨z, by omega⟩
      · exact .inl ⟨z, by omega⟩
    have nx : ¬ hasT x := fun z => by rw [hxe] at z; exact (hasT_after p2 z).2.1 p13
    obtain ⟨c1, c2, c3⟩ := a5 w hw hh
    have hrq := req13 base p13
    rw [hrq] at l3
    have ew : w64 ((q.act w).1.t + 1) = (q.act w).1.t + 1 := by rw [w64_of] <;> omega
    rw [ew] at l3
    generalize (q.act w).1.t = t at *
    obtain ⟨hec, hv, hcs⟩ := l3
    have hcs : m'.cs = if gt q.m.cs 0 = t then q.m.cs.set 0 (t + 1) else q.m.cs := hcs
    have k1 : aAddr e = 0 := by rw [hec]; rfl
    have k2 : aKind e = 2 := by rw [hec]; rfl
    have k3 : aX e = t := by rw [hec]; rfl
    have k4 : aY e = t + 1 := by rw [hec]; rfl
    have k5 : aOk e = decide (gt q.m.cs 0 = t) := by rw [hec]; rfl
    by_cases z : gt q.m.cs 0 = t
    · rw [decide_eq_true z] at k5
      rw [if_pos z] at hcs
      have g0 : gt m'.cs 0 = t + 1 := by
        rw [hcs]
        have hl0 : (0 : Int) < (q.m.cs.length : Int) := by have := pi.dg.len; have := pi.dg.a3; have := pi.dg.c1; have := newer_nn pi.os pi.dg.c1 pi.dg.cm; omega
        exact (gt_set (x := 0) (v := t + 1) (y := 0) (by omega) hl0 (by omega)).trans (if_pos rfl)
      have sr : rstep lg.length s e = { s with lc := (lg.length : Int), top := s.top + 1, ri := s.ri + 1 } := by
        unfold rstep; rw [if_neg (by omega), if_neg (by omega), if_pos k5]
      rw [sr] at ss
      refine ⟨?_, ?_, ?_, fun j => ?_, fun j hj ht => ?_, ?_, ?_⟩
      · rw [hm]; exact a1.snoc ⟨whe, .inr (.inr ⟨k1, k2, by omega, by omega, by omega, .inl ⟨k5, by rw [k3, hs]; omega⟩⟩)⟩
      · rw [hm, ss, e1, g0]; show s.top + 1 = _; omega
      · rw [hm, ss, sl]; show (lg.length : Int) < _; omega
      · rw [hm, ss, sl]; have := a4 j; show s.rd j ≤ _ ∧ 0 ≤ s.rd j; omega
      · rw [hm, ss, e1, g0]
        rw [e2] at ht ⊢
        rw [e3] at hj
        by_cases zz : j = w
        · subst zz; rw [if_pos rfl] at ht; exact absurd ht nx
        · rw [if_neg zz] at ht ⊢
          obtain ⟨d1, d2, d3⟩ := a5 j hj ht
          refine ⟨d1, by omega, fun _ => ⟨(a4 j).1, e, ?_, by rw [l2]; omega⟩⟩
          show (lg ++ [e])[((lg.length : Int)).toNat]? = _
          rw [Int.toNat_natCast]; exact ge
      · rw [hm, ss]; show _ ≤ s.ri + 1; omega
      · rw [hm, ss, sl]; show s.ri + 1 ≤ _ ∧ 0 ≤ s.ri + 1 ∧ s.top + 1 ≤ _; omega
    · rw [decide_eq_false z] at k5
      rw [if_neg z] at hcs
      have f2 : gt m'.cs 0 = gt q.m.cs 0 := by rw [hcs]
      obtain ⟨d1, y, d2, d3⟩ := c3 (by omega)
      have sr : rstep lg.length s e = s := by
        unfold rstep; rw [if_neg (by omega), if_neg (by omega), if_neg (by rw [k5]; decide)]
      rw [sr] at ss
      refine ⟨?_, ?_, ?_, fun j => ?_, fun j hj ht => ?_, ?_, ?_⟩
      · rw [hm]
        refine a1.snoc ⟨whe, .inr (.inr ⟨k1, k2, by omega, by omega, by omega, .inr ⟨k5, ?_, ?_, ?_, y, ?_, ?_⟩⟩)⟩
        · rw [hs, l2, Int.toNat_natCast]; exact d1
        · rw [hs]; have := (a4 w).2; omega
        · rw [hs, k3]; omega
        · rw [hs]; exact d2
        · rw [l2]; exact d3
      · rw [hm, ss, e1, f2]; exact a2
      · rw [hm, ss, sl]; omega
      · rw [hm, ss, sl]; have := a4 j; omega
      · rw [hm, ss, e1, f2]
        rw [e2] at ht ⊢
        rw [e3] at hj
        by_cases zz : j = w
        · subst zz; rw [if_pos rfl] at ht; exact absurd ht nx
        · rw [if_neg zz] at ht ⊢
          obtain ⟨c1, c2, c3⟩ := a5 j hj ht
          exact ⟨c1, c2, fun z => by obtain ⟨d1, y, d2, d3⟩ := c3 z; exact ⟨d1, y, keepl d2, d3⟩⟩
      · rw [hm, ss]; have := s2 f2; omega
      · rw [hm, ss, sl]; omega
  · refine far ?_ p2
    by_cases z : w = 0
    · subst z; exact pi.os.farR pi.dg base pc p2 p13
    · exact (pi.th w (by omega) hw).farR pi.dg (newer_nn pi.os pi.dg.c1 pi.dg.cm) base (pi.kind w (by omega) hw pc) pc p2 p13

theorem stN_ri {low most thieves : Int} {todos : List DTd} {picks : List Int} (hc : CapE low most) (ht : 0 ≤ thieves) (hp : picks.length ≤ 1048576) (htd : ∀ t ∈ todos, t.1 = 0 ∨ t.1 = 1) : ∀ {k : Nat}, k ≤ picks.length → RI thieves (stN low most todos thieves picks k) := by
  intro k
  induction k with
  | zero =>
    intro _
    have pi := ps0_pi (todos := todos) (thieves := thieves) hc ht
    have ea : ∀ j, ((ps0 low most todos thieves).act j).1 = DOp.zero := fun j => by
      show ((List.replicate (1 + thieves).toNat (DOp.zero, (-1 : Int)))[j]?.getD (DOp.zero, -1)).1 = _
      rw [List.getElem?_replicate]
      split <;> rfl
    have p0 : ((ps0 low most todos thieves).act 0).1.pc = 0 := by rw [ea]; rfl
    have h1 := pi.dg.t0
    have h2 := pi.dg.bn
    have h3 := pi.dg.tb
    rw [Bl_up (lowp (.inl p0))] at h2 h3
    refine ⟨fun i e h => (by cases h), ?_, (by show (-1 : Int) < 0; decide), fun j => ⟨Int.le_refl _, Int.le_refl _⟩, fun j _ h => ?_, Int.le_refl _, Int.le_refl _, Int.le_refl _, Int.le_refl _⟩
    · show (0 : Int) = gt (ps0 low most todos thieves).m.cs 0
      omega
    · have h : hasT ((ps0 low most todos thieves).act j).1 := h
      rw [ea] at h
      unfold hasT DOp.zero at h
      dsimp only at h
      omega
  | succ k ih =>
    intro hk
    obtain ⟨i1, i2, i3⟩ := stN_all' (todos := todos) (picks := picks) hc ht hp (k := k) (by omega)
    have ai := stN_ai (todos := todos) (picks := picks) hc ht hp htd (k := k) (by omega)
    have hwl : (whos thieves picks).length = picks.length := List.length_map ..
    have hW : (whos thieves picks)[k]? = some ((whos thieves picks)[k]'(by omega)) := by simp
    have hwm := whos_mem ht (List.getElem_mem (l := whos thieves picks) (n := k) (by omega))
    rw [stN_succ _ _ _ _ _ hW, PS.step_pre]
    have htp : ∀ t ∈ (stN low most todos thieves picks k).todos, t.1 = 0 ∨ t.1 = 1 := fun t ht => by
      obtain ⟨dn, d1, _⟩ := i2.tds
      exact htd t (by rw [d1]; exact List.mem_append_right _ ht)
    generalize (whos thieves picks)[k]'(by omega) = w at *
    cases e : (stN low most todos thieves picks k).pre most (k : Int) w with
    | none => exact ih (by omega)
    | some q =>
      obtain ⟨h1, h2, h3, h4, h5, _⟩ := i1.pre (by rw [i3]; exact hwm) e
      obtain ⟨v, m', x, r⟩ := h1.go (by omega) (n := (k : Int)) (who := w) (by rw [h3, i3]; exact hwm) h4
      have hi2 := i2.pre (by rw [i3]; exact hwm) hW e
      exact ((ih (by omega)).pre (by rw [i3]; exact hwm) i1 e).go ht (ai.pre (by rw [i3]; exact hwm) i1 htp e) (fun i c hc he => by
        rcases hi2.c2 i c hc with ⟨_, z, _⟩ | ⟨e', z, _⟩
        · exact z
        · omega) (by rw [h3, i3]; exact hwm) (by rw [h3, i3]) h5 h1 (by omega) r
end Go.Mx
