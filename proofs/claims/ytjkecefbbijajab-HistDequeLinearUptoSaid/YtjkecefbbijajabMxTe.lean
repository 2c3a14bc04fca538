/-
  With no thief the deque is the plain one: the plain part of HistDequeAlone.
  HistDequeAlone: the walk.
-/
import Derived.Test.YtjkecefbbijajabMxTb
import Derived.Test.YtjkecefbbijajabMxX
set_option linter.unusedVariables false
set_option linter.unusedSimpArgs false
set_option linter.unusedSectionVars false
namespace Go.Mx

theorem PF.own15' {W : List Nat} {todos : List DTd} {thieves most : Int} {n : Nat} {p : PS} (h : PF W todos thieves most n p) (r : 0 ≤ (p.act 0).2) : wsum (fO W) p.calls + stp p 0 < 15 * (nOf 0 p.calls : Int) := by
  obtain ⟨S, m1, m2, m3, m4⟩ := h.ai.am
  have hT := nOf_PQ p.calls
  obtain ⟨n1, n2⟩ := nOf_T 0 p.calls
  have p0 := wsum_nn (f := fP) (l := p.calls) fun x _ => by unfold fP; split <;> decide
  have q0 := wsum_nn (f := fQ) (l := p.calls) fun x _ => by unfold fQ; split <;> decide
  have est : stp p 0 = stepsOf (p.act 0).1 := if_pos r
  obtain ⟨c, z1, z2, z3, z4, z5⟩ := h.ai.s0 0 h.pi.pos r
  have n2 := n2 c (List.mem_of_getElem? z1) z2 z3
  have pc : (p.act 0).1.pc ≠ 0 := fun e => by have := (h.pi.run 0 h.pi.pos).2 e; omega
  rw [est]
  by_cases k1 : (p.act 0).1.kind = 1
  · have a1 := h.ai.a1
    rw [Bl_up (low1 k1)] at a1
    have hb : 0 ≤ gt p.m.cs 1 ∧ gt p.m.cs 1 ≤ 1000000000 := by
      have h1 := h.pi.dg.bn
      have h2 := h.pi.dg.tb
      have h3 := h.pi.dg.t0
      have h4 := h.pi.dg.nn
      rw [Bl_up (low1 k1)] at h1 h2
      omega
    obtain ⟨t1, t2, t3, t4, t5, t6⟩ := push_steps h.pi.os h.ai.xi k1 pc hb.1 hb.2 h.pi.dg.c1 0
    omega
  · have k2 : (p.act 0).1.kind = 2 := by
      cases h.pi.os with
      | idle p => exact absurd p pc
      | pu1 k' | pu2 k' | pu3 k' | pu4 k' | pu5 k' | pu6 k' | pu7 k' | pu8 k' | pu9 k' | pu10 k' | pu11 k' => exact absurd k' k1
      | po1 k' | po3 k' | po11 k' | po2 k' | po4 k' | po12 k' | po13 k' | pe k' | pf k' => exact k'
    obtain ⟨t1, t2, t3, t4⟩ := pop_steps h.pi.os k2 pc 0
    omega

/-- How many of the calls have ended. -/
def dn (p : PS) : Nat := if 0 ≤ (p.act 0).2 then p.calls.length - 1 else p.calls.length
structure AN (most : Int) (ts : List DTd) (p : PS) : Prop where
  tt : (p.act 0).1.kind = 1 → (p.act 0).1.pc ≠ 0 → (p.act 0).1.pc ≠ 1 → (p.act 0).1.pc ≠ 2 → (p.act 0).1.t = gt p.m.cs 0
  tp : (p.act 0).1.kind = 2 → ((p.act 0).1.pc = 4 ∨ (p.act 0).1.pc = 12 ∨ (p.act 0).1.pc = 13) → (p.act 0).1.t = gt p.m.cs 0
  tw : (p.act 0).1.kind = 2 → (p.act 0).1.pc = 11 → (p.act 0).1.i ≠ 0 → (p.act 0).1.t = (p.act 0).1.b → (p.act 0).1.won = true
  vv : ∀ c, 0 ≤ (p.act 0).2 → (p.act 0).1.kind = 1 → p.calls[(p.act 0).2.toNat]? = some c → (p.act 0).1.v = dArg c
  r1 : 0 ≤ (p.act 0).2 → (p.act 0).2 + 1 = (p.calls.length : Int)
  vsE : vs p = (runL most (ts.take (dn p))).2
  cl : ∀ (i : Nat) c, i < dn p → p.calls[i]? = some c → ∃ r : DCl, (runL most (ts.take (dn p))).1[i]? = some r ∧ dWho c = dWho r ∧ dKind c = dKind r ∧ dArg c = dArg r ∧ dCode c = dCode r ∧ dVal c = dVal r
theorem AN.pre {most : Int} {ts : List DTd} {p : PS} (h : AN most ts p) {k : Nat} {N : Int} (pi : PI most p N) {q : PS} (e : p.pre most (k : Int) 0 = some q) : AN most ts q := by
  obtain ⟨_, _, _, _, _, c1, c2⟩ := pi.pre pi.pos e
  have ev : vs q = vs p := by unfold vs; rw [c1, c2]
  have m1 : 1 ≤ most := by have := pi.dg.c1; have := pi.dg.cm; omega
  have m2 := pi.dg.mx
  have h0 := pi.pos
  have mk : ∀ (x : DOp) (y : DCl) (ts' : List DTd), (p.act 0).2 < 0 → x.pc = 1 → (x.kind = 1 → x.v = dArg y) → vs { p with todos := ts', acts := p.acts.set 0 (x, (p.calls.length : Int)), calls := p.calls ++ [y] } = vs p → AN most ts { p with todos := ts', acts := p.acts.set 0 (x, (p.calls.length : Int)), calls := p.calls ++ [y] } := fun x y ts' e0 hx hv hvs => by
    have ea : ({ p with todos := ts', acts := p.acts.set 0 (x, (p.calls.length : Int)), calls := p.calls ++ [y] } : PS).act 0 = (x, (p.calls.length : Int)) := (act_set (p := p) (j := 0) h0).trans (if_pos rfl)
    have ed : dn { p with todos := ts', acts := p.acts.set 0 (x, (p.calls.length : Int)), calls := p.calls ++ [y] } = dn p := by
      unfold dn
      rw [ea, if_pos (Int.natCast_nonneg _), if_neg (by omega)]
      show (p.calls ++ [y]).length - 1 = _
      rw [List.length_append]; simp
    have edn : dn p = p.calls.length := if_neg (by omega)
    refine ⟨?_, ?_, ?_, ?_, ?_, by rw [ed, hvs]; exact h.vsE, fun i c hi hc => ?_⟩
    · rw [ea]; exact fun _ _ z => absurd hx z
    · rw [ea]; exact fun _ z => by have z : x.pc = 4 ∨ x.pc = 12 ∨ x.pc = 13 := z; omega
    · rw [ea]; exact fun _ z => by have z : x.pc = 11 := z; omega
    · rw [ea]
      intro c _ hk hc
      have hc : (p.calls ++ [y])[((p.calls.length : Int)).toNat]? = some c := hc
      rw [Int.toNat_natCast, List.getElem?_append_right (Nat.le_refl _), Nat.sub_self] at hc
      rw [← Option.some.inj hc]; exact hv hk
    · rw [ea]
      intro _
      show (p.calls.length : Int) + 1 = ((p.calls ++ [y]).length : Int)
      rw [List.length_append]; simp
    · rw [ed] at hi ⊢
      have hc : (p.calls ++ [y])[i]? = some c := hc
      rw [List.getElem?_append_left (by omega)] at hc
      exact h.cl i c hi hc
  cases pre_cases e with
  | on _ eq => subst eq; exact h
  | push w0 h1 t ts' et k1 eq => subst eq; exact mk _ _ ts' h1 (by unfold DOp.push; rw [begin_eq m1 m2]) (fun _ => by unfold DOp.push; rw [begin_eq m1 m2]; rfl) ev
  | pop w0 h1 t ts' et k1 eq =>
    subst eq
    have pk : (DOp.pop 0 most).kind = 2 ∧ (DOp.pop 0 most).pc = 1 := by unfold DOp.pop; rw [begin_eq m1 m2]; exact ⟨rfl, rfl⟩
    exact mk (DOp.pop 0 most) (newCall 0 t.1 0 (k : Int)) ts' h1 pk.2 (fun z => absurd (pk.1.symm.trans z) (by decide)) ev
  | steal w0 => exact absurd rfl w0

/-- What a push keeps. -/
theorem push_keep {o : DOp} {v : Int} (k : o.kind = 1) (p1 : o.pc ≠ 1) (p2 : o.pc ≠ 2) : (o.after v).t = o.t ∧ (o.after v).b = o.b := by
  unfold DOp.after
  rw [if_pos k]
  unfold DOp.pushed
  rw [if_neg p1, if_neg p2]
  have P : ∀ x : DOp, x.t = o.t ∧ x.b = o.b → x.t = o.t ∧ x.b = o.b := fun _ h => h
  refine pif (P := fun x : DOp => x.t = o.t ∧ x.b = o.b) (fun _ => ⟨rfl, rfl⟩) fun _ => pif (P := fun x : DOp => x.t = o.t ∧ x.b = o.b) (fun _ => ?_) fun _ => pif (P := fun x : DOp => x.t = o.t ∧ x.b = o.b) (fun _ => ⟨rfl, rfl⟩) fun _ => pif (P := fun x : DOp => x.t = o.t ∧ x.b = o.b) (fun _ => ⟨rfl, rfl⟩) fun _ => pif (P := fun x : DOp => x.t = o.t ∧ x.b = o.b) (fun _ => ⟨rfl, rfl⟩) fun _ =>
    pif (P := fun x : DOp => x.t = o.t ∧ x.b = o.b) (fun _ => pif (P := fun x : DOp => x.t = o.t ∧ x.b = o.b) (fun _ => ⟨rfl, rfl⟩) fun _ => ⟨rfl, rfl⟩) fun _ => pif (P := fun x : DOp => x.t = o.t ∧ x.b = o.b) (fun _ => ⟨rfl, rfl⟩) fun _ => pif (P := fun x : DOp => x.t = o.t ∧ x.b = o.b) (fun _ => ⟨rfl, rfl⟩) fun _ => pif (P := fun x : DOp => x.t = o.t ∧ x.b = o.b) (fun _ => ⟨rfl, rfl⟩) fun _ => ⟨rfl, rfl⟩
  exact pif (P := fun x : DOp => x.t = o.t ∧ x.b = o.b) (fun _ => ⟨rfl, rfl⟩) fun _ => pif (P := fun x : DOp => x.t = o.t ∧ x.b = o.b) (fun _ => ⟨rfl, rfl⟩) fun _ => pif (P := fun x : DOp => x.t = o.t ∧ x.b = o.b) (fun _ => ⟨rfl, rfl⟩) fun _ => ⟨rfl, rfl⟩
theorem getElem?_last {α : Type} {l : List α} {x : α} : (l ++ [x])[(l ++ [x]).length - 1]? = some x := by
  rw [List.length_append]
  show (l ++ [x])[l.length + 1 - 1]? = some x
  rw [Nat.add_sub_cancel, List.getElem?_append_right (Nat.le_refl _), Nat.sub_self]; rfl
theorem ctn_len (cs : List Int) : (ctn cs).length = (gt cs 1 - gt cs 0).toNat := by unfold ctn; rw [List.length_map, List.length_range]
theorem AN.go {W : List Nat} {ts : List DTd} {most : Int} {k : Nat} {q : PS} (h : AN most ts q) (ai : AI W most k q) (hi : HI W ts (k + 1) q) (a1 : q.acts.length = 1) (hr : 0 ≤ (q.act 0).2) {N : Int} (pi : PI most q N) (nn : N ≤ 900000000) (htd : ∀ t ∈ ts, t.1 = 0 ∨ t.1 = 1) {v : Int} {m' : AS} {x : DOp} (r : GoR most q (k : Int) 0 v m' x N) : AN most ts (q.go (k : Int) 0) := by
  have hw : 0 < q.acts.length := pi.pos
  obtain ⟨e1, e2⟩ := r.act hw
  have ve := r.veff hw
  have pc : (q.act 0).1.pc ≠ 0 := fun z => by have := (pi.run 0 hw).2 z; omega
  obtain ⟨base, hmost⟩ := pi.mach 0 hw pc
  obtain ⟨c0, r1, r2, r3, r4, r5⟩ := ai.s0 0 hw hr
  have hxe := r.ex
  have sm := (q.act 0).1.after_same v
  rw [← hxe] at sm
  obtain ⟨e, l1, l2, l3⟩ := r.log pi.wt
  have m1 : 1 ≤ most := by have := pi.dg.c1; have := pi.dg.cm; omega
  have hd : dn q = q.calls.length - 1 := if_pos hr
  have hr1 := h.r1 hr
  -- the calls are the owner's
  have own : ∀ c ∈ q.calls, ownC c = true := fun c hc => by
    obtain ⟨i, hi'⟩ := List.mem_iff_getElem?.1 hc
    obtain ⟨w, b, q1, _, _, _, q5, _⟩ := hi.c1 i c hi'
    exact decide_eq_true (by omega)
  have ask : ∀ (i : Nat) c, q.calls[i]? = some c → ∃ t, ts[i]? = some t ∧ dKind c = t.1 ∧ dArg c = if t.1 = 0 then t.2.1 else 0 := fun i c hc => by
    obtain ⟨d, d1, d2⟩ := hi.tds
    rw [List.filter_eq_self.2 own] at d2
    have g : (q.calls.map fun c => (dKind c, dArg c))[i]? = some (dKind c, dArg c) := by rw [List.getElem?_map, hc]; rfl
    rw [d2, List.getElem?_map] at g
    cases e : d[i]? with
    | none => rw [e] at g; cases g
    | some t =>
      rw [e] at g
      have g3 : askOf t = (dKind c, dArg c) := Option.some.inj g
      exact ⟨t, by rw [d1, List.getElem?_append_left (List.getElem?_eq_some_iff.1 e).1]; exact e, (congrArg (·.1) g3).symm, (congrArg (·.2) g3).symm⟩
  by_cases xp : x.pc = 0
  · have ev : vs (q.go (k : Int) 0) = vs (q.go (k : Int) 0) := rfl
    have ea : (q.go (k : Int) 0).act 0 = (x, -1) := by
      rw [r.off xp]
      exact (act_set (p := { q with m := m', calls := endAt q.calls (q.act 0).2.toNat (k : Int) x.code x.value }) (x := (x, -1)) (j := 0) hw).trans (if_pos rfl)
    have ec : (q.go (k : Int) 0).calls = endAt q.calls (q.act 0).2.toNat (k : Int) x.code x.value := by rw [r.off xp]
    have el : (q.go (k : Int) 0).calls.length = q.calls.length := by rw [ec, endAt_len]
    have ed : dn (q.go (k : Int) 0) = q.calls.length := by unfold dn; rw [ea, if_neg (show ¬ (0 : Int) ≤ -1 by decide), el]
    obtain ⟨t, t1, t2, t3⟩ := ask _ c0 r1
    have hjj : (q.act 0).2.toNat = dn q := by omega
    rw [hjj] at t1
    have hjl := (List.getElem?_eq_some_iff.1 t1).1
    have hrl := runL_len most m1 ts (dn q) (by omega)
    have hsucc := runL_succ most ts hjl
    rw [(List.getElem?_eq_some_iff.1 t1).2] at hsucc
    have hdd : q.calls.length = dn q + 1 := by omega
    have hxs := h.vsE
    generalize hX : runL most (ts.take (dn q)) = st at *
    -- what the plain deque answers
    have fin : x.code = dCode (askL st.2 t most (st.1.length : Int)) → x.value = dVal (askL st.2 t most (st.1.length : Int)) → vs (q.go (k : Int) 0) = (doL st.2 (askL st.2 t most (st.1.length : Int)) most).1 → AN most ts (q.go (k : Int) 0) := fun f1 f2 f3 => by
      have k3 : dWho c0 = dWho (askL st.2 t most (st.1.length : Int)) := by
        show dWho c0 = if t.1 = 2 then 1 else 0
        have h2 : ¬ t.1 = 2 := fun z => by
          rcases htd t (List.mem_of_getElem? t1) with y | y
          · rw [y] at z; exact absurd z (by decide)
          · rw [y] at z; exact absurd z (by decide)
        rw [if_neg h2, r2]; rfl
      refine ⟨?_, ?_, ?_, ?_, ?_, ?_, fun i c hi' hc => ?_⟩
      · rw [ea]; exact fun _ z => absurd xp z
      · rw [ea]; exact fun _ z => by have z : x.pc = 4 ∨ x.pc = 12 ∨ x.pc = 13 := z; omega
      · rw [ea]; exact fun _ z => by have z : x.pc = 11 := z; omega
      · rw [ea]; exact fun c z => absurd (show (0 : Int) ≤ -1 from z) (by decide)
      · rw [ea]; exact fun z => absurd (show (0 : Int) ≤ -1 from z) (by decide)
      · rw [ed, hdd, hsucc, f3]; rfl
      · rw [ed] at hi' ⊢
        rw [hdd, hsucc]
        show ∃ r : DCl, (st.1 ++ [askL st.2 t most (st.1.length : Int)])[i]? = some r ∧ _
        rw [ec, endAt_get r1] at hc
        rcases hc with ⟨z1, z2⟩ | ⟨z1, z2⟩
        · refine ⟨askL st.2 t most (st.1.length : Int), ?_, ?_⟩
          · rw [z1, hjj, ← hrl.1, List.getElem?_append_right (Nat.le_refl _), Nat.sub_self]; rfl
          · rw [z2]
            exact ⟨k3, t2, t3, f1, f2⟩
        · obtain ⟨r', y1, y2⟩ := h.cl i c (by omega) z2
          rw [hX] at y1
          exact ⟨r', by rw [List.getElem?_append_left (List.getElem?_eq_some_iff.1 y1).1]; exact y1, y2⟩
    have ek : dKind c0 + 1 = (q.act 0).1.kind := r4
    have evs : vs (q.go (k : Int) 0) = ctn m'.cs ++ hand m'.cs x := by unfold vs; rw [e1, e2 0, if_pos rfl]
    have evq : vs q = ctn q.m.cs ++ hand q.m.cs (q.act 0).1 := rfl
    cases r.own rfl with
    | same p => exact absurd xp p
    | low _ p => exact absurd xp p
    | won _ p => exact absurd xp p
    | push k1 _ co va c hh hh' tt fb p11 =>
      have ht := h.tt k1 pc (by omega) (by omega)
      have hv := h.vv c0 hr k1 r1
      have hb : (q.act 0).1.b = gt q.m.cs 1 := by
        cases pi.os with
        | pu11 _ _ hb => exact hb
        | idle p => omega
        | pu1 k' p | pu2 k' p | pu3 k' p | pu4 k' p | pu5 k' p | pu6 k' p | pu7 k' p | pu8 k' p | pu9 k' p | pu10 k' p => omega
        | po1 k' p | po3 k' p | po11 k' p | po2 k' p | po4 k' p | po12 k' p | po13 k' p | pe k' p | pf k' p => omega
      have k0 : t.1 = 0 := t2.symm.trans (show dKind c0 = 0 by omega)
      rw [if_pos k0] at t3
      rw [hh, List.append_nil] at evq
      rw [hh', List.append_nil, c, ← evq, hxs] at evs
      have hl : (st.2.length : Int) < most := by
        rw [← hxs, evq, ctn_len]; omega
      refine fin ?_ ?_ ?_
      · rw [co]; show (2 : Int) = if t.1 = 0 then _ else _; rw [if_pos k0, if_pos hl]
      · rw [va]; show (0 : Int) = if t.1 = 0 then _ else _; rw [if_pos k0]
      · rw [evs]
        have hc : dCode (askL st.2 t most (st.1.length : Int)) = 2 := by show (if t.1 = 0 then _ else _) = (2 : Int); rw [if_pos k0, if_pos hl]
        have hk : dKind (askL st.2 t most (st.1.length : Int)) = 0 := k0
        have hA : dArg (askL st.2 t most (st.1.length : Int)) = (q.act 0).1.v := by show (if t.1 = 0 then t.2.1 else 0) = _; rw [if_pos k0, ← t3, hv]
        unfold doL
        rw [if_neg (show ¬ dCode (askL st.2 t most (st.1.length : Int)) = 3 by omega), if_neg (show ¬ dCode (askL st.2 t most (st.1.length : Int)) = 5 by omega), if_neg (show ¬ dCode (askL st.2 t most (st.1.length : Int)) = 6 by omega), if_pos hk, if_neg (by omega)]
        show _ = st.2 ++ [dArg (askL st.2 t most (st.1.length : Int))]
        rw [hA]
    | full k1 _ co va c hh hh' tt fb fc bb t0 p4 =>
      have ht := h.tt k1 pc (by omega) (by omega)
      have k0 : t.1 = 0 := t2.symm.trans (show dKind c0 = 0 by omega)
      rw [hh, List.append_nil] at evq
      rw [hh', List.append_nil, c, ← evq, hxs] at evs
      have hl : ¬ (st.2.length : Int) < most := by
        rw [← hxs, evq, ctn_len]; omega
      have hc : dCode (askL st.2 t most (st.1.length : Int)) = 3 := by show (if t.1 = 0 then _ else _) = (3 : Int); rw [if_pos k0, if_neg hl]
      refine fin (co.trans hc.symm) ?_ ?_
      · rw [va]; show (0 : Int) = if t.1 = 0 then _ else _; rw [if_pos k0]
      · rw [evs]
        unfold doL
        rw [if_pos hc]
    | got k1 _ co c hh hh' tt tb =>
      have k0 : t.1 = 1 := t2.symm.trans (show dKind c0 = 1 by omega)
      have k00 : ¬ t.1 = 0 := by rw [k0]; decide
      rw [hh] at evq
      rw [hh', List.append_nil, c] at evs
      have hx2 : st.2 = ctn q.m.cs ++ [x.value] := by rw [← hxs, evq]
      have hne : ¬ st.2.length = 0 := by rw [hx2, List.length_append]; simp
      have hlast : st.2[st.2.length - 1]? = some x.value := by rw [hx2]; exact getElem?_last
      have hc : dCode (askL st.2 t most (st.1.length : Int)) = 4 := by show (if t.1 = 0 then _ else _) = (4 : Int); rw [if_neg k00, if_neg hne]
      refine fin (co.trans hc.symm) ?_ ?_
      · show x.value = if t.1 = 0 then _ else _
        rw [if_neg k00, if_neg hne, if_pos k0, hlast]; rfl
      · rw [evs]
        have hk : dKind (askL st.2 t most (st.1.length : Int)) = 1 := k0
        unfold doL
        rw [if_neg (show ¬ dCode (askL st.2 t most (st.1.length : Int)) = 3 by omega), if_neg (show ¬ dCode (askL st.2 t most (st.1.length : Int)) = 5 by omega), if_neg (show ¬ dCode (askL st.2 t most (st.1.length : Int)) = 6 by omega), if_neg (show ¬ dKind (askL st.2 t most (st.1.length : Int)) = 0 by omega), if_neg hne, if_pos hk]
        show _ = st.2.take (st.2.length - 1)
        rw [hx2, List.length_append]
        simp
    | empty k1 _ co va c hh hh' tt tb p11 i1 =>
      have k0 : t.1 = 1 := t2.symm.trans (show dKind c0 = 1 by omega)
      have k00 : ¬ t.1 = 0 := by rw [k0]; decide
      have tb1 : (q.act 0).1.t = (q.act 0).1.b + 1 := by
        rcases tb with z | ⟨z1, z2⟩
        · exact z
        · have := h.tw k1 p11 (by omega) z1
          rw [z2] at this; cases this
      have hb : gt q.m.cs 0 = (q.act 0).1.b + 1 ∧ (q.act 0).1.b = gt q.m.cs 1 := by
        cases pi.os with
        | pe _ _ _ _ hb _ tt' => exact ⟨tt', hb⟩
        | pf _ _ _ _ t' => omega
        | idle p => omega
        | pu1 k' p | pu2 k' p | pu3 k' p | pu4 k' p | pu5 k' p | pu6 k' p | pu7 k' p | pu8 k' p | pu9 k' p | pu10 k' p | pu11 k' p => omega
        | po1 k' p | po3 k' p | po2 k' p | po4 k' p | po12 k' p | po13 k' p => omega
        | po11 k' p i => omega
      have hc0 : ctn q.m.cs = [] := List.length_eq_zero_iff.1 (by rw [ctn_len]; omega)
      rw [hh, hc0] at evq
      rw [hh', c, hc0] at evs
      have hx2 : st.2 = [] := by rw [← hxs, evq]; rfl
      have hc : dCode (askL st.2 t most (st.1.length : Int)) = 5 := by show (if t.1 = 0 then _ else _) = (5 : Int); rw [if_neg k00, hx2]; rfl
      refine fin (co.trans hc.symm) ?_ ?_
      · rw [va]; show (0 : Int) = if t.1 = 0 then _ else _; rw [if_neg k00, hx2]; rfl
      · rw [evs]
        unfold doL
        rw [if_neg (show ¬ dCode (askL st.2 t most (st.1.length : Int)) = 3 by omega), if_pos (show dCode (askL st.2 t most (st.1.length : Int)) = 5 from hc), hx2]; rfl
  · have ea : (q.go (k : Int) 0).act 0 = (x, (q.act 0).2) := by
      rw [r.on xp]
      exact (act_set (p := { q with m := m' }) (x := (x, (q.act 0).2)) (j := 0) hw).trans (if_pos rfl)
    have ec : (q.go (k : Int) 0).calls = q.calls := by rw [r.on xp]
    have ed : dn (q.go (k : Int) 0) = dn q := by unfold dn; rw [ea, ec]
    have ev : vs (q.go (k : Int) 0) = vs q := by
      cases ve with
      | same e _ => exact e
      | push _ _ p => exact absurd p xp
      | pop _ _ p => exact absurd p xp
      | steal w0 => exact absurd rfl w0
    refine ⟨?_, ?_, ?_, ?_, ?_, by rw [ed, ev]; exact h.vsE, fun i c hi' hc => by rw [ed] at hi' ⊢; rw [ec] at hc; exact h.cl i c hi' hc⟩
    · rw [ea, e1]
      intro k1 _ xp1 xp2
      show x.t = gt m'.cs 0
      have k1 : (q.act 0).1.kind = 1 := by rw [← sm.1]; exact k1
      have gs : gt m'.cs 0 = gt q.m.cs 0 := by
        cases r.own rfl with
        | same _ _ _ t => exact t
        | push _ p => exact absurd p xp
        | full _ p => exact absurd p xp
        | low k' => omega
        | got k' => omega
        | empty k' => omega
        | won k' => omega
      by_cases p1 : (q.act 0).1.pc = 1
      · exact absurd (show x.pc = 2 by rw [hxe]; simp [DOp.after, DOp.pushed, k1, p1]) xp2
      · by_cases p2 : (q.act 0).1.pc = 2
        · have ex : x = { (q.act 0).1 with t := v, pc := 3 } := by rw [hxe]; simp [DOp.after, DOp.pushed, k1, p2]
          rw [req2 base p2] at l3
          rw [ex, gs]; exact l3.2.1
        · rw [gs, ← h.tt k1 pc p1 p2, hxe]
          exact (push_keep (v := v) k1 p1 p2).1
    · rw [ea, e1]
      intro k2 hp
      have k2 : (q.act 0).1.kind = 2 := by rw [← sm.1]; exact k2
      have hp : x.pc = 4 ∨ x.pc = 12 ∨ x.pc = 13 := hp
      show x.t = gt m'.cs 0
      cases pi.os with
      | idle p => exact absurd p pc
      | pu1 k' | pu2 k' | pu3 k' | pu4 k' | pu5 k' | pu6 k' | pu7 k' | pu8 k' | pu9 k' | pu10 k' | pu11 k' => omega
      | po1 k' p =>
        have ex : x.pc = 3 := by rw [hxe]; simp [DOp.after, DOp.popped, k', p]
        omega
      | po3 k' p i =>
        have ex : x.pc = 11 := by rw [hxe]; simp [DOp.after, DOp.popped, k', p]
        omega
      | po11 k' p i =>
        have ex : x.pc = 2 := by rw [hxe]; simp [DOp.after, DOp.popped, k', p, i]
        omega
      | po2 k' p i wn bb a =>
        rw [req2 base p] at l3
        have hv : v = gt q.m.cs 0 := l3.2.1
        have hcs : m'.cs = q.m.cs := l3.2.2
        have ex : x = if (q.act 0).1.b < v then { (q.act 0).1 with t := v, i := 1, pc := 11 } else { (q.act 0).1 with t := v, i := 1, pc := 4 } := by rw [hxe]; simp [DOp.after, DOp.popped, k', p]
        have : x.t = v := by rw [ex]; split <;> rfl
        rw [this, hv, hcs]
      | po4 k' p i wn bb a =>
        rw [req4 base p] at l3
        have hcs : m'.cs = q.m.cs := l3.2.2
        have ex : x = if v < 1 then DOp.over { (q.act 0).1 with c := v, pc := 12 } 1 0 else { (q.act 0).1 with c := v, pc := 12 } := by rw [hxe]; simp [DOp.after, DOp.popped, k', p]
        have : x.t = (q.act 0).1.t := by rw [ex]; split <;> rfl
        rw [this, hcs]; exact h.tp k2 (.inl p)
      | po12 k' p i wn bb a t0 t tb c =>
        rw [req12 base p] at l3
        have hcs : m'.cs = q.m.cs := l3.2.2
        have ex : x = if (q.act 0).1.t < (q.act 0).1.b then DOp.over { (q.act 0).1 with x := v, pc := 13 } 4 v else { (q.act 0).1 with x := v, pc := 13 } := by rw [hxe]; simp [DOp.after, DOp.popped, k', p]
        have : x.t = (q.act 0).1.t := by rw [ex]; split <;> rfl
        rw [this, hcs]; exact h.tp k2 (.inr (.inl p))
      | po13 k' p =>
        have ex : x.pc = 11 := by rw [hxe]; simp [DOp.after, DOp.popped, k', p]
        omega
      | pe k' p i wn =>
        have ex : x.pc = 0 := by rw [hxe]; simp [DOp.after, DOp.popped, k', p, i, wn, DOp.over]
        omega
      | pf k' p i =>
        have ex : x.pc = 0 := by
          rw [hxe]
          cases wn : (q.act 0).1.won <;> simp [DOp.after, DOp.popped, k', p, i, wn, DOp.over]
        omega
    · rw [ea]
      intro k2 hp hi0 htb
      have k2 : (q.act 0).1.kind = 2 := by rw [← sm.1]; exact k2
      have hp : x.pc = 11 := hp
      have hi0 : x.i ≠ 0 := hi0
      have htb : x.t = x.b := htb
      show x.won = true
      cases pi.os with
      | idle p => exact absurd p pc
      | pu1 k' | pu2 k' | pu3 k' | pu4 k' | pu5 k' | pu6 k' | pu7 k' | pu8 k' | pu9 k' | pu10 k' | pu11 k' => omega
      | po1 k' p =>
        have ex : x.pc = 3 := by rw [hxe]; simp [DOp.after, DOp.popped, k', p]
        omega
      | po3 k' p i =>
        have ex : x.i = (q.act 0).1.i := by rw [hxe]; simp [DOp.after, DOp.popped, k', p]
        omega
      | po11 k' p i =>
        have ex : x.pc = 2 := by rw [hxe]; simp [DOp.after, DOp.popped, k', p, i]
        omega
      | po2 k' p i wn bb a =>
        have ex : x = if (q.act 0).1.b < v then { (q.act 0).1 with t := v, i := 1, pc := 11 } else { (q.act 0).1 with t := v, i := 1, pc := 4 } := by rw [hxe]; simp [DOp.after, DOp.popped, k', p]
        by_cases z : (q.act 0).1.b < v
        · rw [if_pos z] at ex
          rw [ex] at htb
          have htb : v = (q.act 0).1.b := htb
          omega
        · rw [if_neg z] at ex
          rw [ex] at hp
          exact absurd (show (4 : Int) = 11 from hp) (by decide)
      | po4 k' p i wn bb a =>
        have ex : x = if v < 1 then DOp.over { (q.act 0).1 with c := v, pc := 12 } 1 0 else { (q.act 0).1 with c := v, pc := 12 } := by rw [hxe]; simp [DOp.after, DOp.popped, k', p]
        have : x.pc = 0 ∨ x.pc = 12 := by
          rw [ex]
          by_cases z : v < 1
          · rw [if_pos z]; exact .inl rfl
          · rw [if_neg z]; exact .inr rfl
        omega
      | po12 k' p i wn bb a t0 t tb c =>
        have ex : x = if (q.act 0).1.t < (q.act 0).1.b then DOp.over { (q.act 0).1 with x := v, pc := 13 } 4 v else { (q.act 0).1 with x := v, pc := 13 } := by rw [hxe]; simp [DOp.after, DOp.popped, k', p]
        have : x.pc = 0 ∨ x.pc = 13 := by
          rw [ex]
          by_cases z : (q.act 0).1.t < (q.act 0).1.b
          · rw [if_pos z]; exact .inl rfl
          · rw [if_neg z]; exact .inr rfl
        omega
      | po13 k' p =>
        have ex : x = { (q.act 0).1 with won := decide (v = 1), pc := 11 } := by rw [hxe]; simp [DOp.after, DOp.popped, k', p]
        rw [req13 base p] at l3
        have hv : v = if gt q.m.cs 0 = (q.act 0).1.t then 1 else 0 := l3.2.1
        rw [if_pos (h.tp k2 (.inr (.inr p))).symm] at hv
        rw [ex, hv]; rfl
      | pe k' p i wn =>
        have ex : x.pc = 0 := by rw [hxe]; simp [DOp.after, DOp.popped, k', p, i, wn, DOp.over]
        omega
      | pf k' p i =>
        have ex : x.pc = 0 := by
          rw [hxe]
          cases wn : (q.act 0).1.won <;> simp [DOp.after, DOp.popped, k', p, i, wn, DOp.over]
        omega
    · rw [ea, ec]
      intro c g1 g2 g3
      show x.v = _
      rw [sm.2.2.2]
      exact h.vv c g1 (by rw [← sm.1]; exact g2) g3
    · rw [ea, ec]; exact h.r1
end Go.Mx

namespace Go.Mx

theorem stN_an {low most : Int} {todos : List DTd} {picks : List Int} (hj : judgeE low most todos 0 picks = 0) {k : Nat} (hk : k ≤ picks.length) : AN most todos (stN low most todos 0 picks k) := by
  obtain ⟨j1, j2, j3, j4, j5, j6⟩ := judge_ok hj
  refine stN_ind hj (P := fun k p => AN most todos p) ?_ (fun k w a h _ _ => h) (fun k w q v m' x a h aq r es => ?_) hk
  · have ea : (ps0 low most todos 0).act 0 = (DOp.zero, (-1 : Int)) := by
      show (List.replicate (1 + 0 : Int).toNat (DOp.zero, (-1 : Int)))[0]?.getD (DOp.zero, -1) = _
      rw [List.getElem?_replicate]
      split <;> rfl
    have pi := ps0_pi (todos := todos) (thieves := 0) j3 j4
    have p0 : ((ps0 low most todos 0).act 0).1.pc = 0 := by rw [ea]; rfl
    have h1 := pi.dg.t0
    have h2 := pi.dg.bn
    rw [Bl_up (lowp (.inl p0))] at h2
    have hv : vs (ps0 low most todos 0) = [] := by
      unfold vs
      rw [handp (.inl p0)]
      have : ctn (ps0 low most todos 0).m.cs = [] := List.length_eq_zero_iff.1 (by rw [ctn_len]; omega)
      rw [this]; rfl
    have hd : dn (ps0 low most todos 0) = 0 := by unfold dn; rw [ea, if_neg (show ¬ (0 : Int) ≤ -1 by decide)]; rfl
    refine ⟨?_, ?_, ?_, ?_, ?_, by rw [hv, hd]; rfl, fun i c hi => by rw [hd] at hi; exact absurd hi (Nat.not_lt_zero _)⟩
    · rw [ea]; exact fun z => absurd (show (0 : Int) = 1 from z) (by decide)
    · rw [ea]; exact fun z => absurd (show (0 : Int) = 2 from z) (by decide)
    · rw [ea]; exact fun z => absurd (show (0 : Int) = 2 from z) (by decide)
    · rw [ea]; exact fun c z => absurd (show (0 : Int) ≤ -1 from z) (by decide)
    · rw [ea]; exact fun z => absurd (show (0 : Int) ≤ -1 from z) (by decide)
  · have w0 : w = 0 := by have := a.wl; omega
    subst w0
    have hq := h.pre a.pi aq.pre
    exact hq.go aq.ai aq.hi (by rw [aq.al]; rfl) aq.run aq.pi (by have := a.lt; omega) j6 r
theorem alone_end {low most : Int} {todos : List DTd} {n : Nat} (hn : n = 15 * todos.length) (hj : judgeE low most todos 0 (List.replicate n 0) = 0) : ((playOf low most todos 0 (List.replicate n 0)).act 0).2 < 0 ∧ (playOf low most todos 0 (List.replicate n 0)).calls.length = todos.length := by
  have pf := play_pf hj
  have hlen : (List.replicate n (0 : Int)).length = n := List.length_replicate
  rw [hlen] at pf
  generalize playOf low most todos 0 (List.replicate n 0) = p at *
  have hW : whos 0 (List.replicate n 0) = List.replicate n 0 := by unfold whos; rw [List.map_replicate]; rfl
  rw [hW] at pf
  have hpk : pk (List.replicate n 0) 0 n = n := by
    unfold pk
    rw [List.take_of_length_le (by rw [List.length_replicate]; exact Nat.le_refl n), List.filter_eq_self.2, List.length_replicate]
    intro a ha
    exact decide_eq_true (List.mem_replicate.1 ha).2
  have own : ∀ c ∈ p.calls, ownC c = true := fun c hc => by
    obtain ⟨i, hi'⟩ := List.mem_iff_getElem?.1 hc
    obtain ⟨w, b, q1, _, _, _, q5, _⟩ := pf.hi.c1 i c hi'
    have := pf.al
    exact decide_eq_true (by omega)
  have hno : nOf 0 p.calls = p.calls.length := by
    show (p.calls.filter ownC).length = _
    rw [List.filter_eq_self.2 own]
  obtain ⟨d, d1, d2⟩ := pf.hi.tds
  rw [List.filter_eq_self.2 own] at d2
  have dl := congrArg List.length d2
  rw [List.length_map, List.length_map] at dl
  have tl := congrArg List.length d1
  rw [List.length_append] at tl
  obtain ⟨idl, i1, i2, i3⟩ := pf.ai.o1
  rw [hpk] at i2
  by_cases z : 0 < idl
  · obtain ⟨z1, z2⟩ := i3 z
    exact ⟨z2, by rw [z1] at tl; simp at tl; omega⟩
  · by_cases r : 0 ≤ (p.act 0).2
    · have := pf.own15' r
      omega
    · have := pf.own15
      exact ⟨by omega, by omega⟩

theorem dalone_spec {g : Den klaw4Game} {h : Heap} {xs : List DTd} {ys : List Int} (ht : Arr h KTd g.2.2.1 xs) (hp : Arr h ki g.2.2.2.2.1 ys)
    {c1 : Den klaw4Game → Int → Int → Heap → (Den klaw4Game → Heap → Prop) → Prop} {c2 : Int → Int → Sl → Int → Sl → Heap → ((Den kapiDequeRun × (Int × Unit)) → Heap → Prop) → Prop} {c3 : Sl → Int → Heap → ((Sl × (Sl × (Int × Unit))) → Heap → Prop) → Prop} {c4 : Sl → Sl → Heap → (Bool → Heap → Prop) → Prop}
    (i1 : ∀ {g : Den klaw4Game} {h : Heap} {xs : List DTd} {ys : List Int} {M P : Nat} {Q : Den klaw4Game → Heap → Prop}, Arr h KTd g.2.2.1 xs → Arr h ki g.2.2.2.2.1 ys → M ≤ 4096 → P ≤ 1048576 → (∀ td pk h', New h h' KTd td (fitT M xs) → New h h' ki pk (fitP (1 + g.2.2.2.1 % 4) P ys) → Q ((1 + g.1 % 8), ((1 + g.1 % 8 + g.2.1 % 8), (td, ((g.2.2.2.1 % 4), (pk, ()))))) h') → c1 g (M : Int) (P : Int) h Q)
    (i2 : ∀ {a b s t u h Q} {ts : List DTd} {ps : List Int}, Arr h KTd s ts → Arr h ki u ps → judgeE a b ts t ps = 0 → (∀ ca re lg h', PlayR h h' (playOf a b ts t ps) ca re lg → Q ((ca, (re, (lg, ()))), (0, ())) h') → c2 a b s t u h Q)
    (i3 : ∀ {s a h Q} {ts : List DTd}, Arr h KTd s ts → (∀ s' r h', New h h' KCl s' (csE ts a) → New h h' ki r (rsE ts a) → Q (s', (r, (serE ts a, ()))) h') → c3 s a h Q) (i4 : ∀ {a b h Q}, law4_sameInts.M a b h Q → c4 a b h Q)
    {Q : Bool → Heap → Prop} (hQ : ∀ h', le h h' → Q true h') : law4_HistDequeAlone.M c1 c2 c3 c4 g h Q := by
  refine i1 (M := 40) (P := 0) ht hp (by decide) (by decide) fun td pk h1 n1 n2 => ?_
  have r1 := mod_range (x := g.1) (n := 8) (by decide)
  have r2 := mod_range (x := g.2.1) (n := 8) (by decide)
  have hj0 := fit_judge g.1 g.2.1 0 (M := 40) (P := 0) (by decide) (by decide) xs 1 ys
  have htl := n1.len
  have hfl := fitT_len 40 xs
  generalize g.2.2.2.1 % 4 = th at *
  generalize 1 + g.1 % 8 + g.2.1 % 8 = most at *
  generalize 1 + g.1 % 8 = low at *
  generalize fitT 40 xs = ts at *
  obtain ⟨_, _, j3, _, _, j6⟩ := judge_ok hj0
  have hm : 1 ≤ most ∧ most ≤ 4096 := ⟨Int.le_trans j3.1 j3.2.1, j3.2.2⟩
  have w15 : w64 (15 * (td.len : Int)) = ((15 * ts.length : Nat) : Int) := by rw [w64_of] <;> omega
  show makeM ki 8 h1 (w64 (15 * (td.len : Int))) (w64 (15 * (td.len : Int))) _
  rw [w15]
  refine make_new (k := ki) (Int.natCast_nonneg _) (Int.le_refl _) (by omega) (by omega) fun zs h2 nz _ _ _ => ?_
  rw [Int.toNat_natCast] at nz
  have nz : New h1 h2 ki zs (List.replicate (15 * ts.length) (0 : Int)) := nz
  have hj : judgeE low most ts 0 (List.replicate (15 * ts.length) 0) = 0 := judge_of (by omega) (by rw [List.length_replicate]; omega) j3 (Int.le_refl _) (by decide) j6
  refine i2 (n1.arr.le nz.le) nz.arr hj fun ca re lg h3 pr => ?_
  have pf := play_pf hj
  obtain ⟨e1, e2⟩ := alone_end rfl hj
  have an := stN_an hj (Nat.le_refl _)
  rw [stN_all] at an
  have hcl := pr.calls.len
  have pca := pr.calls.arr
  have pre := pr.rest.arr
  have hl3 := pr.calls.le
  have hser : serE ts most = 0 := serE_ok (by omega) hm (fun t ht => (j6 t ht).elim .inl fun z => .inr (.inl z))
  have hcs : csE ts most = (runL most ts).1 := if_pos hser
  have hrs : rsE ts most = (runL most ts).2 := if_pos hser
  have hrl := runL_len most hm.1 ts ts.length (Nat.le_refl _)
  rw [List.take_length] at hrl
  generalize playOf low most ts 0 (List.replicate (15 * ts.length) 0) = p at *
  have hd : dn p = ts.length := by unfold dn; rw [if_neg (by omega), e2]
  have hvs := an.vsE
  have hclx := an.cl
  rw [hd, List.take_length] at hvs hclx
  have hct : ctn p.m.cs = (runL most ts).2 := by
    have p0 := (pf.pi.run 0 pf.pi.pos).1 e1
    unfold vs at hvs
    rw [handp (.inl p0), List.append_nil] at hvs
    exact hvs
  refine i3 ((n1.arr.le nz.le).le hl3) fun s' r h4 m1 m2 => ?_
  have hsl := m1.len
  rw [hcs] at hsl m1
  rw [hrs] at m2
  have le4 := ((n1.le.trans nz.le).trans hl3).trans m1.le
  refine dcase (fun z => absurd rfl z) (fun _ => dcase (fun z => absurd hser z) (fun _ => dcase (fun z => absurd (show (s'.len : Int) = (td.len : Int) by omega) z) (fun _ => ?_)))
  show law4_HistDequeAlone.j5 _ _ _ _ (decide ((ca.len : Int) ≠ (s'.len : Int)), ()) h4
  rw [decide_eq_false (show ¬ (ca.len : Int) ≠ (s'.len : Int) from fun q => q (by omega))]
  refine ⟨fun z => (by cases z), fun _ => ?_⟩
  refine Loop.up ts.length (fun s => s.1) (fun i s k => k = h4) rfl rfl ?_
  rintro i ⟨i', u⟩ k go hi hcc rfl hgo
  dsimp only at hcc; subst hcc
  refine dcase (fun gg => ?_) (fun _ => i4 (sameInts_spec (pre.le m1.le) (by rw [hct]; exact m2.arr) ?_ (hQ _ le4)))
  · have gg : (i : Int) < (s'.len : Int) := gg
    have hil : i < ts.length := by omega
    have hx : p.calls[i]? = some (p.calls[i]'(by omega)) := by simp
    obtain ⟨r', y1, y2, y3, y4, y5, y6⟩ := hclx i _ hil hx
    have hend : ¬ dEnd (p.calls[i]'(by omega)) < 0 := fun z => by
      obtain ⟨w, b, q1, _, _, _, q5, _⟩ := pf.hi.c1 i _ hx
      have := pf.al
      have w0 : w = 0 := by omega
      rcases pf.hi.c2 i _ hx with ⟨_, _, _, y⟩ | ⟨e, y, _⟩
      · rw [q1, w0] at y
        have y : (p.act 0).2 = (i : Int) := y
        omega
      · omega
    obtain ⟨ac, hac⟩ := pca.addr (by omega)
    obtain ⟨as, has⟩ := m1.arr.addr (by omega)
    refine ⟨⟨Int.natCast_nonneg i, show (i : Int) < (ca.len : Int) by omega⟩, ?_⟩
    show deref ca.a _
    rw [hac]
    simp only [deref]
    rw [Int.toNat_natCast]
    refine (pca.le m1.le).ldAt (k := KCl) hac hx rfl ⟨⟨Int.natCast_nonneg i, gg⟩, ?_⟩
    show deref s'.a _
    rw [has]
    simp only [deref]
    refine m1.arr.ldAt (k := KCl) has y1 rfl ?_
    generalize p.calls[i]'(by omega) = c at *
    refine dcase (fun z => absurd y2 z) (fun _ => dcase (fun z => absurd y3 z) (fun _ => dcase (fun z => absurd y4 z) (fun _ => dcase (fun z => absurd y5 z) (fun _ => dcase (fun z => absurd y6 z) (fun _ => ?_)))))
    show law4_HistDequeAlone.j2 Q go ((i : Int), u) (decide (dEnd c < 0), ()) k
    rw [decide_eq_false hend]
    exact ⟨fun z => (by cases z), fun _ => hgo hil _ _ (w64_nat (n := ts.length) hil (by omega)) rfl⟩
  · have := pre.1
    have h2 := hrl.2
    rw [hct] at this
    omega
end Go.Mx
