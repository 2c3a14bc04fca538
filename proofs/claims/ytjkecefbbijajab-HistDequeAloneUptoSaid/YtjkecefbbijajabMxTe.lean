/-
  With no thief the deque is the plain one: the plain part of HistDequeAlone.
-/
import Derived.Test.YtjkecefbbijajabMxTb
import Derived.Test.YtjkecefbbijajabMxY
set_option linter.unusedVariables false
set_option linter.unusedSimpArgs false
set_option linter.unusedSectionVars false
namespace Go.Mx

theorem PF.own15' {W : List Nat} {todos : List DTd} {thieves most : Int} {n : Nat} {p : PS} (h : PF W todos thieves most n p) (r : 0 ≤ (p.act 0).2) : wsum (fO W) p.calls + stp p 0 < 15 * (nOf 0 p.calls : Int) := by
  obtain ⟨S, m1, m2, m3, m4⟩ := h.ai.am
  have hT := nOf_PQ p.calls
  obtain ⟨n1, n2⟩ := nOf_T 0 p.calls
  have p0 := wsum_nn (f := fP) (l := p.calls) fun x _ => by unfold fP; split <;> decide
  have q0 := wsum_nn (f := fQ) (l := p.calls) fun x _ => by unfold fQ; split <;> decide
  have est : stp p 0 = stepsOf (p.act 0).1 := if_pos r
  obtain ⟨c, z1, z2, z3, z4, z5⟩ := h.ai.s0 0 h.pi.pos r
  have n2 := n2 c (List.mem_of_getElem? z1) z2 z3
  have pc : (p.act 0).1.pc ≠ 0 := fun e => by have := (h.pi.run 0 h.pi.pos).2 e; omega
  rw [est]
  by_cases k1 : (p.act 0).1.kind = 1
  · have a1 := h.ai.a1
    rw [Bl_up (low1 k1)] at a1
    have hb : 0 ≤ gt p.m.cs 1 ∧ gt p.m.cs 1 ≤ 1000000000 := by
      have h1 := h.pi.dg.bn
      have h2 := h.pi.dg.tb
      have h3 := h.pi.dg.t0
      have h4 := h.pi.dg.nn
      rw [Bl_up (low1 k1)] at h1 h2
      omega
    obtain ⟨t1, t2, t3, t4, t5, t6⟩ := push_steps h.pi.os h.ai.xi k1 pc hb.1 hb.2 h.pi.dg.c1 0
    omega
  · have k2 : (p.act 0).1.kind = 2 := by
      cases h.pi.os with
      | idle p => exact absurd p pc
      | pu1 k' | pu2 k' | pu3 k' | pu4 k' | pu5 k' | pu6 k' | pu7 k' | pu8 k' | pu9 k' | pu10 k' | pu11 k' => exact absurd k' k1
      | po1 k' | po3 k' | po11 k' | po2 k' | po4 k' | po12 k' | po13 k' | pe k' | pf k' => exact k'
    obtain ⟨t1, t2, t3, t4⟩ := pop_steps h.pi.os k2 pc 0
    omega

/-- How many of the calls have ended. -/
def dn (p : PS) : Nat := if 0 ≤ (p.act 0).2 then p.calls.length - 1 else p.calls.length
structure AN (most : Int) (ts : List DTd) (p : PS) : Prop where
  tt : (p.act 0).1.kind = 1 → (p.act 0).1.pc ≠ 0 → (p.act 0).1.pc ≠ 1 → (p.act 0).1.pc ≠ 2 → (p.act 0).1.t = gt p.m.cs 0
  tp : (p.act 0).1.kind = 2 → ((p.act 0).1.pc = 4 ∨ (p.act 0).1.pc = 12 ∨ (p.act 0).1.pc = 13) → (p.act 0).1.t = gt p.m.cs 0
  tw : (p.act 0).1.kind = 2 → (p.act 0).1.pc = 11 → (p.act 0).1.i ≠ 0 → (p.act 0).1.t = (p.act 0).1.b → (p.act 0).1.won = true
  vv : ∀ c, 0 ≤ (p.act 0).2 → (p.act 0).1.kind = 1 → p.calls[(p.act 0).2.toNat]? = some c → (p.act 0).1.v = dArg c
  r1 : 0 ≤ (p.act 0).2 → (p.act 0).2 + 1 = (p.calls.length : Int)
  vsE : vs p = (runL most (ts.take (dn p))).2
  cl : ∀ (i : Nat) c, i < dn p → p.calls[i]? = some c → ∃ r : DCl, (runL most (ts.take (dn p))).1[i]? = some r ∧ dWho c = dWho r ∧ dKind c = dKind r ∧ dArg c = dArg r ∧ dCode c = dCode r ∧ dVal c = dVal r
theorem AN.pre {most : Int} {ts : List DTd} {p : PS} (h : AN most ts p) {k : Nat} {N : Int} (pi : PI most p N) {q : PS} (e : p.pre most (k : Int) 0 = some q) : AN most ts q := by
  obtain ⟨_, _, _, _, _, c1, c2⟩ := pi.pre pi.pos e
  have ev : vs q = vs p := by unfold vs; rw [c1, c2]
  have m1 : 1 ≤ most := by have := pi.dg.c1; have := pi.dg.cm; omega
  have m2 := pi.dg.mx
  have h0 := pi.pos
  have mk : ∀ (x : DOp) (y : DCl) (ts' : List DTd), (p.act 0).2 < 0 → x.pc = 1 → (x.kind = 1 → x.v = dArg y) → vs { p with todos := ts', acts := p.acts.set 0 (x, (p.calls.length : Int)), calls := p.calls ++ [y] } = vs p → AN most ts { p with todos := ts', acts := p.acts.set 0 (x, (p.calls.length : Int)), calls := p.calls ++ [y] } := fun x y ts' e0 hx hv hvs => by
    have ea : ({ p with todos := ts', acts := p.acts.set 0 (x, (p.calls.length : Int)), calls := p.calls ++ [y] } : PS).act 0 = (x, (p.calls.length : Int)) := (act_set (p := p) (j := 0) h0).trans (if_pos rfl)
    have ed : dn { p with todos := ts', acts := p.acts.set 0 (x, (p.calls.length : Int)), calls := p.calls ++ [y] } = dn p := by
      unfold dn
      rw [ea, if_pos (Int.natCast_nonneg _), if_neg (by omega)]
      show (p.calls ++ [y]).length - 1 = _
      rw [List.length_append]; simp
    have edn : dn p = p.calls.length := if_neg (by omega)
    refine ⟨?_, ?_, ?_, ?_, ?_, by rw [ed, hvs]; exact h.vsE, fun i c hi hc => ?_⟩
    · rw [ea]; exact fun _ _ z => absurd hx z
    · rw [ea]; exact fun _ z => by have z : x.pc = 4 ∨ x.pc = 12 ∨ x.pc = 13 := z; omega
    · rw [ea]; exact fun _ z => by have z : x.pc = 11 := z; omega
    · rw [ea]
      intro c _ hk hc
      have hc : (p.calls ++ [y])[((p.calls.length : Int)).toNat]? = some c := hc
      rw [Int.toNat_natCast, List.getElem?_append_right (Nat.le_refl _), Nat.sub_self] at hc
      rw [← Option.some.inj hc]; exact hv hk
    · rw [ea]
      intro _
      show (p.calls.length : Int) + 1 = ((p.calls ++ [y]).length : Int)
      rw [List.length_append]; simp
    · rw [ed] at hi ⊢
      have hc : (p.calls ++ [y])[i]? = some c := hc
      rw [List.getElem?_append_left (by omega)] at hc
      exact h.cl i c hi hc
  cases pre_cases e with
  | on _ eq => subst eq; exact h
  | push w0 h1 t ts' et k1 eq => subst eq; exact mk _ _ ts' h1 (by unfold DOp.push; rw [begin_eq m1 m2]) (fun _ => by unfold DOp.push; rw [begin_eq m1 m2]; rfl) ev
  | pop w0 h1 t ts' et k1 eq =>
    subst eq
    have pk : (DOp.pop 0 most).kind = 2 ∧ (DOp.pop 0 most).pc = 1 := by unfold DOp.pop; rw [begin_eq m1 m2]; exact ⟨rfl, rfl⟩
    exact mk (DOp.pop 0 most) (newCall 0 t.1 0 (k : Int)) ts' h1 pk.2 (fun z => absurd (pk.1.symm.trans z) (by decide)) ev
  | steal w0 => exact absurd rfl w0

/-- What a push keeps. -/
theorem push_keep {o : DOp} {v : Int} (k : o.kind = 1) (p1 : o.pc ≠ 1) (p2 : o.pc ≠ 2) : (o.after v).t = o.t ∧ (o.after v).b = o.b := by
  unfold DOp.after
  rw [if_pos k]
  unfold DOp.pushed
  rw [if_neg p1, if_neg p2]
  have P : ∀ x : DOp, x.t = o.t ∧ x.b = o.b → x.t = o.t ∧ x.b = o.b := fun _ h => h
  refine pif (P := fun x : DOp => x.t = o.t ∧ x.b = o.b) (fun _ => ⟨rfl, rfl⟩) fun _ => pif (P := fun x : DOp => x.t = o.t ∧ x.b = o.b) (fun _ => ?_) fun _ => pif (P := fun x : DOp => x.t = o.t ∧ x.b = o.b) (fun _ => ⟨rfl, rfl⟩) fun _ => pif (P := fun x : DOp => x.t = o.t ∧ x.b = o.b) (fun _ => ⟨rfl, rfl⟩) fun _ => pif (P := fun x : DOp => x.t = o.t ∧ x.b = o.b) (fun _ => ⟨rfl, rfl⟩) fun _ =>
    pif (P := fun x : DOp => x.t = o.t ∧ x.b = o.b) (fun _ => pif (P := fun x : DOp => x.t = o.t ∧ x.b = o.b) (fun _ => ⟨rfl, rfl⟩) fun _ => ⟨rfl, rfl⟩) fun _ => pif (P := fun x : DOp => x.t = o.t ∧ x.b = o.b) (fun _ => ⟨rfl, rfl⟩) fun _ => pif (P := fun x : DOp => x.t = o.t ∧ x.b = o.b) (fun _ => ⟨rfl, rfl⟩) fun _ => pif (P := fun x : DOp => x.t = o.t ∧ x.b = o.b) (fun _ => ⟨rfl, rfl⟩) fun _ => ⟨rfl, rfl⟩
  exact pif (P := fun x : DOp => x.t = o.t ∧ x.b = o.b) (fun _ => ⟨rfl, rfl⟩) fun _ => pif (P := fun x : DOp => x.t = o.t ∧ x.b = o.b) (fun _ => ⟨rfl, rfl⟩) fun _ => pif (P := fun x : DOp => x.t = o.t ∧ x.b = o.b) (fun _ => ⟨rfl, rfl⟩) fun _ => ⟨rfl, rfl⟩
theorem getElem?_last {α : Type} {l : List α} {x : α} : (l ++ [x])[(l ++ [x]).length - 1]? = some x := by
  rw [List.length_append]
  show (l ++ [x])[l.length + 1 - 1]? = some x
  rw [Nat.add_sub_cancel, List.getElem?_append_right (Nat.le_refl _), Nat.sub_self]; rfl
theorem ctn_len (cs : List Int) : (ctn cs).length = (gt cs 1 - gt cs 0).toNat := by unfold ctn; rw [List.length_map, List.length_range]
theorem AN.go {W : List Nat} {ts : List DTd} {most : Int} {k : Nat} {q : PS} (h : AN most ts q) (ai : AI W most k q) (hi : HI W ts (k + 1) q) (a1 : q.acts.length = 1) (hr : 0 ≤ (q.act 0).2) {N : Int} (pi : PI most q N) (nn : N ≤ 900000000) (htd : ∀ t ∈ ts, t.1 = 0 ∨ t.1 = 1) {v : Int} {m' : AS} {x : DOp} (r : GoR most q (k : Int) 0 v m' x N) : AN most ts (q.go (k : Int) 0) := by
  have hw : 0 < q.acts.length := pi.pos
  obtain ⟨e1, e2⟩ := r.act hw
  have ve := r.veff hw
  have pc : (q.act 0).1.pc ≠ 0 := fun z => by have := (pi.run 0 hw).2 z; omega
  obtain ⟨base, hmost⟩ := pi.mach 0 hw pc
  obtain ⟨c0, r1, r2, r3, r4, r5⟩ := ai.s0 0 hw hr
  have hxe := r.ex
  have sm := (q.act 0).1.after_same v
  rw [← hxe] at sm
  obtain ⟨e, l1, l2, l3⟩ := r.log pi.wt
  have m1 : 1 ≤ most := by have := pi.dg.c1; have := pi.dg.cm; omega
  have hd : dn q = q.calls.length - 1 := if_pos hr
  have hr1 := h.r1 hr
  -- the calls are the owner's
  have own : ∀ c ∈ q.calls, ownC c = true := fun c hc => by
    obtain ⟨i, hi'⟩ := List.mem_iff_getElem?.1 hc
    obtain ⟨w, b, q1, _, _, _, q5, _⟩ := hi.c1 i c hi'
    exact decide_eq_true (by omega)
  have ask : ∀ (i : Nat) c, q.calls[i]? = some c → ∃ t, ts[i]? = some t ∧ dKind c = t.1 ∧ dArg c = if t.1 = 0 then t.2.1 else 0 := fun i c hc => by
    obtain ⟨d, d1, d2⟩ := hi.tds
    rw [List.filter_eq_self.2 own] at d2
    have g : (q.calls.map fun c => (dKind c, dArg c))[i]? = some (dKind c, dArg c) := by rw [List.getElem?_map, hc]; rfl
    rw [d2, List.getElem?_map] at g
    cases e : d[i]? with
    | none => rw [e] at g; cases g
    | some t =>
      rw [e] at g
      have g3 : askOf t = (dKind c, dArg c) := Option.some.inj g
      exact ⟨t, by rw [d1, List.getElem?_append_left (List.getElem?_eq_some_iff.1 e).1]; exact e, (congrArg (·.1) g3).symm, (congrArg (·.2) g3).symm⟩
  by_cases xp : x.pc = 0
  · have ev : vs (q.go (k : Int) 0) = vs (q.go (k : Int) 0) := rfl
    have ea : (q.go (k : Int) 0).act 0 = (x, -1) := by
      rw [r.off xp]
      exact (act_set (p := { q with m := m', calls := endAt q.calls (q.act 0).2.toNat (k : Int) x.code x.value }) (x := (x, -1)) (j := 0) hw).trans (if_pos rfl)
    have ec : (q.go (k : Int) 0).calls = endAt q.calls (q.act 0).2.toNat (k : Int) x.code x.value := by rw [r.off xp]
    have el : (q.go (k : Int) 0).calls.length = q.calls.length := by rw [ec, endAt_len]
    have ed : dn (q.go (k : Int) 0) = q.calls.length := by unfold dn; rw [ea, if_neg (show ¬ (0 : Int) ≤ -1 by decide), el]
    obtain ⟨t, t1, t2, t3⟩ := ask _ c0 r1
    have hjj : (q.act 0).2.toNat = dn q := by omega
    rw [hjj] at t1
    have hjl := (List.getElem?_eq_some_iff.1 t1).1
    have hrl := runL_len most m1 ts (dn q) (by omega)
    have hsucc := runL_succ most ts hjl
    rw [(List.getElem?_eq_some_iff.1 t1).2] at hsucc
    have hdd : q.calls.length = dn q + 1 := by omega
    have hxs := h.vsE
    generalize hX : runL most (ts.take (dn q)) = st at *
    -- what the plain deque answers
    have fin : x.code = dCode (askL st.2 t most (st.1.length : Int)) → x.value = dVal (askL st.2 t most (st.1.length : Int)) → vs (q.go (k : Int) 0) = (doL st.2 (askL st.2 t most (st.1.length : Int)) most).1 → AN most ts (q.go (k : Int) 0) := fun f1 f2 f3 => by
      have k3 : dWho c0 = dWho (askL st.2 t most (st.1.length : Int)) := by
        show dWho c0 = if t.1 = 2 then 1 else 0
        have h2 : ¬ t.1 = 2 := fun z => by
          rcases htd t (List.mem_of_getElem? t1) with y | y
          · rw [y] at z; exact absurd z (by decide)
          · rw [y] at z; exact absurd z (by decide)
        rw [if_neg h2, r2]; rfl
      refine ⟨?_, ?_, ?_, ?_, ?_, ?_, fun i c hi' hc => ?_⟩
      · rw [ea]; exact fun _ z => absurd xp z
      · rw [ea]; exact fun _ z => by have z : x.pc = 4 ∨ x.pc = 12 ∨ x.pc = 13 := z; omega
      · rw [ea]; exact fun _ z => by have z : x.pc = 11 := z; omega
      · rw [ea]; exact fun c z => absurd (show (0 : Int) ≤ -1 from z) (by decide)
      · rw [ea]; exact fun z => absurd (show (0 : Int) ≤ -1 from z) (by decide)
      · rw [ed, hdd, hsucc, f3]; rfl
      · rw [ed] at hi' ⊢
        rw [hdd, hsucc]
        show ∃ r : DCl, (st.1 ++ [askL st.2 t most (st.1.length : Int)])[i]? = some r ∧ _
        rw [ec, endAt_get r1] at hc
        rcases hc with ⟨z1, z2⟩ | ⟨z1, z2⟩
        · refine ⟨askL st.2 t most (st.1.length : Int), ?_, ?_⟩
          · rw [z1, hjj, ← hrl.1, List.getElem?_append_right (Nat.le_refl _), Nat.sub_self]; rfl
          · rw [z2]
            exact ⟨k3, t2, t3, f1, f2⟩
        · obtain ⟨r', y1, y2⟩ := h.cl i c (by omega) z2
          rw [hX] at y1
          exact ⟨r', by rw [List.getElem?_append_left (List.getElem?_eq_some_iff.1 y1).1]; exact y1, y2⟩
    have ek : dKind c0 + 1 = (q.act 0).1.kind := r4
    have evs : vs (q.go (k : Int) 0) = ctn m'.cs ++ hand m'.cs x := by unfold vs; rw [e1, e2 0, if_pos rfl]
    have evq : vs q = ctn q.m.cs ++ hand q.m.cs (q.act 0).1 := rfl
    cases r.own rfl with
    | same p => exact absurd xp p
    | low _ p => exact absurd xp p
    | won _ p => exact absurd xp p
    | push k1 _ co va c hh hh' tt fb p11 =>
      have ht := h.tt k1 pc (by omega) (by omega)
      have hv := h.vv c0 hr k1 r1
      have hb : (q.act 0).1.b = gt q.m.cs 1 := by
        cases pi.os with
        | pu11 _ _ hb => exact hb
        | idle p => omega
        | pu1 k' p | pu2 k' p | pu3 k' p | pu4 k' p | pu5 k' p | pu6 k' p | pu7 k' p | pu8 k' p | pu9 k' p | pu10 k' p => omega
        | po1 k' p | po3 k' p | po11 k' p | po2 k' p | po4 k' p | po12 k' p | po13 k' p | pe k' p | pf k' p => omega
      have k0 : t.1 = 0 := t2.symm.trans (show dKind c0 = 0 by omega)
      rw [if_pos k0] at t3
      rw [hh, List.append_nil] at evq
      rw [hh', List.append_nil, c, ← evq, hxs] at evs
      have hl : (st.2.length : Int) < most := by
        rw [← hxs, evq, ctn_len]; omega
      refine fin ?_ ?_ ?_
      · rw [co]; show (2 : Int) = if t.1 = 0 then _ else _; rw [if_pos k0, if_pos hl]
      · rw [va]; show (0 : Int) = if t.1 = 0 then _ else _; rw [if_pos k0]
      · rw [evs]
        have hc : dCode (askL st.2 t most (st.1.length : Int)) = 2 := by show (if t.1 = 0 then _ else _) = (2 : Int); rw [if_pos k0, if_pos hl]
        have hk : dKind (askL st.2 t most (st.1.length : Int)) = 0 := k0
        have hA : dArg (askL st.2 t most (st.1.length : Int)) = (q.act 0).1.v := by show (if t.1 = 0 then t.2.1 else 0) = _; rw [if_pos k0, ← t3, hv]
        unfold doL
        rw [if_neg (show ¬ dCode (askL st.2 t most (st.1.length : Int)) = 3 by omega), if_neg (show ¬ dCode (askL st.2 t most (st.1.length : Int)) = 5 by omega), if_neg (show ¬ dCode (askL st.2 t most (st.1.length : Int)) = 6 by omega), if_pos hk, if_neg (by omega)]
        show _ = st.2 ++ [dArg (askL st.2 t most (st.1.length : Int))]
        rw [hA]
    | full k1 _ co va c hh hh' tt fb fc bb t0 p4 =>
      have ht := h.tt k1 pc (by omega) (by omega)
      have k0 : t.1 = 0 := t2.symm.trans (show dKind c0 = 0 by omega)
      rw [hh, List.append_nil] at evq
      rw [hh', List.append_nil, c, ← evq, hxs] at evs
      have hl : ¬ (st.2.length : Int) < most := by
        rw [← hxs, evq, ctn_len]; omega
      have hc : dCode (askL st.2 t most (st.1.length : Int)) = 3 := by show (if t.1 = 0 then _ else _) = (3 : Int); rw [if_pos k0, if_neg hl]
      refine fin (co.trans hc.symm) ?_ ?_
      · rw [va]; show (0 : Int) = if t.1 = 0 then _ else _; rw [if_pos k0]
      · rw [evs]
        unfold doL
        rw [if_pos hc]
    | got k1 _ co c hh hh' tt tb =>
      have k0 : t.1 = 1 := t2.symm.trans (show dKind c0 = 1 by omega)
      have k00 : ¬ t.1 = 0 := by rw [k0]; decide
      rw [hh] at evq
      rw [hh', List.append_nil, c] at evs
      have hx2 : st.2 = ctn q.m.cs ++ [x.value] := by rw [← hxs, evq]
      have hne : ¬ st.2.length = 0 := by rw [hx2, List.length_append]; simp
      have hlast : st.2[st.2.length - 1]? = some x.value := by rw [hx2]; exact getElem?_last
      have hc : dCode (askL st.2 t most (st.1.length : Int)) = 4 := by show (if t.1 = 0 then _ else _) = (4 : Int); rw [if_neg k00, if_neg hne]
      refine fin (co.trans hc.symm) ?_ ?_
      · show x.value = if t.1 = 0 then _ else _
        rw [if_neg k00, if_neg hne, if_pos k0, hlast]; rfl
      · rw [evs]
        have hk : dKind (askL st.2 t most (st.1.length : Int)) = 1 := k0
        unfold doL
        rw [if_neg (show ¬ dCode (askL st.2 t most (st.1.length : Int)) = 3 by omega), if_neg (show ¬ dCode (askL st.2 t most (st.1.length : Int)) = 5 by omega), if_neg (show ¬ dCode (askL st.2 t most (st.1.length : Int)) = 6 by omega), if_neg (show ¬ dKind (askL st.2 t most (st.1.length : Int)) = 0 by omega), if_neg hne, if_pos hk]
        show _ = st.2.take (st.2.length - 1)
        rw [hx2, List.length_append]
        simp
    | empty k1 _ co va c hh hh' tt tb p11 i1 =>
      have k0 : t.1 = 1 := t2.symm.trans (show dKind c0 = 1 by omega)
      have k00 : ¬ t.1 = 0 := by rw [k0]; decide
      have tb1 : (q.act 0).1.t = (q.act 0).1.b + 1 := by
        rcases tb with z | ⟨z1, z2⟩
        · exact z
        · have := h.tw k1 p11 (by omega) z1
          rw [z2] at this; cases this
      have hb : gt q.m.cs 0 = (q.act 0).1.b + 1 ∧ (q.act 0).1.b = gt q.m.cs 1 := by
        cases pi.os with
        | pe _ _ _ _ hb _ tt' => exact ⟨tt', hb⟩
        | pf _ _ _ _ t' => omega
        | idle p => omega
        | pu1 k' p | pu2 k' p | pu3 k' p | pu4 k' p | pu5 k' p | pu6 k' p | pu7 k' p | pu8 k' p | pu9 k' p | pu10 k' p | pu11 k' p => omega
        | po1 k' p | po3 k' p | po2 k' p | po4 k' p | po12 k' p | po13 k' p => omega
        | po11 k' p i => omega
      have hc0 : ctn q.m.cs = [] := List.length_eq_zero_iff.1 (by rw [ctn_len]; omega)
      rw [hh, hc0] at evq
      rw [hh', c, hc0] at evs
      have hx2 : st.2 = [] := by rw [← hxs, evq]; rfl
      have hc : dCode (askL st.2 t most (st.1.length : Int)) = 5 := by show (if t.1 = 0 then _ else _) = (5 : Int); rw [if_neg k00, hx2]; rfl
      refine fin (co.trans hc.symm) ?_ ?_
      · rw [va]; show (0 : Int) = if t.1 = 0 then _ else _; rw [if_neg k00, hx2]; rfl
      · rw [evs]
        unfold doL
        rw [if_neg (show ¬ dCode (askL st.2 t most (st.1.length : Int)) = 3 by omega), if_pos (show dCode (askL st.2 t most (st.1.length : Int)) = 5 from hc), hx2]; rfl
  · have ea : (q.go (k : Int) 0).act 0 = (x, (q.act 0).2) := by
      rw [r.on xp]
      exact (act_set (p := { q with m := m' }) (x := (x, (q.act 0).2)) (j := 0) hw).trans (if_pos rfl)
    have ec : (q.go (k : Int) 0).calls = q.calls := by rw [r.on xp]
    have ed : dn (q.go (k : Int) 0) = dn q := by unfold dn; rw [ea, ec]
    have ev : vs (q.go (k : Int) 0) = vs q := by
      cases ve with
      | same e _ => exact e
      | push _ _ p => exact absurd p xp
      | pop _ _ p => exact absurd p xp
      | steal w0 => exact absurd rfl w0
    refine ⟨?_, ?_, ?_, ?_, ?_, by rw [ed, ev]; exact h.vsE, fun i c hi' hc => by rw [ed] at hi' ⊢; rw [ec] at hc; exact h.cl i c hi' hc⟩
    · rw [ea, e1]
      intro k1 _ xp1 xp2
      show x.t = gt m'.cs 0
      have k1 : (q.act 0).1.kind = 1 := by rw [← sm.1]; exact k1
      have gs : gt m'.cs 0 = gt q.m.cs 0 := by
        cases r.own rfl with
        | same _ _ _ t => exact t
        | push _ p => exact absurd p xp
        | full _ p => exact absurd p xp
        | low k' => omega
        | got k' => omega
        | empty k' => omega
        | won k' => omega
      by_cases p1 : (q.act 0).1.pc = 1
      · exact absurd (show x.pc = 2 by rw [hxe]; simp [DOp.after, DOp.pushed, k1, p1]) xp2
      · by_cases p2 : (q.act 0).1.pc = 2
        · have ex : x = { (q.act 0).1 with t := v, pc := 3 } := by rw [hxe]; simp [DOp.after, DOp.pushed, k1, p2]
          rw [req2 base p2] at l3
          rw [ex, gs]; exact l3.2.1
        · rw [gs, ← h.tt k1 pc p1 p2, hxe]
          exact (push_keep (v := v) k1 p1 p2).1
    · rw [ea, e1]
      intro k2 hp
      have k2 : (q.act 0).1.kind = 2 := by rw [← sm.1]; exact k2
      have hp : x.pc = 4 ∨ x.pc = 12 ∨ x.pc = 13 := hp
      show x.t = gt m'.cs 0
      cases pi.os with
      | idle p => exact absurd p pc
      | pu1 k' | pu2 k' | pu3 k' | pu4 k' | pu5 k' | pu6 k' | pu7 k' | pu8 k' | pu9 k' | pu10 k' | pu11 k' => omega
      | po1 k' p =>
        have ex : x.pc = 3 := by rw [hxe]; simp [DOp.after, DOp.popped, k', p]
        omega
      | po3 k' p i =>
        have ex : x.pc = 11 := by rw [hxe]; simp [DOp.after, DOp.popped, k', p]
        omega
      | po11 k' p i =>
        have ex : x.pc = 2 := by rw [hxe]; simp [DOp.after, DOp.popped, k', p, i]
        omega
      | po2 k' p i wn bb a =>
        rw [req2 base p] at l3
        have hv : v = gt q.m.cs 0 := l3.2.1
        have hcs : m'.cs = q.m.cs := l3.2.2
        have ex : x = if (q.act 0).1.b < v then { (q.act 0).1 with t := v, i := 1, pc := 11 } else { (q.act 0).1 with t := v, i := 1, pc := 4 } := by rw [hxe]; simp [DOp.after, DOp.popped, k', p]
        have : x.t = v := by rw [ex]; split <;> rfl
        rw [this, hv, hcs]
      | po4 k' p i wn bb a =>
        rw [req4 base p] at l3
        have hcs : m'.cs = q.m.cs := l3.2.2
        have ex : x = if v < 1 then DOp.over { (q.act 0).1 with c := v, pc := 12 } 1 0 else { (q.act 0).1 with c := v, pc := 12 } := by rw [hxe]; simp [DOp.after, DOp.popped, k', p]
        have : x.t = (q.act 0).1.t := by rw [ex]; split <;> rfl
        rw [this, hcs]; exact h.tp k2 (.inl p)
      | po12 k' p i wn bb a t0 t tb c =>
        rw [req12 base p] at l3
        have hcs : m'.cs = q.m.cs := l3.2.2
        have ex : x = if (q.act 0).1.t < (q.act 0).1.b then DOp.over { (q.act 0).1 with x := v, pc := 13 } 4 v else { (q.act 0).1 with x := v, pc := 13 } := by rw [hxe]; simp [DOp.after, DOp.popped, k', p]
        have : x.t = (q.act 0).1.t := by rw [ex]; split <;> rfl
        rw [this, hcs]; exact h.tp k2 (.inr (.inl p))
      | po13 k' p =>
        have ex : x.pc = 11 := by rw [hxe]; simp [DOp.after, DOp.popped, k', p]
        omega
      | pe k' p i wn =>
        have ex : x.pc = 0 := by rw [hxe]; simp [DOp.after, DOp.popped, k', p, i, wn, DOp.over]
        omega
      | pf k' p i =>
        have ex : x.pc = 0 := by
          rw [hxe]
          cases wn : (q.act 0).1.won <;> simp [DOp.after, DOp.popped, k', p, i, wn, DOp.over]
        omega
    · rw [ea]
      intro k2 hp hi0 htb
      have k2 : (q.act 0).1.kind = 2 := by rw [← sm.1]; exact k2
      have hp : x.pc = 11 := hp
      have hi0 : x.i ≠ 0 := hi0
      have htb : x.t = x.b := htb
      show x.won = true
      cases pi.os with
      | idle p => exact absurd p pc
      | pu1 k' | pu2 k' | pu3 k' | pu4 k' | pu5 k' | pu6 k' | pu7 k' | pu8 k' | pu9 k' | pu10 k' | pu11 k' => omega
      | po1 k' p =>
        have ex : x.pc = 3 := by rw [hxe]; simp [DOp.after, DOp.popped, k', p]
        omega
      | po3 k' p i =>
        have ex : x.i = (q.act 0).1.i := by rw [hxe]; simp [DOp.after, DOp.popped, k', p]
        omega
      | po11 k' p i =>
        have ex : x.pc = 2 := by rw [hxe]; simp [DOp.after, DOp.popped, k', p, i]
        omega
      | po2 k' p i wn bb a =>
        have ex : x = if (q.act 0).1.b < v then { (q.act 0).1 with t := v, i := 1, pc := 11 } else { (q.act 0).1 with t := v, i := 1, pc := 4 } := by rw [hxe]; simp [DOp.after, DOp.popped, k', p]
        by_cases z : (q.act 0).1.b < v
        · rw [if_pos z] at ex
          rw [ex] at htb
          have htb : v = (q.act 0).1.b := htb
          omega
        · rw [if_neg z] at ex
          rw [ex] at hp
          exact absurd (show (4 : Int) = 11 from hp) (by decide)
      | po4 k' p i wn bb a =>
        have ex : x = if v < 1 then DOp.over { (q.act 0).1 with c := v, pc := 12 } 1 0 else { (q.act 0).1 with c := v, pc := 12 } := by rw [hxe]; simp [DOp.after, DOp.popped, k', p]
        have : x.pc = 0 ∨ x.pc = 12 := by
          rw [ex]
          by_cases z : v < 1
          · rw [if_pos z]; exact .inl rfl
          · rw [if_neg z]; exact .inr rfl
        omega
      | po12 k' p i wn bb a t0 t tb c =>
        have ex : x = if (q.act 0).1.t < (q.act 0).1.b then DOp.over { (q.act 0).1 with x := v, pc := 13 } 4 v else { (q.act 0).1 with x := v, pc := 13 } := by rw [hxe]; simp [DOp.after, DOp.popped, k', p]
        have : x.pc = 0 ∨ x.pc = 13 := by
          rw [ex]
          by_cases z : (q.act 0).1.t < (q.act 0).1.b
          · rw [if_pos z]; exact .inl rfl
          · rw [if_neg z]; exact .inr rfl
        omega
      | po13 k' p =>
        have ex : x = { (q.act 0).1 with won := decide (v = 1), pc := 11 } := by rw [hxe]; simp [DOp.after, DOp.popped, k', p]
        rw [req13 base p] at l3
        have hv : v = if gt q.m.cs 0 = (q.act 0).1.t then 1 else 0 := l3.2.1
        rw [if_pos (h.tp k2 (.inr (.inr p))).symm] at hv
        rw [ex, hv]; rfl
      | pe k' p i wn =>
        have ex : x.pc = 0 := by rw [hxe]; simp [DOp.after, DOp.popped, k', p, i, wn, DOp.over]
        omega
      | pf k' p i =>
        have ex : x.pc = 0 := by
          rw [hxe]
          cases wn : (q.act 0).1.won <;> simp [DOp.after, DOp.popped, k', p, i, wn, DOp.over]
        omega
    · rw [ea, ec]
      intro c g1 g2 g3
      show x.v = _
      rw [sm.2.2.2]
      exact h.vv c g1 (by rw [← sm.1]; exact g2) g3
    · rw [ea, ec]; exact h.r1
end Go.Mx
