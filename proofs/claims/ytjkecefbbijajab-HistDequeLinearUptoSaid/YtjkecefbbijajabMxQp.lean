/-
  The statements about plays of one deque: what they share (mod, own, fair, numbered, alive).
  The statements about plays of one deque: mod, own, fair, numbered, alive.
  The calls of a play, and what `alive` asks of them: the plain part.
  alive: the walk.
-/
import Derived.Test.YtjkecefbbijajabMxQm
set_option linter.unusedVariables false
set_option linter.unusedSimpArgs false
set_option linter.unusedSectionVars false
namespace Go.Mx

/-! ### more of what holds -/
theorem wsum_pos {f : DCl → Int} : ∀ {l : List DCl}, 0 < wsum f l → ∃ (j : Nat) (x : DCl), l[j]? = some x ∧ 0 < f x
  | [], h => absurd (show (0 : Int) < 0 from h) (by decide)
  | a :: l, h => by
    by_cases q : 0 < f a
    · exact ⟨0, a, rfl, q⟩
    · have : 0 < wsum f l := by
        unfold wsum at *
        rw [List.map_cons, List.sum_cons] at h; omega
      obtain ⟨j, x, h1, h2⟩ := wsum_pos this
      exact ⟨j + 1, x, h1, h2⟩
/-- A push that is Full is not the owner's first call. -/
def FI (p : PS) : Prop := ∀ (i : Nat) c, p.calls[i]? = some c → dWho c = 0 → dKind c = 0 → dEnd c ≠ -1 → dCode c = 2 ∨ (dCode c = 3 ∧ ∃ (j : Nat) (a : DCl), j < i ∧ p.calls[j]? = some a ∧ dWho a = 0)
theorem FI.snoc {p q : PS} {y : DCl} (h : FI p) (e : q.calls = p.calls ++ [y]) (hy : dEnd y = -1) : FI q := by
  intro i c hc h1 h2 h3
  rw [e] at hc
  rcases getElem?_snoc hc with ⟨_, hc⟩ | ⟨_, rfl⟩
  · rcases h i c hc h1 h2 h3 with z | ⟨z1, j, a, z2, z3, z4⟩
    · exact .inl z
    · exact .inr ⟨z1, j, a, z2, by rw [e, List.getElem?_append_left (List.getElem?_eq_some_iff.1 z3).1]; exact z3, z4⟩
  · exact absurd hy h3
theorem FI.pre {most : Int} {p q : PS} {n : Int} {w : Nat} (h : FI p) (e : p.pre most n w = some q) : FI q := by
  cases pre_cases e with
  | on _ eq => rw [eq]; exact h
  | push _ _ _ _ _ _ eq => rw [eq]; exact h.snoc rfl rfl
  | pop _ _ _ _ _ _ eq => rw [eq]; exact h.snoc rfl rfl
  | steal _ _ eq => rw [eq]; exact h.snoc rfl rfl
theorem FI.go {W : List Nat} {td0 : List DTd} {most : Int} {k : Nat} {q : PS} (h : FI q) (ai : AI W most k q) (hi : HI W td0 (k + 1) q) {w : Nat} (hw : w < q.acts.length) (hr : 0 ≤ (q.act w).2) {N : Int} (pi : PI most q N) {v : Int} {m' : AS} {x : DOp} (r : GoR most q (k : Int) w v m' x N) : FI (q.go (k : Int) w) := by
  by_cases xp : x.pc = 0
  · rw [r.off xp]
    obtain ⟨c0, r1, r2, r3, r4, r5⟩ := ai.s0 w hw hr
    have get := fun j c => endAt_get r1 (k : Int) x.code x.value j c
    have keep : ∀ (j : Nat) (a : DCl), q.calls[j]? = some a → ∃ a', (endAt q.calls (q.act w).2.toNat (k : Int) x.code x.value)[j]? = some a' ∧ dWho a' = dWho a := fun j a ha => by
      by_cases e : j = (q.act w).2.toNat
      · subst e
        rw [r1] at ha; cases ha
        exact ⟨_, (get _ _).2 (.inl ⟨rfl, rfl⟩), rfl⟩
      · exact ⟨a, (get _ _).2 (.inr ⟨e, ha⟩), rfl⟩
    intro i c hc h1 h2 h3
    rcases (get i c).1 hc with ⟨e1, e2⟩ | ⟨_, e2⟩
    · subst e2
      have h1 : dWho c0 = 0 := h1
      have h2 : dKind c0 = 0 := h2
      have hw0 : w = 0 := by omega
      subst hw0
      show x.code = 2 ∨ (x.code = 3 ∧ _)
      cases r.own rfl with
      | push _ _ co => exact .inl co
      | full k' _ co _ _ _ _ _ fb fc bb t0 p4 =>
        have ha := ai.a1
        rw [Bl_up (low1 k')] at ha
        have hm : (q.act 0).1.most = most := (pi.mach 0 hw (by rw [p4]; decide)).2
        have m1 : 1 ≤ most := by have := pi.dg.c1; have := pi.dg.cm; omega
        obtain ⟨j, a, z1, z2⟩ := wsum_pos (f := fP) (l := q.calls) (by omega)
        have z3 : dWho a = 0 ∧ dEnd a ≠ -1 := by
          unfold fP at z2
          by_cases z : dWho a = 0 ∧ dKind a = 0 ∧ dEnd a ≠ -1
          · exact ⟨z.1, z.2.2⟩
          · rw [if_neg z] at z2; exact absurd z2 (by decide)
        obtain ⟨a', y1, y2⟩ := keep j a z1
        refine .inr ⟨co, j, a', ?_, y1, by rw [y2]; exact z3.1⟩
        subst e1
        rcases Nat.lt_trichotomy j (q.act 0).2.toNat with z | z | z
        · exact z
        · subst z
          rw [r1] at z1; cases z1
          exact absurd r3 z3.2
        · exact absurd r3 (hi.seq _ j c0 a z r1 z1 (by rw [h1, z3.1])).1
      | same p' => exact absurd xp p'
      | low k' => omega
      | got k' => omega
      | empty k' => omega
      | won k' => omega
    · rcases h i c e2 h1 h2 h3 with z | ⟨z1, j, a, z2, z3, z4⟩
      · exact .inl z
      · obtain ⟨a', y1, y2⟩ := keep j a z3
        exact .inr ⟨z1, j, a', z2, y1, by rw [y2]; exact z4⟩
  · rw [r.on xp]; exact h

/-- All that is known of a play, at its end. -/
structure PF (W : List Nat) (todos : List DTd) (thieves most : Int) (n : Nat) (p : PS) : Prop where
  pi : PI most p (n : Int)
  hi : HI W todos n p
  ai : AI W most n p
  fi : FI p
  al : p.acts.length = (1 + thieves).toNat
  wl : W.length = n
theorem stN_pf {low most thieves : Int} {todos : List DTd} {picks : List Int} (hc : CapE low most) (ht : 0 ≤ thieves) (hp : picks.length ≤ 1048576) (htd : ∀ t ∈ todos, t.1 = 0 ∨ t.1 = 1) : ∀ {k : Nat}, k ≤ picks.length → FI (stN low most todos thieves picks k) := by
  intro k
  induction k with
  | zero => intro _ i c h; cases h
  | succ k ih =>
    intro hk
    obtain ⟨i1, i2, i3⟩ := stN_all' (todos := todos) (picks := picks) hc ht hp (k := k) (by omega)
    have ai := stN_ai (todos := todos) (picks := picks) hc ht hp htd (k := k) (by omega)
    have hwl : (whos thieves picks).length = picks.length := List.length_map ..
    have hW : (whos thieves picks)[k]? = some ((whos thieves picks)[k]'(by omega)) := by simp
    have hwm := whos_mem ht (List.getElem_mem (l := whos thieves picks) (n := k) (by omega))
    rw [stN_succ _ _ _ _ _ hW, PS.step_pre]
    have htp : ∀ t ∈ (stN low most todos thieves picks k).todos, t.1 = 0 ∨ t.1 = 1 := fun t ht => by
      obtain ⟨dn, d1, _⟩ := i2.tds
      exact htd t (by rw [d1]; exact List.mem_append_right _ ht)
    generalize (whos thieves picks)[k]'(by omega) = w at *
    cases e : (stN low most todos thieves picks k).pre most (k : Int) w with
    | none => exact ih (by omega)
    | some q =>
      obtain ⟨h1, h2, h3, h4, h5, _⟩ := i1.pre (by rw [i3]; exact hwm) e
      obtain ⟨v, m', x, r⟩ := h1.go (by omega) (n := (k : Int)) (who := w) (by rw [h3, i3]; exact hwm) h4
      exact ((ih (by omega)).pre e).go (ai.pre (by rw [i3]; exact hwm) i1 htp e) (i2.pre (by rw [i3]; exact hwm) hW e) (by rw [h3, i3]; exact hwm) h5 h1 r
theorem judge_ok {low most thieves : Int} {todos : List DTd} {picks : List Int} (h : judgeE low most todos thieves picks = 0) : todos.length ≤ 4096 ∧ picks.length ≤ 1048576 ∧ CapE low most ∧ 0 ≤ thieves ∧ thieves ≤ 3 ∧ ∀ t ∈ todos, t.1 = 0 ∨ t.1 = 1 := by
  unfold judgeE at h
  by_cases a : 4096 < todos.length ∨ 1048576 < picks.length
  · rw [if_pos a] at h; cases h
  by_cases b : CapE low most
  · by_cases c : thieves < 0 ∨ 3 < thieves
    · rw [if_neg a, if_neg (fun n => n b), if_pos c] at h; cases h
    · by_cases d : ∃ t ∈ todos, t.1 ≠ 0 ∧ t.1 ≠ 1
      · rw [if_neg a, if_neg (fun n => n b), if_neg c, if_pos d] at h; cases h
      · refine ⟨by omega, by omega, b, by omega, by omega, fun t ht => ?_⟩
        by_cases e : t.1 = 0
        · exact .inl e
        · by_cases f : t.1 = 1
          · exact .inr f
          · exact absurd ⟨t, ht, e, f⟩ d
  · rw [if_neg a, if_pos b] at h; cases h
theorem judge_of {low most thieves : Int} {todos : List DTd} {picks : List Int} (h1 : todos.length ≤ 4096) (h2 : picks.length ≤ 1048576) (h3 : CapE low most) (h4 : 0 ≤ thieves) (h5 : thieves ≤ 3) (h6 : ∀ t ∈ todos, t.1 = 0 ∨ t.1 = 1) : judgeE low most todos thieves picks = 0 := by
  unfold judgeE
  rw [if_neg (by omega), if_neg (fun n => n h3), if_neg (by omega), if_neg]
  rintro ⟨t, ht, a, b⟩
  exact (h6 t ht).elim a b
theorem play_pf {low most thieves : Int} {todos : List DTd} {picks : List Int} (h : judgeE low most todos thieves picks = 0) : PF (whos thieves picks) todos thieves most picks.length (playOf low most todos thieves picks) := by
  obtain ⟨h1, h2, h3, h4, h5, h6⟩ := judge_ok h
  obtain ⟨a, b, c⟩ := stN_all' (todos := todos) (picks := picks) h3 h4 h2 (Nat.le_refl _)
  have d := stN_ai (todos := todos) (picks := picks) h3 h4 h2 h6 (Nat.le_refl _)
  have e := stN_pf (todos := todos) (picks := picks) h3 h4 h2 h6 (Nat.le_refl _)
  rw [stN_all] at a b c d e
  exact ⟨a, b, d, e, c, List.length_map ..⟩

/-! ### the owner's calls, counted -/
def nOf (w : Nat) (l : List DCl) : Nat := (l.filter (fun c => decide (dWho c = (w : Int)))).length
theorem nOf_succ {w : Nat} {l : List DCl} {i : Nat} {c : DCl} (h : l[i]? = some c) : nOf w (l.take (i + 1)) = nOf w (l.take i) + if dWho c = (w : Int) then 1 else 0 := by
  unfold nOf
  rw [List.take_add_one, h]
  show ((l.take i ++ [c]).filter _).length = _
  rw [List.filter_append, List.length_append]
  congr 1
  by_cases e : dWho c = (w : Int) <;> simp [e]
theorem nOf_T (w : Nat) : ∀ (l : List DCl), wsum (fT w) l ≤ (nOf w l : Int) ∧ (∀ (c : DCl), c ∈ l → dWho c = (w : Int) → dEnd c = -1 → wsum (fT w) l + 1 ≤ (nOf w l : Int))
  | [] => ⟨Int.le_refl _, fun c h => by cases h⟩
  | a :: l => by
    obtain ⟨h1, h2⟩ := nOf_T w l
    have e1 : wsum (fT w) (a :: l) = fT w a + wsum (fT w) l := by unfold wsum; rw [List.map_cons, List.sum_cons]
    have e2 : (nOf w (a :: l) : Int) = (nOf w l : Int) + if dWho a = (w : Int) then 1 else 0 := by
      unfold nOf
      by_cases e : dWho a = (w : Int)
      · rw [List.filter_cons_of_pos (by simp [e]), if_pos e]; simp
      · rw [List.filter_cons_of_neg (by simp [e]), if_neg e]; simp
    rw [e1, e2]
    have e3 : fT w a ≤ (if dWho a = (w : Int) then 1 else 0) := by
      unfold fT
      by_cases e : dWho a = (w : Int) ∧ dEnd a ≠ -1
      · rw [if_pos e, if_pos e.1]; exact Int.le_refl _
      · rw [if_neg e]; split <;> decide
    refine ⟨by omega, fun c hc hw he => ?_⟩
    rcases List.mem_cons.1 hc with rfl | hc
    · have : fT w c = 0 := if_neg (fun q => q.2 he)
      rw [if_pos hw, this]; omega
    · have := h2 c hc hw he; omega
theorem nOf_PQ : ∀ (l : List DCl), wsum (fT 0) l = wsum fP l + wsum fQ l
  | [] => rfl
  | a :: l => by
    have h := nOf_PQ l
    have e : ∀ f : DCl → Int, wsum f (a :: l) = f a + wsum f l := fun f => by unfold wsum; rw [List.map_cons, List.sum_cons]
    rw [e, e, e, h]
    have : fT 0 a = fP a + fQ a := by
      unfold fT fP fQ
      by_cases z1 : dWho a = 0
      · by_cases z2 : dEnd a ≠ -1
        · by_cases z3 : dKind a = 0
          · rw [if_pos ⟨z1, z2⟩, if_pos ⟨z1, z3, z2⟩, if_neg (fun q => q.2.1 z3)]; rfl
          · rw [if_pos ⟨z1, z2⟩, if_neg (fun q => z3 q.2.1), if_pos ⟨z1, z3, z2⟩]; rfl
        · rw [if_neg (fun q => z2 q.2), if_neg (fun q => z2 q.2.2), if_neg (fun q => z2 q.2.2)]; rfl
      · rw [if_neg (fun q => z1 q.1), if_neg (fun q => z1 q.1), if_neg (fun q => z1 q.1)]; rfl
    omega
/-- The owner's accesses: at most 15 a call. -/
theorem PF.own15 {W : List Nat} {todos : List DTd} {thieves most : Int} {n : Nat} {p : PS} (h : PF W todos thieves most n p) : wsum (fO W) p.calls + stp p 0 ≤ 15 * (nOf 0 p.calls : Int) ∧ 0 ≤ stp p 0 := by
  obtain ⟨S, m1, m2, m3, m4⟩ := h.ai.am
  have hT := nOf_PQ p.calls
  obtain ⟨n1, n2⟩ := nOf_T 0 p.calls
  have p0 := wsum_nn (f := fP) (l := p.calls) fun x _ => by unfold fP; split <;> decide
  have q0 := wsum_nn (f := fQ) (l := p.calls) fun x _ => by unfold fQ; split <;> decide
  by_cases r : 0 ≤ (p.act 0).2
  · have est : stp p 0 = stepsOf (p.act 0).1 := if_pos r
    obtain ⟨c, z1, z2, z3, z4, z5⟩ := h.ai.s0 0 h.pi.pos r
    have n2 := n2 c (List.mem_of_getElem? z1) z2 z3
    have pc : (p.act 0).1.pc ≠ 0 := fun e => by have := (h.pi.run 0 h.pi.pos).2 e; omega
    rw [est]
    by_cases k1 : (p.act 0).1.kind = 1
    · have a1 := h.ai.a1
      rw [Bl_up (low1 k1)] at a1
      have hb : 0 ≤ gt p.m.cs 1 ∧ gt p.m.cs 1 ≤ 1000000000 := by
        have h1 := h.pi.dg.bn
        have h2 := h.pi.dg.tb
        have h3 := h.pi.dg.t0
        have h4 := h.pi.dg.nn
        rw [Bl_up (low1 k1)] at h1 h2
        omega
      obtain ⟨t1, t2, t3, t4, t5, t6⟩ := push_steps h.pi.os h.ai.xi k1 pc hb.1 hb.2 h.pi.dg.c1 0
      omega
    · have k2 : (p.act 0).1.kind = 2 := by
        cases h.pi.os with
        | idle p => exact absurd p pc
        | pu1 k' | pu2 k' | pu3 k' | pu4 k' | pu5 k' | pu6 k' | pu7 k' | pu8 k' | pu9 k' | pu10 k' | pu11 k' => exact absurd k' k1
        | po1 k' | po3 k' | po11 k' | po2 k' | po4 k' | po12 k' | po13 k' | pe k' | pf k' => exact k'
      obtain ⟨t1, t2, t3, t4⟩ := pop_steps h.pi.os k2 pc 0
      omega
  · have est : stp p 0 = 0 := if_neg r
    omega

end Go.Mx

namespace Go.Mx

theorem w64_nat {i n : Nat} (h : i < n) (hn : n ≤ 2000000000) : w64 ((i : Int) + 1) = ((i + 1 : Nat) : Int) := by rw [w64_of] <;> omega
theorem lmod_spec {x n : Int} (h0 : 0 < n) (h1 : n ≤ 1000000000) {h : Heap} {Q : Int → Heap → Prop} (hQ : Q (x % n) h) : law3_mod.M x n h Q := by
  have hr := mod_range (x := x) h0
  refine ⟨by omega, dcase (fun e => ?_) (fun e => ?_)⟩
  · rcases tmod_emod x n h0 with ⟨_, q⟩ | ⟨q, _⟩
    · show Q (w64 (Int.tmod x n + n)) h
      rw [q, w64_of (by omega) (by omega)]; exact hQ
    · omega
  · rcases tmod_emod x n h0 with ⟨q, _⟩ | ⟨_, q⟩
    · omega
    · show Q (Int.tmod x n) h
      rw [q]; exact hQ
theorem whos_get {thieves : Int} {picks : List Int} {i : Nat} {x : Int} (h : picks[i]? = some x) : (whos thieves picks)[i]? = some (x % (1 + thieves)).toNat := by
  unfold whos; rw [List.getElem?_map, h]; rfl

/-- own: the picks from l on, up to u. -/
theorem own_spec {pkS : Sl} {thieves : Int} {picks : List Int} {h : Heap} (hp : Arr h ki pkS picks) (hn : picks.length ≤ 1048576) (t0 : 0 ≤ thieves) (t3 : thieves ≤ 3) {w l u : Nat} {lo hi : Int} (hl : (if lo < 0 then 0 else lo) = (l : Int)) (hlu : l ≤ u) (hun : u ≤ picks.length) (hh : (hi < 0 ∧ u = picks.length) ∨ (0 ≤ hi ∧ hi + 1 = (u : Int)))
    {c1 : Int → Int → Heap → (Int → Heap → Prop) → Prop} (i1 : ∀ {x n h Q}, law3_mod.M x n h Q → c1 x n h Q) {Q : Int → Heap → Prop} (hQ : Q ((pk (whos thieves picks) w u : Int) - (pk (whos thieves picks) w l : Int)) h) : law3_own.M c1 pkS thieves (w : Int) lo hi h Q := by
  have hpl := hp.1
  have wt : w64 (1 + thieves) = 1 + thieves := by rw [w64_of] <;> omega
  refine Loop.up (u - l) (fun s => s.2.1 - (l : Int)) (fun i s k => k = h ∧ s.1 = (pk (whos thieves picks) w (l + i) : Int) - (pk (whos thieves picks) w l : Int)) (by show (if lo < 0 then 0 else lo) - (l : Int) = 0; omega) ⟨rfl, by rw [Nat.add_zero]; exact (Int.sub_self _).symm⟩ ?_
  rintro i ⟨n, j, u'⟩ k go hi' hc ⟨rfl, hn'⟩ hgo
  have hc : j - (l : Int) = (i : Int) := hc
  have hn' : n = _ := hn'
  obtain rfl : j = ((l + i : Nat) : Int) := (Int.sub_eq_iff_eq_add.1 hc).trans (by rw [Int.add_comm]; exact (Int.natCast_add l i).symm)
  subst hn'
  have stop : i = u - l → law3_own.j4 c1 pkS thieves (w : Int) Q go (((pk (whos thieves picks) w (l + i) : Int) - (pk (whos thieves picks) w l : Int)), (((l + i : Nat) : Int), u')) (false, ()) k := fun e => ⟨fun z => (by cases z), fun _ => by
    have : l + i = u := by omega
    show Q ((pk (whos thieves picks) w (l + i) : Int) - _) k
    rw [this]; exact hQ⟩
  have cont : l + i < u → law3_own.j4 c1 pkS thieves (w : Int) Q go (((pk (whos thieves picks) w (l + i) : Int) - (pk (whos thieves picks) w l : Int)), (((l + i : Nat) : Int), u')) (true, ()) k := fun lt => ⟨fun _ => ?_, fun z => (by cases z)⟩
  · refine dcase (p := ((l + i : Nat) : Int) < (pkS.len : Int)) (fun e => ?_) (fun e => ?_)
    · refine dcase (p := ((l + i : Nat) : Int) ≤ hi) (fun f => cont (by omega)) (fun f => ?_)
      by_cases g : hi < 0
      · rw [decide_eq_true g]; exact cont (by omega)
      · rw [decide_eq_false g]; exact stop (by omega)
    · exact stop (by omega)
  · refine ⟨⟨show (0 : Int) ≤ ((l + i : Nat) : Int) by omega, show ((l + i : Nat) : Int) < (pkS.len : Int) by omega⟩, hp.at (i := ((l + i : Nat) : Int)) (by omega) (by omega) rfl fun x hx => ?_⟩
    rw [Int.toNat_natCast] at hx
    rw [wt]
    have hr := mod_range (x := x) (n := 1 + thieves) (by omega)
    have ps := pk_succ (w := w) (whos_get (thieves := thieves) hx)
    refine i1 (lmod_spec (by omega) (by omega) ?_)
    refine dcase (p := x % (1 + thieves) = (w : Int)) (fun f => ?_) (fun f => ?_)
    · have e : (x % (1 + thieves)).toNat = w := by rw [f, Int.toNat_natCast]
      rw [if_pos e] at ps
      refine hgo (by omega) _ _ ?_ ⟨rfl, ?_⟩
      · show w64 (((l + i : Nat) : Int) + 1) - (l : Int) = _
        rw [w64_of] <;> omega
      · show w64 ((pk (whos thieves picks) w (l + i) : Int) - (pk (whos thieves picks) w l : Int) + 1) = (pk (whos thieves picks) w (l + (i + 1)) : Int) - _
        have hb : pk (whos thieves picks) w (l + i) ≤ 1048576 := by
          unfold pk
          have := List.length_filter_le (fun x => decide (x = w)) ((whos thieves picks).take (l + i))
          have h2 := List.length_take_le (l + i) (whos thieves picks)
          omega
        have hm := pk_mono (W := whos thieves picks) (w := w) (a := l) (b := l + i) (by omega) (by show l + i ≤ (picks.map _).length; rw [List.length_map]; omega)
        rw [← Nat.add_assoc, ps]
        rw [w64_of] <;> omega
    · have e : ¬ (x % (1 + thieves)).toNat = w := fun e => f (by rw [← e, Int.toNat_of_nonneg hr.1])
      rw [if_neg e] at ps
      refine hgo (by omega) _ _ ?_ ⟨rfl, ?_⟩
      · show w64 (((l + i : Nat) : Int) + 1) - (l : Int) = _
        rw [w64_of] <;> omega
      · show (pk (whos thieves picks) w (l + i) : Int) - _ = (pk (whos thieves picks) w (l + (i + 1)) : Int) - _
        rw [← Nat.add_assoc, ps, Nat.add_zero]

def FairE (low most : Int) (todos : List DTd) (thieves : Int) (picks : List Int) : Prop := judgeE low most todos thieves picks = 0
theorem fair_spec {low most thieves : Int} {td pkS : Sl} {h : Heap} {todos : List DTd} {picks : List Int} (ht : Arr h KTd td todos) (hp : Arr h ki pkS picks) {c1 : Int → Int → Heap → (Bool → Heap → Prop) → Prop} (i1 : ∀ {a b h Q}, (CapE a b → Q true h) → (¬ CapE a b → Q false h) → c1 a b h Q)
    {Q : Bool → Heap → Prop} (hF : Q false h) (hT : judgeE low most todos thieves picks = 0 → Q true h) : law3_fair.M c1 low most td thieves pkS h Q := by
  have htl := ht.1
  have hpl := hp.1
  have bad : ∀ s : Unit, law3_fair.j5 td Q (true, ()) h := fun _ => ⟨fun _ => hF, fun z => (by cases z)⟩
  refine i1 (fun q => ⟨fun z => (by cases z), fun _ => ?_⟩) (fun q => ⟨fun _ => bad (), fun z => (by cases z)⟩)
  refine dcase (fun a => bad ()) (fun a => dcase (fun b => bad ()) (fun b => dcase (fun c => bad ()) (fun c => ?_)))
  have c : ¬ (4096 : Int) < (td.len : Int) := c
  by_cases d : (1048576 : Int) < (pkS.len : Int)
  · rw [decide_eq_true d]; exact bad ()
  · rw [decide_eq_false d]
    refine ⟨fun z => (by cases z), fun _ => ?_⟩
    refine Loop.up todos.length (fun s => s.1) (fun i s k => k = h ∧ ∀ (j : Nat) t, j < i → todos[j]? = some t → t.1 = 0 ∨ t.1 = 1) rfl ⟨rfl, fun j t hj => absurd hj (Nat.not_lt_zero _)⟩ ?_
    rintro i ⟨i', u⟩ k go hi hc ⟨rfl, hI⟩ hgo
    dsimp only at hc; subst hc
    refine dcase (fun g => ?_) (fun g => ?_)
    · have g : (i : Int) < (td.len : Int) := g
      have hil : i < todos.length := by omega
      obtain ⟨a, ha⟩ := ht.addr (by omega)
      have hti : todos[i]? = some todos[i] := by simp
      have ld0 : ∀ {K : Int → Prop}, K todos[i].1 → ld ki k ((a.add ((i : Int).toNat * 2)).add 0) K := fun {K} hK => by
        rw [Int.toNat_natCast]
        exact ht.ldPart (kp := ki) (y := todos[i].1) ha hti (PartAt.zero (post := Kd.cells (.pair ki .nil) todos[i].2) rfl) rfl hK
      refine ⟨⟨by omega, g⟩, ?_⟩
      rw [ha]
      have good : todos[i].1 = 0 ∨ todos[i].1 = 1 → law3_fair.j2 Q go ((i : Int), u) (false, ()) k := fun n => ⟨fun z => (by cases z), fun _ => hgo hil _ _ (w64_nat (n := todos.length) hil (by omega)) ⟨rfl, fun j t' hj hx' => by
        by_cases z : j = i
        · subst z; rw [hti] at hx'; cases hx'; exact n
        · exact hI j t' (by omega) hx'⟩⟩
      refine ld0 (dcase (fun n => ⟨⟨by omega, g⟩, ?_⟩) (fun n => good (.inl (Decidable.not_not.1 n))))
      refine ld0 ?_
      by_cases m : todos[i].1 = 1
      · rw [decide_eq_false (show ¬ todos[i].1 ≠ 1 from fun q => q m)]; exact good (.inr m)
      · rw [decide_eq_true (show todos[i].1 ≠ 1 from m)]; exact ⟨fun _ => hF, fun z => (by cases z)⟩
    · have g : ¬ (i : Int) < (td.len : Int) := g
      refine hT (judge_of (by omega) (by omega) q (by omega) (by omega) fun t ht' => ?_)
      obtain ⟨j, hj⟩ := List.mem_iff_getElem?.1 ht'
      exact hI j t (by have := (List.getElem?_eq_some_iff.1 hj).1; omega) hj

/-- The todos, numbered. -/
def numb (todos : List DTd) : List DTd := todos.zipIdx.map fun ((t, i) : DTd × Nat) => (t.1, ((i : Int), ()))
theorem numb_len (todos : List DTd) : (numb todos).length = todos.length := by simp [numb]
theorem numb_get (todos : List DTd) (i : Nat) : (numb todos)[i]? = (todos[i]?).map fun t => (t.1, ((i : Int), ())) := by
  unfold numb
  rw [List.getElem?_map, List.getElem?_zipIdx]
  cases todos[i]? <;> simp
theorem judge_numb {low most thieves : Int} {todos : List DTd} {picks : List Int} (h : judgeE low most todos thieves picks = 0) : judgeE low most (numb todos) thieves picks = 0 := by
  obtain ⟨h1, h2, h3, h4, h5, h6⟩ := judge_ok h
  refine judge_of (by rw [numb_len]; exact h1) h2 h3 h4 h5 fun t ht => ?_
  obtain ⟨i, hi⟩ := List.mem_iff_getElem?.1 ht
  rw [numb_get] at hi
  cases e : todos[i]? with
  | none => rw [e] at hi; cases hi
  | some t' =>
    rw [e] at hi
    cases hi
    exact h6 t' (List.mem_of_getElem? e)

end Go.Mx

namespace Go.Mx

/-- The end of the last call of w among the first i. -/
def lst (n : Int) (w : Nat) (cs : List DCl) : Nat → Int
  | 0 => -1
  | i + 1 => match cs[i]? with
    | some c => if dWho c = (w : Int) then (if dEnd c < 0 then n else dEnd c) else lst n w cs i
    | none => lst n w cs i
theorem lst_succ {n : Int} {w i : Nat} {cs : List DCl} {c : DCl} (h : cs[i]? = some c) : lst n w cs (i + 1) = if dWho c = (w : Int) then (if dEnd c < 0 then n else dEnd c) else lst n w cs i := by
  show (match cs[i]? with | some c => if dWho c = (w : Int) then (if dEnd c < 0 then n else dEnd c) else lst n w cs i | none => lst n w cs i) = _
  rw [h]
theorem lst_char (n : Int) (w : Nat) (cs : List DCl) : ∀ i, i ≤ cs.length → (lst n w cs i = -1 ∧ ∀ (j : Nat) a, j < i → cs[j]? = some a → dWho a ≠ (w : Int)) ∨ ∃ (j : Nat) (a : DCl), j < i ∧ cs[j]? = some a ∧ dWho a = (w : Int) ∧ lst n w cs i = (if dEnd a < 0 then n else dEnd a) ∧ ∀ (k : Nat) b, j < k → k < i → cs[k]? = some b → dWho b ≠ (w : Int)
  | 0, _ => .inl ⟨rfl, fun j a hj => absurd hj (Nat.not_lt_zero _)⟩
  | i + 1, hi => by
    have hc : cs[i]? = some cs[i] := by simp
    rw [lst_succ hc]
    by_cases e : dWho cs[i] = (w : Int)
    · rw [if_pos e]
      exact .inr ⟨i, _, Nat.lt_succ_self i, hc, e, rfl, fun k b h1 h2 => by omega⟩
    · rw [if_neg e]
      rcases lst_char n w cs i (by omega) with ⟨h1, h2⟩ | ⟨j, a, h1, h2, h3, h4, h5⟩
      · refine .inl ⟨h1, fun j a hj ha => ?_⟩
        by_cases z : j = i
        · subst z; rw [hc] at ha; cases ha; exact e
        · exact h2 j a (by omega) ha
      · refine .inr ⟨j, a, by omega, h2, h3, h4, fun k b hk hk2 hb => ?_⟩
        by_cases z : k = i
        · subst z; rw [hc] at hb; cases hb; exact e
        · exact h5 k b hk (by omega) hb
theorem pk_flat {W : List Nat} {w a b : Nat} (hab : a ≤ b) (hb : b ≤ W.length) (h : ∀ m, a ≤ m → m < b → W[m]? ≠ some w) : pk W w b = pk W w a := by
  induction b with
  | zero => rw [show a = 0 from by omega]
  | succ b ih =>
    by_cases e : a = b + 1
    · rw [e]
    · have hx : W[b]? = some W[b] := by simp
      rw [pk_succ hx, if_neg, Nat.add_zero]
      · exact ih (by omega) (by omega) fun m h1 h2 => h m h1 (by omega)
      · intro z
        exact h b (by omega) (by omega) (by rw [hx, z])
theorem filter_get {α : Type} (P : α → Bool) {l : List α} {i : Nat} {c : α} (h : l[i]? = some c) (hp : P c = true) : (l.filter P)[((l.take i).filter P).length]? = some c := by
  obtain ⟨hi, rfl⟩ := List.getElem?_eq_some_iff.1 h
  have e : l = l.take i ++ l[i] :: l.drop (i + 1) := by
    rw [← List.drop_eq_getElem_cons hi, List.take_append_drop]
  have e2 : l.filter P = (l.take i).filter P ++ l[i] :: (l.drop (i + 1)).filter P := by
    conv => lhs; rw [e]
    rw [List.filter_append, List.filter_cons_of_pos hp]
  rw [e2, List.getElem?_append_right (Nat.le_refl _), Nat.sub_self]; rfl

variable {W : List Nat} {todos : List DTd} {thieves most : Int} {n : Nat} {p : PS}
theorem PF.lst_ok (h : PF W todos thieves most n p) {i : Nat} {c : DCl} (hc : p.calls[i]? = some c) {w : Nat} (hw : dWho c = (w : Int)) : lst n w p.calls i < dBeg c ∧ -1 ≤ lst n w p.calls i ∧ pk W w (dBeg c).toNat = pk W w (lst n w p.calls i + 1).toNat := by
  obtain ⟨v, b, q1, q2, q3, q4, q5, q6⟩ := h.hi.c1 i c hc
  have hi := (List.getElem?_eq_some_iff.1 hc).1
  have hwl := h.wl
  rw [q2, Int.toNat_natCast]
  have cov : ∀ m : Nat, m < b → W[m]? = some w → ∃ (j : Nat) (a : DCl), j < i ∧ p.calls[j]? = some a ∧ dWho a = dWho c ∧ (m : Int) ≤ dEnd a := fun m hm hW => h.hi.cov i m c hc (by omega) (by rw [hw, Int.toNat_natCast]; exact hW)
  rcases lst_char n w p.calls i (by omega) with ⟨h1, h2⟩ | ⟨j, a, h1, h2, h3, h4, h5⟩
  · rw [h1]
    refine ⟨by omega, by omega, pk_flat (by omega) (by omega) fun m _ hm hW => ?_⟩
    obtain ⟨j, a, z1, z2, z3, _⟩ := cov m hm hW
    exact h2 j a z1 z2 (by rw [z3, hw])
  · have hs := h.hi.seq j i a c h1 h2 hc (by rw [h3, hw])
    rcases h.hi.c2 j a h2 with ⟨z, _⟩ | ⟨e, y1, y2, y3, y4, y5, y6⟩
    · exact absurd z hs.1
    · rw [if_neg (by omega)] at h4
      rw [h4, y1]
      refine ⟨by omega, by omega, ?_⟩
      have : ((e : Int) + 1).toNat = e + 1 := by omega
      rw [this]
      refine pk_flat (by omega) (by omega) fun m hm1 hm hW => ?_
      obtain ⟨k, x, z1, z2, z3, z4⟩ := cov m hm hW
      rcases Nat.lt_trichotomy k j with lt | eq | gt
      · have s2 := h.hi.seq k j x a lt z2 h2 (by rw [z3, hw, h3])
        omega
      · subst eq
        rw [h2] at z2; cases z2
        omega
      · exact h5 k x gt z1 z2 (by rw [z3, hw])
theorem PF.own_ask (h : PF W todos thieves most n p) {i : Nat} {c : DCl} (hc : p.calls[i]? = some c) (hw : dWho c = 0) : ∃ t, todos[nOf 0 (p.calls.take i)]? = some t ∧ dKind c = t.1 ∧ (t.1 = 0 → dArg c = t.2.1) := by
  obtain ⟨dn, d1, d2⟩ := h.hi.tds
  have g := filter_get ownC hc (decide_eq_true hw)
  have g2 : ((p.calls.filter ownC).map (fun c => (dKind c, dArg c)))[nOf 0 (p.calls.take i)]? = some (dKind c, dArg c) := by
    rw [List.getElem?_map]
    show ((p.calls.filter ownC)[((p.calls.take i).filter ownC).length]?).map _ = _
    rw [g]; rfl
  rw [d2, List.getElem?_map] at g2
  cases e : dn[nOf 0 (p.calls.take i)]? with
  | none => rw [e] at g2; cases g2
  | some t =>
    rw [e] at g2
    have g3 : askOf t = (dKind c, dArg c) := Option.some.inj g2
    refine ⟨t, by rw [d1, List.getElem?_append_left (List.getElem?_eq_some_iff.1 e).1]; exact e, (congrArg (·.1) g3).symm, fun k => ?_⟩
    have := congrArg (·.2) g3
    unfold askOf at this
    rw [if_pos k] at this
    exact this.symm
theorem PF.own_all (h : PF W todos thieves most n p) (e : p.todos = []) : nOf 0 p.calls = todos.length := by
  obtain ⟨dn, d1, d2⟩ := h.hi.tds
  rw [e, List.append_nil] at d1
  have := congrArg List.length d2
  rw [List.length_map, List.length_map, ← d1] at this
  exact this
theorem PF.own_cnt (h : PF W todos thieves most n p) : (pk W 0 n : Int) ≤ 15 * (nOf 0 p.calls : Int) ∨ nOf 0 p.calls = todos.length := by
  obtain ⟨a, b⟩ := h.own15
  obtain ⟨idl, i1, i2, i3⟩ := h.ai.o1
  by_cases e : 0 < idl
  · exact .inr (h.own_all (i3 e).1)
  · exact .inl (by omega)
theorem PF.th_cnt (h : PF W todos thieves most n p) {w : Nat} (w0 : w ≠ 0) (hw : w < p.acts.length) : (pk W w n : Int) + 5 < 6 * (nOf w p.calls : Int) + 6 := by
  have s3 := h.ai.s3 w w0 hw
  obtain ⟨n1, n2⟩ := nOf_T w p.calls
  unfold stp at s3
  by_cases r : 0 ≤ (p.act w).2
  · rw [if_pos r] at s3
    obtain ⟨c, z1, z2, z3, z4, z5⟩ := h.ai.s0 w hw r
    have pc : (p.act w).1.pc ≠ 0 := fun e => by have := (h.pi.run w hw).2 e; omega
    have := th_steps (h.pi.th w (by omega) hw) (h.pi.kind w (by omega) hw pc) pc 0
    have := n2 c (List.mem_of_getElem? z1) z2 z3
    omega
  · rw [if_neg r] at s3; omega
/-- The first call of the owner, if it is a push, ends Pushed. -/
theorem PF.first (h : PF W todos thieves most n p) {i : Nat} {c : DCl} (hc : p.calls[i]? = some c) (hw : dWho c = 0) (h0 : nOf 0 (p.calls.take i) = 0) (hk : dKind c = 0) (he : 0 ≤ dEnd c) : dCode c = 2 := by
  rcases h.fi i c hc hw hk (by omega) with z | ⟨_, j, a, z2, z3, z4⟩
  · exact z
  · exfalso
    unfold nOf at h0
    have : a ∈ (p.calls.take i).filter (fun c => decide (dWho c = ((0 : Nat) : Int))) := List.mem_filter.2 ⟨List.mem_of_getElem? (i := j) (by rw [List.getElem?_take]; rw [if_pos z2]; exact z3), decide_eq_true z4⟩
    rw [List.length_eq_zero_iff.1 h0] at this
    cases this

end Go.Mx

namespace Go.Mx

theorem aget_seti {n : Nat} {a : Fin n → Int} {i j : Nat} {v : Int} (hj : j < n) : aget (n := n) (a := ki) (aset (n := n) (a := ki) a i v) j = if j = i then v else aget (n := n) (a := ki) a j := by
  unfold aget aset
  rw [dif_pos hj, dif_pos hj]
  try rfl
theorem w64_div {x a d : Int} (h0 : 0 ≤ x) (h1 : x ≤ 2000000) (a0 : 0 ≤ a) (a1 : a ≤ 100) (hd : 0 < d) : w64 (Int.tdiv (w64 (x - ((0 : Nat) : Int) + a)) d) = (x + a) / d := by
  have e1 : w64 (x - ((0 : Nat) : Int) + a) = x + a := by rw [w64_of] <;> omega
  have b0 : 0 ≤ (x + a) / d := Int.ediv_nonneg (by omega) (by omega)
  have b1 : (x + a) / d ≤ x + a := Int.ediv_le_self _ (by omega)
  rw [e1, Int.tdiv_eq_ediv_of_nonneg (by omega), w64_of] <;> omega
theorem lst_step {n : Int} {cs : List DCl} {i : Nat} {c : DCl} (hc : cs[i]? = some c) {w : Nat} (hw : dWho c = (w : Int)) {la : Fin 4 → Int} (h : ∀ v : Nat, v < 4 → aget (n := 4) (a := ki) la v = lst n v cs i) {la' : Fin 4 → Int} (h' : ∀ v : Nat, v < 4 → aget (n := 4) (a := ki) la' v = if v = w then (if dEnd c < 0 then n else dEnd c) else aget (n := 4) (a := ki) la v) : ∀ v : Nat, v < 4 → aget (n := 4) (a := ki) la' v = lst n v cs (i + 1) := fun v hv => by
  rw [h' v hv, lst_succ hc, hw]
  by_cases e : v = w
  · subst e; rw [if_pos rfl, if_pos rfl]
  · rw [if_neg e, if_neg (by omega)]; exact h v hv
theorem cnt_step {cs : List DCl} {i : Nat} {c : DCl} (hc : cs[i]? = some c) {w : Nat} (hw : dWho c = (w : Int)) {ct : Fin 4 → Int} (h : ∀ v : Nat, v < 4 → aget (n := 4) (a := ki) ct v = (nOf v (cs.take i) : Int)) (hn : cs.length ≤ 2000000000) : ∀ v : Nat, v < 4 → aget (n := 4) (a := ki) (aset (n := 4) (a := ki) ct w (w64 (aget (n := 4) (a := ki) ct w + 1))) v = (nOf v (cs.take (i + 1)) : Int) := fun v hv => by
  rw [aget_seti hv, nOf_succ hc, hw]
  have hb : nOf w (cs.take i) ≤ 2000000000 := by
    unfold nOf
    have := List.length_filter_le (fun c => decide (dWho c = (w : Int))) (cs.take i)
    have h2 := List.length_take_le i cs
    have h3 := List.length_take_le' i cs
    omega
  by_cases e : v = w
  · subst e
    rw [if_pos rfl, if_pos rfl, h v hv, w64_of (by omega) (by omega)]
    exact (Int.natCast_add _ 1).symm
  · rw [if_neg e, if_neg (by omega), Nat.add_zero]; exact h v hv
theorem HI.beg_ge {W : List Nat} {td0 : List DTd} {k : Nat} {p : PS} (h : HI W td0 k p) : ∀ (i : Nat) c, p.calls[i]? = some c → (i : Int) ≤ dBeg c
  | 0, c, hc => by obtain ⟨_, b, _, q, _⟩ := h.c1 0 c hc; omega
  | i + 1, c, hc => by
    have hi := (List.getElem?_eq_some_iff.1 hc).1
    have ha : p.calls[i]? = some (p.calls[i]'(by omega)) := by simp
    have := h.beg_ge i _ ha
    have := h.inc i (i + 1) _ _ (Nat.lt_succ_self i) ha hc
    omega
theorem HI.len_le {W : List Nat} {td0 : List DTd} {k : Nat} {p : PS} (h : HI W td0 k p) : p.calls.length ≤ k := by
  by_cases e : p.calls.length = 0
  · omega
  · have hc : p.calls[p.calls.length - 1]? = some (p.calls[p.calls.length - 1]'(by omega)) := by simp
    have := h.beg_ge _ _ hc
    obtain ⟨_, b, _, q, q2, _⟩ := h.c1 _ _ hc
    omega
theorem alive_spec {r1 : Den kapiDequeRun} {td pkS : Sl} {thieves most : Int} {h : Heap} {todos : List DTd} {picks : List Int} {p : PS} (hcs : Arr h KCl r1.1 p.calls) (ht : Arr h KTd td todos) (hp : Arr h ki pkS picks) (f : PF (whos thieves picks) todos thieves most picks.length p) (t0 : 0 ≤ thieves) (t3 : thieves ≤ 3) (hn : picks.length ≤ 1048576) (htl : todos.length ≤ 4096)
    {c1 : Int → Int → Heap → (Int → Heap → Prop) → Prop} {c2 : Sl → Int → Int → Int → Int → Heap → (Int → Heap → Prop) → Prop} (i1 : ∀ {x n h Q}, law3_mod.M x n h Q → c1 x n h Q)
    (i2 : ∀ {w l u : Nat} {lo hi : Int} {Q : Int → Heap → Prop}, (if lo < 0 then 0 else lo) = (l : Int) → l ≤ u → u ≤ picks.length → ((hi < 0 ∧ u = picks.length) ∨ (0 ≤ hi ∧ hi + 1 = (u : Int))) → Q ((pk (whos thieves picks) w u : Int) - (pk (whos thieves picks) w l : Int)) h → c2 pkS thieves (w : Int) lo hi h Q)
    {Q : Bool → Heap → Prop} (hQ : Q true h) : law3_alive.M c1 c2 r1 td thieves pkS h Q := by
  have hcl := hcs.1
  have htl' := ht.1
  have hpl := hp.1
  have hle := f.hi.len_le
  have wt : w64 (1 + thieves) = 1 + thieves := by rw [w64_of] <;> omega
  have hW : (whos thieves picks).length = picks.length := List.length_map ..
  -- the slots are set
  refine Loop.up 4 (fun s => s.1) (fun i s k => k = h ∧ ∀ v : Nat, v < i → aget (n := 4) (a := ki) s.2.1.1 v = -1) rfl ⟨rfl, fun v hv => absurd hv (Nat.not_lt_zero _)⟩ ?_
  rintro i ⟨i', ⟨la, u1⟩, u2⟩ k go hi hc ⟨rfl, hI⟩ hgo
  dsimp only at hc hI; subst hc
  refine dcase (fun g => ?_) (fun g => ?_)
  · have g : (i : Int) < 4 := g
    refine ⟨⟨Int.natCast_nonneg i, g⟩, hgo (by omega) _ _ (w64_nat (n := 4) (by omega) (by omega)) ⟨rfl, fun v hv => ?_⟩⟩
    show aget (n := 4) (a := ki) (aset (n := 4) (a := ki) la ((i : Int)).toNat (-1)) v = -1
    rw [Int.toNat_natCast, aget_seti (by omega)]
    by_cases e : v = i
    · rw [if_pos e]
    · rw [if_neg e]; exact hI v (by omega)
  have g : ¬ (i : Int) < 4 := g
  obtain rfl : i = 4 := by omega
  clear hgo g hi
  -- the calls
  refine Loop.up p.calls.length (fun s => s.1) (fun i s k' => k' = k ∧ (∀ v : Nat, v < 4 → aget (n := 4) (a := ki) s.2.1.1 v = (nOf v (p.calls.take i) : Int)) ∧ ∀ v : Nat, v < 4 → aget (n := 4) (a := ki) s.2.2.1.1 v = lst (picks.length : Int) v p.calls i) rfl ⟨rfl, fun v hv => by
    unfold aget; rw [dif_pos hv]; rfl, fun v hv => hI v hv⟩ ?_
  rintro i ⟨i', ⟨ct, u3⟩, ⟨lb, u4⟩, u5⟩ k' go2 hi hc ⟨rfl, hC, hL⟩ hgo
  dsimp only at hc hC hL; subst hc
  refine dcase (fun g => ?_) (fun g => ?_)
  · have g : (i : Int) < (r1.1.len : Int) := g
    have hil : i < p.calls.length := by omega
    have hx : p.calls[i]? = some p.calls[i] := by simp
    obtain ⟨ac, hac⟩ := hcs.addr (by omega)
    refine ⟨⟨Int.natCast_nonneg i, g⟩, ?_⟩
    rw [hac]
    simp only [deref]
    rw [Int.toNat_natCast]
    refine hcs.ldAt (k := KCl) hac hx rfl ?_
    obtain ⟨w, b, q1, q2, q3, q4, q5, q6⟩ := f.hi.c1 i _ hx
    have hw4 : w < 4 := by rw [f.al] at q5; omega
    have hwt : (w : Int) ≤ thieves := by rw [f.al] at q5; omega
    have hlst := f.lst_ok hx q1
    have c2' := f.hi.c2 i _ hx
    have hag : dWho p.calls[i] = 0 → ∃ t, todos[nOf 0 (p.calls.take i)]? = some t ∧ dKind p.calls[i] = t.1 ∧ (t.1 = 0 → dArg p.calls[i] = t.2.1) := fun e => f.own_ask hx e
    have hfi : dWho p.calls[i] = 0 → nOf 0 (p.calls.take i) = 0 → dKind p.calls[i] = 0 → 0 ≤ dEnd p.calls[i] → dCode p.calls[i] = 2 := fun e => f.first hx e
    have hinc : ∀ j : Nat, j < i → ∀ a, p.calls[j]? = some a → dBeg a < dBeg p.calls[i] := fun j hj a ha => f.hi.inc j i a _ hj ha hx
    have hls := fun la' h' => lst_step (n := (picks.length : Int)) hx q1 hL (la' := la') h'
    have hcs' := cnt_step hx q1 hC (by omega)
    generalize p.calls[i] = c at *
    obtain ⟨who, kind, arg, beg, en, code, val, u⟩ := c
    dsimp only [dWho, dKind, dArg, dBeg, dEnd, dCode, dVal] at *
    subst q1 q2
    have hen : en < (picks.length : Int) := by
      rcases c2' with ⟨z, _⟩ | ⟨e, y1, y2, y3, _⟩
      · rw [z]; exact Int.lt_of_lt_of_le (show (-1 : Int) < 0 by decide) (Int.natCast_nonneg _)
      · rw [y1]; exact Int.ofNat_lt.2 y3
    refine dcase (fun e => ?_) (fun _ => dcase (fun e => ?_) (fun _ => dcase (fun e => ?_) (fun _ => dcase (fun e => ?_) (fun _ => dcase (fun e => ?_) (fun _ => ?_)))))
    · exact absurd e (Int.not_lt.2 (Int.natCast_nonneg _))
    · exact absurd e (Int.not_lt.2 hwt)
    · exact absurd e (Int.not_lt.2 (Int.natCast_nonneg _))
    · exact absurd e (Int.not_le.2 (by rw [← hpl]; exact Int.ofNat_lt.2 (by omega)))
    · exact absurd e (Int.not_le.2 (by rw [← hpl]; exact hen))
    have hcode : (!(decide (en < 0) == decide (code = 0))) = false := by
      rcases c2' with ⟨z1, z2, _⟩ | ⟨e, y1, y2, y3, y4, y5, _⟩
      · rw [decide_eq_true (show en < 0 by rw [z1]; decide), decide_eq_true z2]; rfl
      · rw [decide_eq_false (show ¬ en < 0 by rw [y1]; exact Int.not_lt.2 (Int.natCast_nonneg _)), decide_eq_false y5]; rfl
    show law3_alive.j11 _ _ _ _ _ _ _ _ _ _ (!(decide (en < 0) == decide (code = 0)), ()) _
    rw [hcode]
    refine ⟨fun z => (by cases z), fun _ => ?_⟩
    -- the pick of its begin
    have hw0 : (0 : Int) ≤ (w : Int) ∧ (w : Int) < 4 := ⟨by omega, by omega⟩
    obtain ⟨xb, hxb, exb⟩ : ∃ x, picks[b]? = some x ∧ x % (1 + thieves) = (w : Int) := by
      unfold whos at q4
      rw [List.getElem?_map] at q4
      cases e : picks[b]? with
      | none => rw [e] at q4; cases q4
      | some x =>
        rw [e] at q4
        have q7 : (x % (1 + thieves)).toNat = w := Option.some.inj q4
        have hr := mod_range (x := x) (n := 1 + thieves) (by omega)
        exact ⟨x, rfl, by rw [← q7, Int.toNat_of_nonneg hr.1]⟩
    have main : law3_alive.j8 c1 c2 td thieves pkS Q go2 ((i : Int), (ct, u3), (lb, u4), u5) ((w : Int), (kind, (arg, ((b : Int), (en, (code, (val, u))))))) () k' := by
      have ea : aget (n := 4) (a := ki) lb ((w : Int)).toNat = lst (picks.length : Int) w p.calls i := by rw [Int.toNat_natCast]; exact hL w hw4
      obtain ⟨l1, l2, l3⟩ := hlst
      have l1 : lst (picks.length : Int) w p.calls i < (b : Int) := l1
      refine ⟨hw0, ?_⟩
      show c2 pkS thieves (w : Int) (w64 (aget (n := 4) (a := ki) lb ((w : Int)).toNat + 1)) (b : Int) k' _
      rw [ea, w64_of (by omega) (by omega)]
      have lge : ¬ lst (picks.length : Int) w p.calls i + 1 < 0 := by omega
      refine i2 (l := (lst (picks.length : Int) w p.calls i + 1).toNat) (u := b + 1) (by rw [if_neg lge, Int.toNat_of_nonneg (by omega)]) (by omega) (by omega) (.inr ⟨Int.natCast_nonneg _, rfl⟩) ?_
      have one : ((pk (whos thieves picks) w (b + 1) : Int) - (pk (whos thieves picks) w (lst (picks.length : Int) w p.calls i + 1).toNat : Int)) = 1 := by
        have e1 := pk_succ (w := w) q4
        rw [if_pos rfl] at e1
        rw [Int.toNat_natCast] at l3
        omega
      rw [one]
      refine ⟨fun z => absurd rfl (of_decide_eq_true z), fun _ => ⟨hw0, ?_⟩⟩
      -- behind the ends
      have j7 : ∀ la' : Fin 4 → Int, (∀ v : Nat, v < 4 → aget (n := 4) (a := ki) la' v = if v = w then (if en < 0 then (picks.length : Int) else en) else aget (n := 4) (a := ki) lb v) → law3_alive.j7 td Q go2 ((i : Int), (ct, u3), (lb, u4), u5) ((w : Int), (kind, (arg, ((b : Int), (en, (code, (val, u))))))) ((la', ()), ()) k' := fun la' hla => by
        have fin : law3_alive.j2 Q go2 ((i : Int), (ct, u3), (lb, u4), u5) ((w : Int), (kind, (arg, ((b : Int), (en, (code, (val, u))))))) ((la', ()), ()) (false, ()) k' := by
          refine ⟨fun z => (by cases z), fun _ => ?_⟩
          refine hgo hil _ _ (w64_nat (n := p.calls.length) hil (by omega)) ⟨rfl, fun v hv => ?_, fun v hv => hls la' hla v hv⟩
          show aget (n := 4) (a := ki) (aset (n := 4) (a := ki) ct ((w : Int)).toNat (w64 (aget (n := 4) (a := ki) ct ((w : Int)).toNat + 1))) v = _
          rw [Int.toNat_natCast]
          exact hcs' v hv
        have ec : aget (n := 4) (a := ki) ct ((w : Int)).toNat = (nOf w (p.calls.take i) : Int) := by rw [Int.toNat_natCast]; exact hC w hw4
        have j3 : law3_alive.j3 Q go2 ((i : Int), (ct, u3), (lb, u4), u5) ((w : Int), (kind, (arg, ((b : Int), (en, (code, (val, u))))))) ((la', ()), ()) () k' := by
          refine dcase (fun e1 => ?_) (fun _ => fin)
          refine dcase (fun e2 => ?_) (fun _ => fin)
          refine dcase (fun e3 => ?_) (fun _ => fin)
          refine dcase (fun e4 => ?_) (fun _ => fin)
          have e1 : (w : Int) = 0 := e1
          have w0 : w = 0 := by omega
          subst w0
          have e2 : aget (n := 4) (a := ki) ct (((0 : Nat) : Int)).toNat = 0 := e2
          rw [ec] at e2
          have e2 : ((nOf 0 (p.calls.take i) : Nat) : Int) = 0 := e2
          have hz := hfi rfl (by omega) e3 e4
          show law3_alive.j2 _ _ _ _ _ (decide (code ≠ 2), ()) _
          rw [hz]
          exact fin
        have j4 : law3_alive.j4 Q go2 ((i : Int), (ct, u3), (lb, u4), u5) ((w : Int), (kind, (arg, ((b : Int), (en, (code, (val, u))))))) ((la', ()), ()) (false, ()) k' := ⟨fun z => (by cases z), fun _ => j3⟩
        have j5 : law3_alive.j5 td Q go2 ((i : Int), (ct, u3), (lb, u4), u5) ((w : Int), (kind, (arg, ((b : Int), (en, (code, (val, u))))))) ((la', ()), ()) () k' := by
          refine dcase (fun e1 => ?_) (fun _ => j4)
          have e1 : (w : Int) = 0 := e1
          have w0 : w = 0 := by omega
          subst w0
          obtain ⟨t, t1, t2, t3'⟩ := hag rfl
          have tl := (List.getElem?_eq_some_iff.1 t1).1
          obtain ⟨at', hat⟩ := ht.addr (by omega)
          refine dcase (fun e2 => ?_) (fun _ => ?_)
          · have e2 : (td.len : Int) ≤ aget (n := 4) (a := ki) ct (((0 : Nat) : Int)).toNat := e2
            rw [ec] at e2
            have e2 : (td.len : Int) ≤ ((nOf 0 (p.calls.take i) : Nat) : Int) := e2
            omega
          · refine ⟨⟨?_, ?_⟩, ?_⟩
            · show (0 : Int) ≤ aget (n := 4) (a := ki) ct (((0 : Nat) : Int)).toNat
              rw [ec]; exact Int.natCast_nonneg _
            · show aget (n := 4) (a := ki) ct (((0 : Nat) : Int)).toNat < (td.len : Int)
              rw [ec]; exact (show ((nOf 0 (p.calls.take i) : Nat) : Int) < (td.len : Int) by omega)
            · rw [hat]
              show ld ki k' ((at'.add ((aget (n := 4) (a := ki) ct (((0 : Nat) : Int)).toNat).toNat * 2)).add 0) _
              rw [ec, Int.toNat_natCast]
              refine ht.ldPart (kp := ki) (y := t.1) hat t1 (PartAt.zero (post := Kd.cells (.pair ki .nil) t.2) rfl) rfl ?_
              refine dcase (fun e3 => absurd t2 e3) (fun _ => ?_)
              refine dcase (fun e3 => ?_) (fun _ => j4)
              refine ⟨⟨?_, ?_⟩, ?_⟩
              · exact Int.natCast_nonneg _
              · exact (show ((nOf 0 (p.calls.take i) : Nat) : Int) < (td.len : Int) by omega)
              · show ld ki k' ((at'.add (nOf 0 (p.calls.take i) * 2)).add 1) _
                refine ht.ldPart (kp := ki) (y := t.2.1) hat t1 ⟨Kd.cells ki t.1, [], rfl, rfl⟩ rfl ?_
                have e3 : kind = 0 := e3
                have t2 : kind = t.1 := t2
                have t3' : arg = t.2.1 := t3' (by rw [← t2]; exact e3)
                show law3_alive.j4 _ _ _ _ _ (decide (arg ≠ t.2.1), ()) _
                rw [decide_eq_false (show ¬ arg ≠ t.2.1 from fun q => q t3')]
                exact j4
        have j6 : law3_alive.j6 td Q go2 ((i : Int), (ct, u3), (lb, u4), u5) ((w : Int), (kind, (arg, ((b : Int), (en, (code, (val, u))))))) ((la', ()), ()) (false, ()) k' := ⟨fun z => (by cases z), fun _ => j5⟩
        refine ⟨hw0, hw0, hw0, dcase (fun e1 => ?_) (fun _ => j6)⟩
        have e1 : (0 : Int) < (w : Int) := e1
        have kd : kind = 2 := q6 (by omega)
        show law3_alive.j6 _ _ _ _ _ _ (decide (kind ≠ 2), ()) _
        rw [decide_eq_false (show ¬ kind ≠ 2 from fun q => q kd)]
        exact j6
      refine dcase (fun e1 => ⟨hw0, ?_⟩) (fun e1 => ?_)
      · have e1 : en < 0 := e1
        refine j7 _ fun v hv => ?_
        rw [Int.toNat_natCast, aget_seti hv]
        by_cases e : v = w
        · rw [if_pos e, if_pos e, if_pos e1, hpl]
        · rw [if_neg e, if_neg e, aget_seti hv, if_neg e]
      · have e1 : ¬ en < 0 := e1
        have e2 : ∃ x, picks[en.toNat]? = some x ∧ x % (1 + thieves) = (w : Int) := by
          rcases c2' with ⟨z, _⟩ | ⟨e, y1, y2, y3, y4, _⟩
          · exact absurd (show en < 0 by rw [z]; decide) e1
          · rw [y1, Int.toNat_natCast]
            unfold whos at y4
            rw [List.getElem?_map] at y4
            cases z : picks[e]? with
            | none => rw [z] at y4; cases y4
            | some x =>
              rw [z] at y4
              have q7 : (x % (1 + thieves)).toNat = ((w : Int)).toNat := Option.some.inj y4
              have hr := mod_range (x := x) (n := 1 + thieves) (by omega)
              exact ⟨x, rfl, by rw [Int.toNat_natCast] at q7; rw [← q7, Int.toNat_of_nonneg hr.1]⟩
        obtain ⟨xe, z1, z2⟩ := e2
        refine ⟨⟨Int.not_lt.1 e1, by rw [← hpl]; exact hen⟩, hp.at (i := en) (Int.not_lt.1 e1) (by rw [← hpl]; exact hen) rfl fun x hx' => ?_⟩
        rw [z1] at hx'; cases hx'
        rw [wt]
        refine i1 (lmod_spec (by omega) (by omega) ?_)
        refine dcase (fun e3 => absurd z2 e3) (fun _ => ?_)
        refine j7 _ fun v hv => ?_
        show aget (n := 4) (a := ki) (aset (n := 4) (a := ki) lb ((w : Int)).toNat en) v = _
        rw [Int.toNat_natCast, aget_seti hv]
        by_cases e : v = w
        · rw [if_pos e, if_pos e, if_neg e1]
        · rw [if_neg e, if_neg e]
    have j9 : law3_alive.j9 c1 c2 td thieves pkS Q go2 ((i : Int), (ct, u3), (lb, u4), u5) ((w : Int), (kind, (arg, ((b : Int), (en, (code, (val, u))))))) (false, ()) k' := ⟨fun z => (by cases z), fun _ => main⟩
    have tail : ¬ (b : Int) ≤ aget (n := 4) (a := ki) lb w ∧ (∀ K : Int → Prop, K xb → (deref pkS.a fun a => ld ki k' (a.add (((b : Nat) : Int).toNat * 1)) K)) := ⟨by rw [hL w hw4]; omega, fun K hK => hp.at (i := ((b : Nat) : Int)) (by omega) (by omega) rfl fun x hx' => by rw [Int.toNat_natCast, hxb] at hx'; cases hx'; exact hK⟩
    have own : ¬ (b : Int) ≤ aget (n := 4) (a := ki) lb ((w : Int)).toNat := by rw [Int.toNat_natCast]; exact tail.1
    have md : c1 xb (1 + thieves) k' (fun r h => law3_alive.j9 c1 c2 td thieves pkS Q go2 ((i : Int), (ct, u3), (lb, u4), u5) ((w : Int), (kind, (arg, ((b : Int), (en, (code, (val, u))))))) (decide (r ≠ (w : Int)), ()) h) := i1 (lmod_spec (by omega) (by omega) (by
      rw [decide_eq_false (show ¬ xb % (1 + thieves) ≠ (w : Int) from fun q => q exb)]
      exact j9))
    have bb : (0 : Int) ≤ (b : Int) ∧ (b : Int) < (pkS.len : Int) := ⟨Int.natCast_nonneg _, by rw [← hpl]; exact Int.ofNat_lt.2 (by omega)⟩
    refine dcase (fun e => ?_) (fun _ => ?_)
    · have e : (0 : Int) < (i : Int) := e
      have ei : w64 ((i : Int) - 1) = ((i - 1 : Nat) : Int) := by rw [w64_of] <;> omega
      have hxp : p.calls[i - 1]? = some (p.calls[i - 1]'(by omega)) := by simp
      have hlt := hinc (i - 1) (by omega) _ hxp
      show (0 ≤ w64 ((i : Int) - 1) ∧ w64 ((i : Int) - 1) < (r1.1.len : Int)) ∧ _
      rw [ei]
      refine ⟨⟨Int.natCast_nonneg _, by omega⟩, ?_⟩
      rw [hac]
      show ld ki k' ((ac.add ((((i - 1 : Nat) : Int)).toNat * 7)).add 3) _
      rw [Int.toNat_natCast]
      generalize p.calls[i - 1]'(by omega) = c' at *
      refine hcs.ldPart (kp := ki) (y := dBeg c') (off := 3) hac hxp ⟨Kd.cells ki c'.1 ++ Kd.cells ki c'.2.1 ++ Kd.cells ki c'.2.2.1, Kd.cells (.pair ki (.pair ki (.pair ki .nil))) c'.2.2.2.2, rfl, rfl⟩ rfl ?_
      refine dcase (fun e => ?_) (fun _ => ⟨hw0, dcase (fun e => absurd e own) (fun _ => ⟨bb, ?_⟩)⟩)
      · have e : (b : Int) ≤ dBeg c' := e
        have hlt : dBeg c' < (b : Int) := hlt
        omega
      · rw [wt]; exact tail.2 _ md
    · refine ⟨hw0, dcase (fun e => absurd e own) (fun _ => ⟨bb, ?_⟩)⟩
      rw [wt]; exact tail.2 _ md
  have g : ¬ (i : Int) < (r1.1.len : Int) := g
  obtain rfl : i = p.calls.length := by omega
  rw [List.take_length] at hC
  have hm : ∀ w : Nat, pk (whos thieves picks) w picks.length ≤ 1048576 := fun w => by
    have := List.length_filter_le (fun x => decide (x = w)) ((whos thieves picks).take picks.length)
    have h2 := List.length_take_le' picks.length (whos thieves picks)
    unfold pk
    omega
  refine ⟨⟨by decide, by decide⟩, i2 (w := 0) (l := 0) (u := picks.length) rfl (Nat.zero_le _) (Nat.le_refl _) (.inl ⟨by decide, rfl⟩) ⟨by decide, ?_⟩⟩
  rw [pk_zero]
  have h0 := hm 0
  have td15 : w64 (Int.tdiv (w64 ((pk (whos thieves picks) 0 picks.length : Int) - ((0 : Nat) : Int) + 14)) 15) = ((pk (whos thieves picks) 0 picks.length : Int) + 14) / 15 := by
    exact w64_div (by omega) (by omega) (by decide) (by decide) (by decide)
  have oc := f.own_cnt
  refine dcase (fun e => ?_) (fun _ => ?_)
  · have e : aget (n := 4) (a := ki) ct ((0 : Int)).toNat < (if w64 (Int.tdiv (w64 ((pk (whos thieves picks) 0 picks.length : Int) - ((0 : Nat) : Int) + 14)) 15) < (td.len : Int) then w64 (Int.tdiv (w64 ((pk (whos thieves picks) 0 picks.length : Int) - ((0 : Nat) : Int) + 14)) 15) else (td.len : Int)) := e
    rw [td15, show ((0 : Int)).toNat = 0 from rfl, hC 0 (by omega)] at e
    exfalso
    have e : ((nOf 0 p.calls : Nat) : Int) < (if ((pk (whos thieves picks) 0 picks.length : Int) + 14) / 15 < (td.len : Int) then ((pk (whos thieves picks) 0 picks.length : Int) + 14) / 15 else (td.len : Int)) := e
    split at e <;> omega
  -- the thieves
  refine Loop.up thieves.toNat (fun s => s.1 - 1) (fun i s k => k = k') rfl rfl ?_
  rintro i ⟨j, u6⟩ k'' go3 hi2 hc rfl hgo3
  have hc : j - 1 = (i : Int) := hc
  obtain rfl : j = ((i + 1 : Nat) : Int) := (Int.sub_eq_iff_eq_add.1 hc).trans (Int.natCast_add i 1).symm
  refine dcase (fun e => ?_) (fun _ => hQ)
  have e : ((i + 1 : Nat) : Int) ≤ thieves := e
  refine ⟨⟨Int.natCast_nonneg _, show ((i + 1 : Nat) : Int) < 4 by omega⟩, i2 (w := i + 1) (l := 0) (u := picks.length) rfl (Nat.zero_le _) (Nat.le_refl _) (.inl ⟨by decide, rfl⟩) ⟨by decide, ?_⟩⟩
  rw [pk_zero]
  have h1 := hm (i + 1)
  have td6 : w64 (Int.tdiv (w64 ((pk (whos thieves picks) (i + 1) picks.length : Int) - ((0 : Nat) : Int) + 5)) 6) = ((pk (whos thieves picks) (i + 1) picks.length : Int) + 5) / 6 := by
    exact w64_div (by omega) (by omega) (by decide) (by decide) (by decide)
  have tc := f.th_cnt (w := i + 1) (by omega) (by rw [f.al]; omega)
  refine dcase (fun z => ?_) (fun _ => ?_)
  · have z : aget (n := 4) (a := ki) ct (((i + 1 : Nat) : Int)).toNat < w64 (Int.tdiv (w64 ((pk (whos thieves picks) (i + 1) picks.length : Int) - ((0 : Nat) : Int) + 5)) 6) := z
    rw [td6, Int.toNat_natCast, hC (i + 1) (by omega)] at z
    exfalso
    have z : ((nOf (i + 1) p.calls : Nat) : Int) < ((pk (whos thieves picks) (i + 1) picks.length : Int) + 5) / 6 := z
    omega
  · refine hgo3 (by omega) _ _ ?_ rfl
    show w64 (((i + 1 : Nat) : Int) + 1) - 1 = _
    rw [w64_of] <;> omega

end Go.Mx
