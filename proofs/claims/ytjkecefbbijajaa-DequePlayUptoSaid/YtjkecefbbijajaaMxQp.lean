/-
  The statements about plays of one deque: what they share (mod, own, fair, numbered, alive).
  The statements about plays of one deque: mod, own, fair, numbered, alive.
  The calls of a play, and what `alive` asks of them: the plain part.
  alive: the walk.
-/
import Derived.Test.YtjkecefbbijajaaMxQm
set_option linter.unusedVariables false
set_option linter.unusedSimpArgs false
set_option linter.unusedSectionVars false
namespace Go.Mx

/-! ### more of what holds -/
theorem wsum_pos {f : DCl → Int} : ∀ {l : List DCl}, 0 < wsum f l → ∃ (j : Nat) (x : DCl), l[j]? = some x ∧ 0 < f x
  | [], h => absurd (show (0 : Int) < 0 from h) (by decide)
  | a :: l, h => by
    by_cases q : 0 < f a
    · exact ⟨0, a, rfl, q⟩
    · have : 0 < wsum f l := by
        unfold wsum at *
        rw [List.map_cons, List.sum_cons] at h; omega
      obtain ⟨j, x, h1, h2⟩ := wsum_pos this
      exact ⟨j + 1, x, h1, h2⟩
/-- A push that is Full is not the owner's first call. -/
def FI (p : PS) : Prop := ∀ (i : Nat) c, p.calls[i]? = some c → dWho c = 0 → dKind c = 0 → dEnd c ≠ -1 → dCode c = 2 ∨ (dCode c = 3 ∧ ∃ (j : Nat) (a : DCl), j < i ∧ p.calls[j]? = some a ∧ dWho a = 0)
theorem FI.snoc {p q : PS} {y : DCl} (h : FI p) (e : q.calls = p.calls ++ [y]) (hy : dEnd y = -1) : FI q := by
  intro i c hc h1 h2 h3
  rw [e] at hc
  rcases getElem?_snoc hc with ⟨_, hc⟩ | ⟨_, rfl⟩
  · rcases h i c hc h1 h2 h3 with z | ⟨z1, j, a, z2, z3, z4⟩
    · exact .inl z
    · exact .inr ⟨z1, j, a, z2, by rw [e, List.getElem?_append_left (List.getElem?_eq_some_iff.1 z3).1]; exact z3, z4⟩
  · exact absurd hy h3
theorem FI.pre {most : Int} {p q : PS} {n : Int} {w : Nat} (h : FI p) (e : p.pre most n w = some q) : FI q := by
  cases pre_cases e with
  | on _ eq => rw [eq]; exact h
  | push _ _ _ _ _ _ eq => rw [eq]; exact h.snoc rfl rfl
  | pop _ _ _ _ _ _ eq => rw [eq]; exact h.snoc rfl rfl
  | steal _ _ eq => rw [eq]; exact h.snoc rfl rfl
theorem FI.go {W : List Nat} {td0 : List DTd} {most : Int} {k : Nat} {q : PS} (h : FI q) (ai : AI W most k q) (hi : HI W td0 (k + 1) q) {w : Nat} (hw : w < q.acts.length) (hr : 0 ≤ (q.act w).2) {N : Int} (pi : PI most q N) {v : Int} {m' : AS} {x : DOp} (r : GoR most q (k : Int) w v m' x N) : FI (q.go (k : Int) w) := by
  by_cases xp : x.pc = 0
  · rw [r.off xp]
    obtain ⟨c0, r1, r2, r3, r4, r5⟩ := ai.s0 w hw hr
    have get := fun j c => endAt_get r1 (k : Int) x.code x.value j c
    have keep : ∀ (j : Nat) (a : DCl), q.calls[j]? = some a → ∃ a', (endAt q.calls (q.act w).2.toNat (k : Int) x.code x.value)[j]? = some a' ∧ dWho a' = dWho a := fun j a ha => by
      by_cases e : j = (q.act w).2.toNat
      · subst e
        rw [r1] at ha; cases ha
        exact ⟨_, (get _ _).2 (.inl ⟨rfl, rfl⟩), rfl⟩
      · exact ⟨a, (get _ _).2 (.inr ⟨e, ha⟩), rfl⟩
    intro i c hc h1 h2 h3
    rcases (get i c).1 hc with ⟨e1, e2⟩ | ⟨_, e2⟩
    · subst e2
      have h1 : dWho c0 = 0 := h1
      have h2 : dKind c0 = 0 := h2
      have hw0 : w = 0 := by omega
      subst hw0
      show x.code = 2 ∨ (x.code = 3 ∧ _)
      cases r.own rfl with
      | push _ _ co => exact .inl co
      | full k' _ co _ _ _ _ _ fb fc bb t0 p4 =>
        have ha := ai.a1
        rw [Bl_up (low1 k')] at ha
        have hm : (q.act 0).1.most = most := (pi.mach 0 hw (by rw [p4]; decide)).2
        have m1 : 1 ≤ most := by have := pi.dg.c1; have := pi.dg.cm; omega
        obtain ⟨j, a, z1, z2⟩ := wsum_pos (f := fP) (l := q.calls) (by omega)
        have z3 : dWho a = 0 ∧ dEnd a ≠ -1 := by
          unfold fP at z2
          by_cases z : dWho a = 0 ∧ dKind a = 0 ∧ dEnd a ≠ -1
          · exact ⟨z.1, z.2.2⟩
          · rw [if_neg z] at z2; exact absurd z2 (by decide)
        obtain ⟨a', y1, y2⟩ := keep j a z1
        refine .inr ⟨co, j, a', ?_, y1, by rw [y2]; exact z3.1⟩
        subst e1
        rcases Nat.lt_trichotomy j (q.act 0).2.toNat with z | z | z
        · exact z
        · subst z
          rw [r1] at z1; cases z1
          exact absurd r3 z3.2
        · exact absurd r3 (hi.seq _ j c0 a z r1 z1 (by rw [h1, z3.1])).1
      | same p' => exact absurd xp p'
      | low k' => omega
      | got k' => omega
      | empty k' => omega
      | won k' => omega
    · rcases h i c e2 h1 h2 h3 with z | ⟨z1, j, a, z2, z3, z4⟩
      · exact .inl z
      · obtain ⟨a', y1, y2⟩ := keep j a z3
        exact .inr ⟨z1, j, a', z2, y1, by rw [y2]; exact z4⟩
  · rw [r.on xp]; exact h

/-- All that is known of a play, at its end. -/
structure PF (W : List Nat) (todos : List DTd) (thieves most : Int) (n : Nat) (p : PS) : Prop where
  pi : PI most p (n : Int)
  hi : HI W todos n p
  ai : AI W most n p
  fi : FI p
  al : p.acts.length = (1 + thieves).toNat
  wl : W.length = n
theorem stN_pf {low most thieves : Int} {todos : List DTd} {picks : List Int} (hc : CapE low most) (ht : 0 ≤ thieves) (hp : picks.length ≤ 1048576) (htd : ∀ t ∈ todos, t.1 = 0 ∨ t.1 = 1) : ∀ {k : Nat}, k ≤ picks.length → FI (stN low most todos thieves picks k) := by
  intro k
  induction k with
  | zero => intro _ i c h; cases h
  | succ k ih =>
    intro hk
    obtain ⟨i1, i2, i3⟩ := stN_all' (todos := todos) (picks := picks) hc ht hp (k := k) (by omega)
    have ai := stN_ai (todos := todos) (picks := picks) hc ht hp htd (k := k) (by omega)
    have hwl : (whos thieves picks).length = picks.length := List.length_map ..
    have hW : (whos thieves picks)[k]? = some ((whos thieves picks)[k]'(by omega)) := by simp
    have hwm := whos_mem ht (List.getElem_mem (l := whos thieves picks) (n := k) (by omega))
    rw [stN_succ _ _ _ _ _ hW, PS.step_pre]
    have htp : ∀ t ∈ (stN low most todos thieves picks k).todos, t.1 = 0 ∨ t.1 = 1 := fun t ht => by
      obtain ⟨dn, d1, _⟩ := i2.tds
      exact htd t (by rw [d1]; exact List.mem_append_right _ ht)
    generalize (whos thieves picks)[k]'(by omega) = w at *
    cases e : (stN low most todos thieves picks k).pre most (k : Int) w with
    | none => exact ih (by omega)
    | some q =>
      obtain ⟨h1, h2, h3, h4, h5, _⟩ := i1.pre (by rw [i3]; exact hwm) e
      obtain ⟨v, m', x, r⟩ := h1.go (by omega) (n := (k : Int)) (who := w) (by rw [h3, i3]; exact hwm) h4
      exact ((ih (by omega)).pre e).go (ai.pre (by rw [i3]; exact hwm) i1 htp e) (i2.pre (by rw [i3]; exact hwm) hW e) (by rw [h3, i3]; exact hwm) h5 h1 r
theorem judge_ok {low most thieves : Int} {todos : List DTd} {picks : List Int} (h : judgeE low most todos thieves picks = 0) : todos.length ≤ 4096 ∧ picks.length ≤ 1048576 ∧ CapE low most ∧ 0 ≤ thieves ∧ thieves ≤ 3 ∧ ∀ t ∈ todos, t.1 = 0 ∨ t.1 = 1 := by
  unfold judgeE at h
  by_cases a : 4096 < todos.length ∨ 1048576 < picks.length
  · rw [if_pos a] at h; cases h
  by_cases b : CapE low most
  · by_cases c : thieves < 0 ∨ 3 < thieves
    · rw [if_neg a, if_neg (fun n => n b), if_pos c] at h; cases h
    · by_cases d : ∃ t ∈ todos, t.1 ≠ 0 ∧ t.1 ≠ 1
      · rw [if_neg a, if_neg (fun n => n b), if_neg c, if_pos d] at h; cases h
      · refine ⟨by omega, by omega, b, by omega, by omega, fun t ht => ?_⟩
        by_cases e : t.1 = 0
        · exact .inl e
        · by_cases f : t.1 = 1
          · exact .inr f
          · exact absurd ⟨t, ht, e, f⟩ d
  · rw [if_neg a, if_pos b] at h; cases h
theorem judge_of {low most thieves : Int} {todos : List DTd} {picks : List Int} (h1 : todos.length ≤ 4096) (h2 : picks.length ≤ 1048576) (h3 : CapE low most) (h4 : 0 ≤ thieves) (h5 : thieves ≤ 3) (h6 : ∀ t ∈ todos, t.1 = 0 ∨ t.1 = 1) : judgeE low most todos thieves picks = 0 := by
  unfold judgeE
  rw [if_neg (by omega), if_neg (fun n => n h3), if_neg (by omega), if_neg]
  rintro ⟨t, ht, a, b⟩
  exact (h6 t ht).elim a b
theorem play_pf {low most thieves : Int} {todos : List DTd} {picks : List Int} (h : judgeE low most todos thieves picks = 0) : PF (whos thieves picks) todos thieves most picks.length (playOf low most todos thieves picks) := by
  obtain ⟨h1, h2, h3, h4, h5, h6⟩ := judge_ok h
  obtain ⟨a, b, c⟩ := stN_all' (todos := todos) (picks := picks) h3 h4 h2 (Nat.le_refl _)
  have d := stN_ai (todos := todos) (picks := picks) h3 h4 h2 h6 (Nat.le_refl _)
  have e := stN_pf (todos := todos) (picks := picks) h3 h4 h2 h6 (Nat.le_refl _)
  rw [stN_all] at a b c d e
  exact ⟨a, b, d, e, c, List.length_map ..⟩

/-! ### the owner's calls, counted -/
def nOf (w : Nat) (l : List DCl) : Nat := (l.filter (fun c => decide (dWho c = (w : Int)))).length
theorem nOf_succ {w : Nat} {l : List DCl} {i : Nat} {c : DCl} (h : l[i]? = some c) : nOf w (l.take (i + 1)) = nOf w (l.take i) + if dWho c = (w : Int) then 1 else 0 := by
  unfold nOf
  rw [List.take_add_one, h]
  show ((l.take i ++ [c]).filter _).length = _
  rw [List.filter_append, List.length_append]
  congr 1
  by_cases e : dWho c = (w : Int) <;> simp [e]
theorem nOf_T (w : Nat) : ∀ (l : List DCl), wsum (fT w) l ≤ (nOf w l : Int) ∧ (∀ (c : DCl), c ∈ l → dWho c = (w : Int) → dEnd c = -1 → wsum (fT w) l + 1 ≤ (nOf w l : Int))
  | [] => ⟨Int.le_refl _, fun c h => by cases h⟩
  | a :: l => by
    obtain ⟨h1, h2⟩ := nOf_T w l
    have e1 : wsum (fT w) (a :: l) = fT w a + wsum (fT w) l := by unfold wsum; rw [List.map_cons, List.sum_cons]
    have e2 : (nOf w (a :: l) : Int) = (nOf w l : Int) + if dWho a = (w : Int) then 1 else 0 := by
      unfold nOf
      by_cases e : dWho a = (w : Int)
      · rw [List.filter_cons_of_pos (by simp [e]), if_pos e]; simp
      · rw [List.filter_cons_of_neg (by simp [e]), if_neg e]; simp
    rw [e1, e2]
    have e3 : fT w a ≤ (if dWho a = (w : Int) then 1 else 0) := by
      unfold fT
      by_cases e : dWho a = (w : Int) ∧ dEnd a ≠ -1
      · rw [if_pos e, if_pos e.1]; exact Int.le_refl _
      · rw [if_neg e]; split <;> decide
    refine ⟨by omega, fun c hc hw he => ?_⟩
    rcases List.mem_cons.1 hc with rfl | hc
    · have : fT w c = 0 := if_neg (fun q => q.2 he)
      rw [if_pos hw, this]; omega
    · have := h2 c hc hw he; omega
theorem nOf_PQ : ∀ (l : List DCl), wsum (fT 0) l = wsum fP l + wsum fQ l
  | [] => rfl
  | a :: l => by
    have h := nOf_PQ l
    have e : ∀ f : DCl → Int, wsum f (a :: l) = f a + wsum f l := fun f => by unfold wsum; rw [List.map_cons, List.sum_cons]
    rw [e, e, e, h]
    have : fT 0 a = fP a + fQ a := by
      unfold fT fP fQ
      by_cases z1 : dWho a = 0
      · by_cases z2 : dEnd a ≠ -1
        · by_cases z3 : dKind a = 0
          · rw [if_pos ⟨z1, z2⟩, if_pos ⟨z1, z3, z2⟩, if_neg (fun q => q.2.1 z3)]; rfl
          · rw [if_pos ⟨z1, z2⟩, if_neg (fun q => z3 q.2.1), if_pos ⟨z1, z3, z2⟩]; rfl
        · rw [if_neg (fun q => z2 q.2), if_neg (fun q => z2 q.2.2), if_neg (fun q => z2 q.2.2)]; rfl
      · rw [if_neg (fun q => z1 q.1), if_neg (fun q => z1 q.1), if_neg (fun q => z1 q.1)]; rfl
    omega
/-- The owner's accesses: at most 15 a call. -/
theorem PF.own15 {W : List Nat} {todos : List DTd} {thieves most : Int} {n : Nat} {p : PS} (h : PF W todos thieves most n p) : wsum (fO W) p.calls + stp p 0 ≤ 15 * (nOf 0 p.calls : Int) ∧ 0 ≤ stp p 0 := by
  obtain ⟨S, m1, m2, m3, m4⟩ := h.ai.am
  have hT := nOf_PQ p.calls
  obtain ⟨n1, n2⟩ := nOf_T 0 p.calls
  have p0 := wsum_nn (f := fP) (l := p.calls) fun x _ => by unfold fP; split <;> decide
  have q0 := wsum_nn (f := fQ) (l := p.calls) fun x _ => by unfold fQ; split <;> decide
  by_cases r : 0 ≤ (p.act 0).2
  · have est : stp p 0 = stepsOf (p.act 0).1 := if_pos r
    obtain ⟨c, z1, z2, z3, z4, z5⟩ := h.ai.s0 0 h.pi.pos r
    have n2 := n2 c (List.mem_of_getElem? z1) z2 z3
    have pc : (p.act 0).1.pc ≠ 0 := fun e => by have := (h.pi.run 0 h.pi.pos).2 e; omega
    rw [est]
    by_cases k1 : (p.act 0).1.kind = 1
    · have a1 := h.ai.a1
      rw [Bl_up (low1 k1)] at a1
      have hb : 0 ≤ gt p.m.cs 1 ∧ gt p.m.cs 1 ≤ 1000000000 := by
        have h1 := h.pi.dg.bn
        have h2 := h.pi.dg.tb
        have h3 := h.pi.dg.t0
        have h4 := h.pi.dg.nn
        rw [Bl_up (low1 k1)] at h1 h2
        omega
      obtain ⟨t1, t2, t3, t4, t5, t6⟩ := push_steps h.pi.os h.ai.xi k1 pc hb.1 hb.2 h.pi.dg.c1 0
      omega
    · have k2 : (p.act 0).1.kind = 2 := by
        cases h.pi.os with
        | idle p => exact absurd p pc
        | pu1 k' | pu2 k' | pu3 k' | pu4 k' | pu5 k' | pu6 k' | pu7 k' | pu8 k' | pu9 k' | pu10 k' | pu11 k' => exact absurd k' k1
        | po1 k' | po3 k' | po11 k' | po2 k' | po4 k' | po12 k' | po13 k' | pe k' | pf k' => exact k'
      obtain ⟨t1, t2, t3, t4⟩ := pop_steps h.pi.os k2 pc 0
      omega
  · have est : stp p 0 = 0 := if_neg r
    omega

end Go.Mx

namespace Go.Mx

theorem w64_nat {i n : Nat} (h : i < n) (hn : n ≤ 2000000000) : w64 ((i : Int) + 1) = ((i + 1 : Nat) : Int) := by rw [w64_of] <;> omega
theorem whos_get {thieves : Int} {picks : List Int} {i : Nat} {x : Int} (h : picks[i]? = some x) : (whos thieves picks)[i]? = some (x % (1 + thieves)).toNat := by
  unfold whos; rw [List.getElem?_map, h]; rfl


def FairE (low most : Int) (todos : List DTd) (thieves : Int) (picks : List Int) : Prop := judgeE low most todos thieves picks = 0

/-- The todos, numbered. -/
def numb (todos : List DTd) : List DTd := todos.zipIdx.map fun ((t, i) : DTd × Nat) => (t.1, ((i : Int), ()))
theorem numb_len (todos : List DTd) : (numb todos).length = todos.length := by simp [numb]
theorem numb_get (todos : List DTd) (i : Nat) : (numb todos)[i]? = (todos[i]?).map fun t => (t.1, ((i : Int), ())) := by
  unfold numb
  rw [List.getElem?_map, List.getElem?_zipIdx]
  cases todos[i]? <;> simp
theorem judge_numb {low most thieves : Int} {todos : List DTd} {picks : List Int} (h : judgeE low most todos thieves picks = 0) : judgeE low most (numb todos) thieves picks = 0 := by
  obtain ⟨h1, h2, h3, h4, h5, h6⟩ := judge_ok h
  refine judge_of (by rw [numb_len]; exact h1) h2 h3 h4 h5 fun t ht => ?_
  obtain ⟨i, hi⟩ := List.mem_iff_getElem?.1 ht
  rw [numb_get] at hi
  cases e : todos[i]? with
  | none => rw [e] at hi; cases hi
  | some t' =>
    rw [e] at hi
    cases hi
    exact h6 t' (List.mem_of_getElem? e)

end Go.Mx

namespace Go.Mx

/-- The end of the last call of w among the first i. -/
def lst (n : Int) (w : Nat) (cs : List DCl) : Nat → Int
  | 0 => -1
  | i + 1 => match cs[i]? with
    | some c => if dWho c = (w : Int) then (if dEnd c < 0 then n else dEnd c) else lst n w cs i
    | none => lst n w cs i
theorem lst_succ {n : Int} {w i : Nat} {cs : List DCl} {c : DCl} (h : cs[i]? = some c) : lst n w cs (i + 1) = if dWho c = (w : Int) then (if dEnd c < 0 then n else dEnd c) else lst n w cs i := by
  show (match cs[i]? with | some c => if dWho c = (w : Int) then (if dEnd c < 0 then n else dEnd c) else lst n w cs i | none => lst n w cs i) = _
  rw [h]
theorem lst_char (n : Int) (w : Nat) (cs : List DCl) : ∀ i, i ≤ cs.length → (lst n w cs i = -1 ∧ ∀ (j : Nat) a, j < i → cs[j]? = some a → dWho a ≠ (w : Int)) ∨ ∃ (j : Nat) (a : DCl), j < i ∧ cs[j]? = some a ∧ dWho a = (w : Int) ∧ lst n w cs i = (if dEnd a < 0 then n else dEnd a) ∧ ∀ (k : Nat) b, j < k → k < i → cs[k]? = some b → dWho b ≠ (w : Int)
  | 0, _ => .inl ⟨rfl, fun j a hj => absurd hj (Nat.not_lt_zero _)⟩
  | i + 1, hi => by
    have hc : cs[i]? = some cs[i] := by simp
    rw [lst_succ hc]
    by_cases e : dWho cs[i] = (w : Int)
    · rw [if_pos e]
      exact .inr ⟨i, _, Nat.lt_succ_self i, hc, e, rfl, fun k b h1 h2 => by omega⟩
    · rw [if_neg e]
      rcases lst_char n w cs i (by omega) with ⟨h1, h2⟩ | ⟨j, a, h1, h2, h3, h4, h5⟩
      · refine .inl ⟨h1, fun j a hj ha => ?_⟩
        by_cases z : j = i
        · subst z; rw [hc] at ha; cases ha; exact e
        · exact h2 j a (by omega) ha
      · refine .inr ⟨j, a, by omega, h2, h3, h4, fun k b hk hk2 hb => ?_⟩
        by_cases z : k = i
        · subst z; rw [hc] at hb; cases hb; exact e
        · exact h5 k b hk (by omega) hb
theorem pk_flat {W : List Nat} {w a b : Nat} (hab : a ≤ b) (hb : b ≤ W.length) (h : ∀ m, a ≤ m → m < b → W[m]? ≠ some w) : pk W w b = pk W w a := by
  induction b with
  | zero => rw [show a = 0 from by omega]
  | succ b ih =>
    by_cases e : a = b + 1
    · rw [e]
    · have hx : W[b]? = some W[b] := by simp
      rw [pk_succ hx, if_neg, Nat.add_zero]
      · exact ih (by omega) (by omega) fun m h1 h2 => h m h1 (by omega)
      · intro z
        exact h b (by omega) (by omega) (by rw [hx, z])
theorem filter_get {α : Type} (P : α → Bool) {l : List α} {i : Nat} {c : α} (h : l[i]? = some c) (hp : P c = true) : (l.filter P)[((l.take i).filter P).length]? = some c := by
  obtain ⟨hi, rfl⟩ := List.getElem?_eq_some_iff.1 h
  have e : l = l.take i ++ l[i] :: l.drop (i + 1) := by
    rw [← List.drop_eq_getElem_cons hi, List.take_append_drop]
  have e2 : l.filter P = (l.take i).filter P ++ l[i] :: (l.drop (i + 1)).filter P := by
    conv => lhs; rw [e]
    rw [List.filter_append, List.filter_cons_of_pos hp]
  rw [e2, List.getElem?_append_right (Nat.le_refl _), Nat.sub_self]; rfl

variable {W : List Nat} {todos : List DTd} {thieves most : Int} {n : Nat} {p : PS}
theorem PF.lst_ok (h : PF W todos thieves most n p) {i : Nat} {c : DCl} (hc : p.calls[i]? = some c) {w : Nat} (hw : dWho c = (w : Int)) : lst n w p.calls i < dBeg c ∧ -1 ≤ lst n w p.calls i ∧ pk W w (dBeg c).toNat = pk W w (lst n w p.calls i + 1).toNat := by
  obtain ⟨v, b, q1, q2, q3, q4, q5, q6⟩ := h.hi.c1 i c hc
  have hi := (List.getElem?_eq_some_iff.1 hc).1
  have hwl := h.wl
  rw [q2, Int.toNat_natCast]
  have cov : ∀ m : Nat, m < b → W[m]? = some w → ∃ (j : Nat) (a : DCl), j < i ∧ p.calls[j]? = some a ∧ dWho a = dWho c ∧ (m : Int) ≤ dEnd a := fun m hm hW => h.hi.cov i m c hc (by omega) (by rw [hw, Int.toNat_natCast]; exact hW)
  rcases lst_char n w p.calls i (by omega) with ⟨h1, h2⟩ | ⟨j, a, h1, h2, h3, h4, h5⟩
  · rw [h1]
    refine ⟨by omega, by omega, pk_flat (by omega) (by omega) fun m _ hm hW => ?_⟩
    obtain ⟨j, a, z1, z2, z3, _⟩ := cov m hm hW
    exact h2 j a z1 z2 (by rw [z3, hw])
  · have hs := h.hi.seq j i a c h1 h2 hc (by rw [h3, hw])
    rcases h.hi.c2 j a h2 with ⟨z, _⟩ | ⟨e, y1, y2, y3, y4, y5, y6⟩
    · exact absurd z hs.1
    · rw [if_neg (by omega)] at h4
      rw [h4, y1]
      refine ⟨by omega, by omega, ?_⟩
      have : ((e : Int) + 1).toNat = e + 1 := by omega
      rw [this]
      refine pk_flat (by omega) (by omega) fun m hm1 hm hW => ?_
      obtain ⟨k, x, z1, z2, z3, z4⟩ := cov m hm hW
      rcases Nat.lt_trichotomy k j with lt | eq | gt
      · have s2 := h.hi.seq k j x a lt z2 h2 (by rw [z3, hw, h3])
        omega
      · subst eq
        rw [h2] at z2; cases z2
        omega
      · exact h5 k x gt z1 z2 (by rw [z3, hw])
theorem PF.own_ask (h : PF W todos thieves most n p) {i : Nat} {c : DCl} (hc : p.calls[i]? = some c) (hw : dWho c = 0) : ∃ t, todos[nOf 0 (p.calls.take i)]? = some t ∧ dKind c = t.1 ∧ (t.1 = 0 → dArg c = t.2.1) := by
  obtain ⟨dn, d1, d2⟩ := h.hi.tds
  have g := filter_get ownC hc (decide_eq_true hw)
  have g2 : ((p.calls.filter ownC).map (fun c => (dKind c, dArg c)))[nOf 0 (p.calls.take i)]? = some (dKind c, dArg c) := by
    rw [List.getElem?_map]
    show ((p.calls.filter ownC)[((p.calls.take i).filter ownC).length]?).map _ = _
    rw [g]; rfl
  rw [d2, List.getElem?_map] at g2
  cases e : dn[nOf 0 (p.calls.take i)]? with
  | none => rw [e] at g2; cases g2
  | some t =>
    rw [e] at g2
    have g3 : askOf t = (dKind c, dArg c) := Option.some.inj g2
    refine ⟨t, by rw [d1, List.getElem?_append_left (List.getElem?_eq_some_iff.1 e).1]; exact e, (congrArg (·.1) g3).symm, fun k => ?_⟩
    have := congrArg (·.2) g3
    unfold askOf at this
    rw [if_pos k] at this
    exact this.symm
theorem PF.own_all (h : PF W todos thieves most n p) (e : p.todos = []) : nOf 0 p.calls = todos.length := by
  obtain ⟨dn, d1, d2⟩ := h.hi.tds
  rw [e, List.append_nil] at d1
  have := congrArg List.length d2
  rw [List.length_map, List.length_map, ← d1] at this
  exact this
theorem PF.own_cnt (h : PF W todos thieves most n p) : (pk W 0 n : Int) ≤ 15 * (nOf 0 p.calls : Int) ∨ nOf 0 p.calls = todos.length := by
  obtain ⟨a, b⟩ := h.own15
  obtain ⟨idl, i1, i2, i3⟩ := h.ai.o1
  by_cases e : 0 < idl
  · exact .inr (h.own_all (i3 e).1)
  · exact .inl (by omega)
theorem PF.th_cnt (h : PF W todos thieves most n p) {w : Nat} (w0 : w ≠ 0) (hw : w < p.acts.length) : (pk W w n : Int) + 5 < 6 * (nOf w p.calls : Int) + 6 := by
  have s3 := h.ai.s3 w w0 hw
  obtain ⟨n1, n2⟩ := nOf_T w p.calls
  unfold stp at s3
  by_cases r : 0 ≤ (p.act w).2
  · rw [if_pos r] at s3
    obtain ⟨c, z1, z2, z3, z4, z5⟩ := h.ai.s0 w hw r
    have pc : (p.act w).1.pc ≠ 0 := fun e => by have := (h.pi.run w hw).2 e; omega
    have := th_steps (h.pi.th w (by omega) hw) (h.pi.kind w (by omega) hw pc) pc 0
    have := n2 c (List.mem_of_getElem? z1) z2 z3
    omega
  · rw [if_neg r] at s3; omega
/-- The first call of the owner, if it is a push, ends Pushed. -/
theorem PF.first (h : PF W todos thieves most n p) {i : Nat} {c : DCl} (hc : p.calls[i]? = some c) (hw : dWho c = 0) (h0 : nOf 0 (p.calls.take i) = 0) (hk : dKind c = 0) (he : 0 ≤ dEnd c) : dCode c = 2 := by
  rcases h.fi i c hc hw hk (by omega) with z | ⟨_, j, a, z2, z3, z4⟩
  · exact z
  · exfalso
    unfold nOf at h0
    have : a ∈ (p.calls.take i).filter (fun c => decide (dWho c = ((0 : Nat) : Int))) := List.mem_filter.2 ⟨List.mem_of_getElem? (i := j) (by rw [List.getElem?_take]; rw [if_pos z2]; exact z3), decide_eq_true z4⟩
    rw [List.length_eq_zero_iff.1 h0] at this
    cases this

end Go.Mx

namespace Go.Mx

theorem aget_seti {n : Nat} {a : Fin n → Int} {i j : Nat} {v : Int} (hj : j < n) : aget (n := n) (a := ki) (aset (n := n) (a := ki) a i v) j = if j = i then v else aget (n := n) (a := ki) a j := by
  unfold aget aset
  rw [dif_pos hj, dif_pos hj]
  try rfl
theorem w64_div {x a d : Int} (h0 : 0 ≤ x) (h1 : x ≤ 2000000) (a0 : 0 ≤ a) (a1 : a ≤ 100) (hd : 0 < d) : w64 (Int.tdiv (w64 (x - ((0 : Nat) : Int) + a)) d) = (x + a) / d := by
  have e1 : w64 (x - ((0 : Nat) : Int) + a) = x + a := by rw [w64_of] <;> omega
  have b0 : 0 ≤ (x + a) / d := Int.ediv_nonneg (by omega) (by omega)
  have b1 : (x + a) / d ≤ x + a := Int.ediv_le_self _ (by omega)
  rw [e1, Int.tdiv_eq_ediv_of_nonneg (by omega), w64_of] <;> omega
theorem lst_step {n : Int} {cs : List DCl} {i : Nat} {c : DCl} (hc : cs[i]? = some c) {w : Nat} (hw : dWho c = (w : Int)) {la : Fin 4 → Int} (h : ∀ v : Nat, v < 4 → aget (n := 4) (a := ki) la v = lst n v cs i) {la' : Fin 4 → Int} (h' : ∀ v : Nat, v < 4 → aget (n := 4) (a := ki) la' v = if v = w then (if dEnd c < 0 then n else dEnd c) else aget (n := 4) (a := ki) la v) : ∀ v : Nat, v < 4 → aget (n := 4) (a := ki) la' v = lst n v cs (i + 1) := fun v hv => by
  rw [h' v hv, lst_succ hc, hw]
  by_cases e : v = w
  · subst e; rw [if_pos rfl, if_pos rfl]
  · rw [if_neg e, if_neg (by omega)]; exact h v hv
theorem cnt_step {cs : List DCl} {i : Nat} {c : DCl} (hc : cs[i]? = some c) {w : Nat} (hw : dWho c = (w : Int)) {ct : Fin 4 → Int} (h : ∀ v : Nat, v < 4 → aget (n := 4) (a := ki) ct v = (nOf v (cs.take i) : Int)) (hn : cs.length ≤ 2000000000) : ∀ v : Nat, v < 4 → aget (n := 4) (a := ki) (aset (n := 4) (a := ki) ct w (w64 (aget (n := 4) (a := ki) ct w + 1))) v = (nOf v (cs.take (i + 1)) : Int) := fun v hv => by
  rw [aget_seti hv, nOf_succ hc, hw]
  have hb : nOf w (cs.take i) ≤ 2000000000 := by
    unfold nOf
    have := List.length_filter_le (fun c => decide (dWho c = (w : Int))) (cs.take i)
    have h2 := List.length_take_le i cs
    have h3 := List.length_take_le' i cs
    omega
  by_cases e : v = w
  · subst e
    rw [if_pos rfl, if_pos rfl, h v hv, w64_of (by omega) (by omega)]
    exact (Int.natCast_add _ 1).symm
  · rw [if_neg e, if_neg (by omega), Nat.add_zero]; exact h v hv
theorem HI.beg_ge {W : List Nat} {td0 : List DTd} {k : Nat} {p : PS} (h : HI W td0 k p) : ∀ (i : Nat) c, p.calls[i]? = some c → (i : Int) ≤ dBeg c
  | 0, c, hc => by obtain ⟨_, b, _, q, _⟩ := h.c1 0 c hc; omega
  | i + 1, c, hc => by
    have hi := (List.getElem?_eq_some_iff.1 hc).1
    have ha : p.calls[i]? = some (p.calls[i]'(by omega)) := by simp
    have := h.beg_ge i _ ha
    have := h.inc i (i + 1) _ _ (Nat.lt_succ_self i) ha hc
    omega
theorem HI.len_le {W : List Nat} {td0 : List DTd} {k : Nat} {p : PS} (h : HI W td0 k p) : p.calls.length ≤ k := by
  by_cases e : p.calls.length = 0
  · omega
  · have hc : p.calls[p.calls.length - 1]? = some (p.calls[p.calls.length - 1]'(by omega)) := by simp
    have := h.beg_ge _ _ hc
    obtain ⟨_, b, _, q, q2, _⟩ := h.c1 _ _ hc
    omega

end Go.Mx
