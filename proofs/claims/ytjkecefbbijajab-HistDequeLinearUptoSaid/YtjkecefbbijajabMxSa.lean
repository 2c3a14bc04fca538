/-
  A play of one deque: what each step's access is, in the ledger.
  A play of one deque: induction over its picks.
-/
import Derived.Test.YtjkecefbbijajabMxQt
set_option linter.unusedVariables false
set_option linter.unusedSimpArgs false
set_option linter.unusedSectionVars false
namespace Go.Mx

abbrev aWho (e : Acc) : Int := e.1
abbrev aKind (e : Acc) : Int := e.2.1
abbrev aAddr (e : Acc) : Int := e.2.2.1
abbrev aX (e : Acc) : Int := e.2.2.2.1
abbrev aY (e : Acc) : Int := e.2.2.2.2.1
abbrev aOk (e : Acc) : Bool := e.2.2.2.2.2.1

/-- What an access does to the cells, and what the ledger says of it. -/
def AccE (s : AS) (r : Rq) (v : Int) (cs' : List Int) (e : Acc) : Prop := match r with
  | .ld a => e = acc s 0 a v 0 true ∧ v = gt s.cs a ∧ cs' = s.cs
  | .st a x => e = acc s 1 a x 0 true ∧ cs' = s.cs.set a.toNat x
  | .cas a x y => e = acc s 2 a x y (decide (gt s.cs a = x)) ∧ v = (if gt s.cs a = x then 1 else 0) ∧ cs' = if gt s.cs a = x then s.cs.set a.toNat y else s.cs
  | .rs n => e = acc s 4 (s.cs.length : Int) n 0 true ∧ v = (s.cs.length : Int) ∧ cs' = s.cs ++ List.replicate n.toNat 0
theorem arena_log {s s' : AS} {r : Rq} {v : Int} (wt : s.wt = true) (h : arenaI s r = (some v, s')) : ∃ e, s'.lg = s.lg ++ [e] ∧ aWho e = s.who ∧ AccE s r v s'.cs e := by
  have wlt : ∀ (lg : List Acc) (a : Acc), wl s.wt lg a = lg ++ [a] := fun lg a => by unfold wl; rw [wt]; rfl
  cases r with
  | ld a =>
    by_cases q : s.In a
    · have e1 : arenaI s (.ld a) = (some (gt s.cs a), s.log (acc s 0 a (gt s.cs a) 0 true)) := ld_ok q
      rw [e1] at h
      cases h
      exact ⟨_, wlt _ _, rfl, rfl, rfl, rfl⟩
    · have e1 : arenaI s (.ld a) = (none, s) := if_neg q
      rw [e1] at h; cases h
  | st a x =>
    by_cases q : s.In a
    · have e1 : arenaI s (.st a x) = (some 0, AS.log { s with cs := s.cs.set a.toNat x } (acc s 1 a x 0 true)) := st_ok q
      rw [e1] at h
      cases h
      exact ⟨_, wlt _ _, rfl, rfl, rfl⟩
    · have e1 : arenaI s (.st a x) = (none, s) := if_neg q
      rw [e1] at h; cases h
  | cas a x y =>
    by_cases q : s.In a
    · by_cases z : gt s.cs a = x
      · rw [cas_ok q z] at h
        cases h
        exact ⟨_, wlt _ _, rfl, by rw [decide_eq_true z], by rw [if_pos z], by rw [if_pos z]; rfl⟩
      · rw [cas_no q z] at h
        cases h
        exact ⟨_, wlt _ _, rfl, by rw [decide_eq_false z], by rw [if_neg z], by rw [if_neg z]; rfl⟩
    · have e1 : arenaI s (.cas a x y) = (none, s) := if_neg q
      rw [e1] at h; cases h
  | rs n =>
    by_cases q1 : n < 1
    · have e1 : arenaI s (.rs n) = (none, s) := if_pos q1
      rw [e1] at h; cases h
    · by_cases q2 : s.sz - (s.cs.length : Int) < n
      · have e1 : arenaI s (.rs n) = (none, s) := by
          show (if n < 1 then _ else if s.sz - (s.cs.length : Int) < n then _ else _) = _
          rw [if_neg q1, if_pos q2]
        rw [e1] at h; cases h
      · rw [rs_ok (by omega) (by omega)] at h
        cases h
        exact ⟨_, wlt _ _, rfl, rfl, rfl, rfl⟩
theorem GoR.log {most : Int} {q : PS} {n : Int} {w : Nat} {v : Int} {m' : AS} {x : DOp} {N : Int} (r : GoR most q n w v m' x N) (wt : q.m.wt = true) : ∃ e, m'.lg = q.m.lg ++ [e] ∧ aWho e = (w : Int) ∧ AccE { q.m with who := (w : Int) } (q.act w).1.req v m'.cs e :=
  arena_log (s := { q.m with who := (w : Int) }) wt r.acc

/-- Where an access goes that is not for TOP. -/
def FarR (r : Rq) : Prop := match r with
  | .ld a => 3 ≤ a ∨ a = 1 ∨ a = 2
  | .st a _ => 3 ≤ a ∨ a = 1 ∨ a = 2
  | .cas _ _ _ => False
  | .rs _ => True
theorem FarR.acc {s : AS} {r : Rq} {v : Int} {cs' : List Int} {e : Acc} (h : FarR r) (a : AccE s r v cs' e) (hl : 3 ≤ s.cs.length) : aAddr e ≠ 0 ∧ gt cs' 0 = gt s.cs 0 := by
  cases r with
  | ld a' =>
    obtain ⟨rfl, _, rfl⟩ := a
    have h : 3 ≤ a' ∨ a' = 1 ∨ a' = 2 := h
    exact ⟨by show a' ≠ 0; omega, rfl⟩
  | st a' x =>
    obtain ⟨rfl, rfl⟩ := a
    have h : 3 ≤ a' ∨ a' = 1 ∨ a' = 2 := h
    exact ⟨by show a' ≠ 0; omega, gt_set_ne (by omega) (by omega) (by omega)⟩
  | cas a' x y => exact h.elim
  | rs n =>
    obtain ⟨rfl, _, rfl⟩ := a
    exact ⟨by show (s.cs.length : Int) ≠ 0; omega, gt_app _ _ _⟩
theorem OwnS.farR {most sz N : Int} {cs : List Int} {o : DOp} (h : OwnS most cs o) (g : DG most sz N cs o) (b : o.base = 0) (p0 : o.pc ≠ 0) (p2 : o.pc ≠ 2) (p13 : o.pc ≠ 13) : FarR o.req := by
  obtain ⟨g1, g2, g3, g4, g5, g6, g7, g8, g9, g10, g11, g12, g13⟩ := g
  have place : ∀ {a c i : Int}, 3 ≤ a → a ≤ 1048576 → 1 ≤ c → c ≤ 8192 → 0 ≤ i → 3 ≤ placeD a c i := fun {a c i} h1 h2 h3 h4 h5 => by
    rw [placeD_pl (by omega) (by omega) h3 (by omega) h5]
    have := (pl_range (a := a) (c := c) (i := i) h3).1
    omega
  have nn := newer_nn h g8 g9
  have hA : cA cs ≤ 1048576 := by omega
  cases h with
  | idle p => exact absurd p p0
  | pu1 k p => rw [req1 b p]; exact .inr (.inl rfl)
  | pu2 k p => exact absurd p p2
  | pu3 k p => rw [req3 b p]; exact .inr (.inr rfl)
  | pu4 k p _ _ _ _ a => rw [req4 b p]; exact .inl (by omega)
  | pu5 k p => rw [req5 b p]; trivial
  | pu6 k p _ _ _ _ _ _ _ _ a2 => rw [req6 b p]; exact .inl (by omega)
  | pu7 k p _ t0 _ _ a c _ _ _ _ i1 => rw [req7 b p]; exact .inl (place (by omega) (by omega) (by omega) (by omega) (by omega))
  | pu8 k p _ t0 _ _ a c _ c2 a2 hd i1 => 
    rw [req8 b p]
    have h2 : o.c2 ≤ 8192 := by rw [c2]; split <;> omega
    have h3 : 1 ≤ o.c2 := by rw [c2]; split <;> omega
    exact .inl (place (by omega) (by omega) h3 h2 (by omega))
  | pu9 k p => rw [req9 b p]; exact .inr (.inr rfl)
  | pu10 k p bb t0 t f a c => rw [req10 b p]; exact .inl (place (by omega) (by omega) (by omega) (by omega) (by rw [Bl_up (low1 k)] at g3; omega))
  | pu11 k p => rw [req11 b p]; exact .inr (.inl rfl)
  | po1 k p => rw [req1 b p]; exact .inr (.inl rfl)
  | po3 k p => rw [req3 b p]; exact .inr (.inr rfl)
  | po11 k p => rw [req11 b p]; exact .inr (.inl rfl)
  | po2 k p => exact absurd p p2
  | po4 k p i w bb a => rw [req4 b p]; exact .inl (by omega)
  | po12 k p i w bb a t0 t tb c => rw [req12 b p, if_pos k]; exact .inl (place (by omega) (by omega) (by omega) (by omega) (by omega))
  | po13 k p => exact absurd p p13
  | pe k p => rw [req11 b p]; exact .inr (.inl rfl)
  | pf k p => rw [req11 b p]; exact .inr (.inl rfl)
theorem ThS.farR {most sz N : Int} {cs : List Int} {own o : DOp} (h : ThS cs own o) (g : DG most sz N cs own) (nn : 0 ≤ newer own) (b : o.base = 0) (k3 : o.kind = 3) (p0 : o.pc ≠ 0) (p2 : o.pc ≠ 2) (p13 : o.pc ≠ 13) : FarR o.req := by
  obtain ⟨g1, g2, g3, g4, g5, g6, g7, g8, g9, g10, g11, g12, g13⟩ := g
  cases h with
  | idle p => exact absurd p p0
  | st2 k p => exact absurd p p2
  | st1 k p => rw [req1 b p]; exact .inr (.inl rfl)
  | st3 k p => rw [req3 b p]; exact .inr (.inr rfl)
  | st4 k p t0 t av bf => rw [req4 b p]; exact .inl bf.1
  | st12 k p t0 t av bf c =>
    rw [req12 b p, if_neg (by omega)]
    obtain ⟨f1, f2, f3, f4⟩ := bf
    refine .inl ?_
    rw [placeD_pl (by omega) (by omega) (by omega) (by omega) t0]
    have := (pl_range (a := o.a) (c := o.c) (i := o.t) (by omega)).1
    omega
  | st13 k p => exact absurd p p13
  | lk2 k => omega
  | lk1 k => omega
end Go.Mx

namespace Go.Mx

/-- What is known where a pick goes on. -/
structure At (low most thieves : Int) (todos : List DTd) (picks : List Int) (k : Nat) (w : Nat) : Prop where
  lt : k < picks.length
  W : (whos thieves picks)[k]? = some w
  wl : w < (1 + thieves).toNat
  pi : PI most (stN low most todos thieves picks k) (k : Int)
  hi : HI (whos thieves picks) todos k (stN low most todos thieves picks k)
  ai : AI (whos thieves picks) most k (stN low most todos thieves picks k)
  al : (stN low most todos thieves picks k).acts.length = (1 + thieves).toNat
structure AtQ (low most thieves : Int) (todos : List DTd) (picks : List Int) (k : Nat) (w : Nat) (q : PS) : Prop where
  pre : (stN low most todos thieves picks k).pre most (k : Int) w = some q
  pi : PI most q (k : Int)
  hi : HI (whos thieves picks) todos (k + 1) q
  ai : AI (whos thieves picks) most k q
  al : q.acts.length = (1 + thieves).toNat
  run : 0 ≤ (q.act w).2
  pc : (q.act w).1.pc ≠ 0
  m : q.m = (stN low most todos thieves picks k).m
/-- Induction over the picks. -/
theorem stN_ind {low most thieves : Int} {todos : List DTd} {picks : List Int} (hj : judgeE low most todos thieves picks = 0) {P : Nat → PS → Prop} (h0 : P 0 (ps0 low most todos thieves))
    (hn : ∀ k w, At low most thieves todos picks k w → P k (stN low most todos thieves picks k) → (stN low most todos thieves picks k).pre most (k : Int) w = none → stN low most todos thieves picks (k + 1) = stN low most todos thieves picks k → P (k + 1) (stN low most todos thieves picks k))
    (hg : ∀ k w q v m' x, At low most thieves todos picks k w → P k (stN low most todos thieves picks k) → AtQ low most thieves todos picks k w q → GoR most q (k : Int) w v m' x (k : Int) → stN low most todos thieves picks (k + 1) = q.go (k : Int) w → P (k + 1) (q.go (k : Int) w)) : ∀ {k : Nat}, k ≤ picks.length → P k (stN low most todos thieves picks k) := by
  obtain ⟨j1, hp, hc, ht, j5, htd⟩ := judge_ok hj
  intro k
  induction k with
  | zero => intro _; exact h0
  | succ k ih =>
    intro hk
    obtain ⟨i1, i2, i3⟩ := stN_all' (todos := todos) (picks := picks) hc ht hp (k := k) (by omega)
    have ai := stN_ai (todos := todos) (picks := picks) hc ht hp htd (k := k) (by omega)
    have hwl : (whos thieves picks).length = picks.length := List.length_map ..
    have hW : (whos thieves picks)[k]? = some ((whos thieves picks)[k]'(by omega)) := by simp
    have hwm := whos_mem ht (List.getElem_mem (l := whos thieves picks) (n := k) (by omega))
    have es := stN_succ low most todos thieves picks hW
    rw [PS.step_pre] at es
    have htp : ∀ t ∈ (stN low most todos thieves picks k).todos, t.1 = 0 ∨ t.1 = 1 := fun t ht => by
      obtain ⟨dn, d1, _⟩ := i2.tds
      exact htd t (by rw [d1]; exact List.mem_append_right _ ht)
    generalize (whos thieves picks)[k]'(by omega) = w at *
    have a : At low most thieves todos picks k w := ⟨by omega, hW, hwm, i1, i2, ai, i3⟩
    have hwl' : w < (stN low most todos thieves picks k).acts.length := by rw [i3]; exact hwm
    cases e : (stN low most todos thieves picks k).pre most (k : Int) w with
    | none =>
      rw [e] at es
      have es : stN low most todos thieves picks (k + 1) = stN low most todos thieves picks k := es
      rw [es]
      exact hn k w a (ih (by omega)) e es
    | some q =>
      rw [e] at es
      have es : stN low most todos thieves picks (k + 1) = q.go (k : Int) w := es
      obtain ⟨h1, h2, h3, h4, h5, _⟩ := i1.pre hwl' e
      obtain ⟨v, m', x, r⟩ := h1.go (by omega) (n := (k : Int)) (who := w) (by omega) h4
      rw [es]
      exact hg k w q v m' x a (ih (by omega)) ⟨e, h1, i2.pre hwl' hW e, ai.pre hwl' i1 htp e, by omega, h5, h4, h2⟩ r es
theorem AtQ.wl {low most thieves : Int} {todos : List DTd} {picks : List Int} {k w : Nat} {q : PS} (h : AtQ low most thieves todos picks k w q) (a : At low most thieves todos picks k w) : w < q.acts.length := by rw [h.al]; exact a.wl
theorem stN_lg {low most thieves : Int} {todos : List DTd} {picks : List Int} (hj : judgeE low most todos thieves picks = 0) {k : Nat} (hk : k ≤ picks.length) : (stN low most todos thieves picks k).m.lg.length ≤ k := by
  refine stN_ind hj (P := fun k p => p.m.lg.length ≤ k) (Nat.le_refl _) (fun k w a h _ _ => Nat.le_succ_of_le h) (fun k w q v m' x a h aq r _ => ?_) hk
  obtain ⟨e, l1, _, _⟩ := r.log aq.pi.wt
  rw [(r.act (aq.wl a)).1, l1, List.length_append, aq.m]
  exact Nat.succ_le_succ h
theorem Arr.cellsPart {h : Heap} {k kp : Kd} {s : Sl} {xs : List (Den k)} (c : Arr h k s xs) {a : Addr} (ha : s.a = some a) {i : Nat} {x : Den k} (hx : xs[i]? = some x) {y : Den kp} {off : Nat} (hp : PartAt k kp off x y) {sz : Nat} (hsz : sz = k.size) : cellsAt h ((a.add (i * sz)).add off) (kp.cells y) := by
  obtain ⟨z, h1, h2⟩ := c.ldPart (K := fun z => z = y) ha hx hp hsz rfl
  rw [← h2]; exact h1
theorem Arr.cellsEl {h : Heap} {k : Kd} {s : Sl} {xs : List (Den k)} (c : Arr h k s xs) {a : Addr} (ha : s.a = some a) {i : Nat} {x : Den k} (hx : xs[i]? = some x) {sz : Nat} (hsz : sz = k.size) : cellsAt h (a.add (i * sz)) (k.cells x) := by
  obtain ⟨z, h1, h2⟩ := c.ldAt (K := fun z => z = x) ha hx hsz rfl
  rw [← h2]; exact h1
end Go.Mx
