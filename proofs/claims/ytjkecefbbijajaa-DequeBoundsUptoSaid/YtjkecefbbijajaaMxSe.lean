/-
  A play of one deque: induction over its picks.
-/
import Derived.Test.YtjkecefbbijajaaMxSa
set_option linter.unusedVariables false
set_option linter.unusedSimpArgs false
set_option linter.unusedSectionVars false
namespace Go.Mx

/-- What is known where a pick goes on. -/
structure At (low most thieves : Int) (todos : List DTd) (picks : List Int) (k : Nat) (w : Nat) : Prop where
  lt : k < picks.length
  W : (whos thieves picks)[k]? = some w
  wl : w < (1 + thieves).toNat
  pi : PI most (stN low most todos thieves picks k) (k : Int)
  hi : HI (whos thieves picks) todos k (stN low most todos thieves picks k)
  ai : AI (whos thieves picks) most k (stN low most todos thieves picks k)
  al : (stN low most todos thieves picks k).acts.length = (1 + thieves).toNat
structure AtQ (low most thieves : Int) (todos : List DTd) (picks : List Int) (k : Nat) (w : Nat) (q : PS) : Prop where
  pre : (stN low most todos thieves picks k).pre most (k : Int) w = some q
  pi : PI most q (k : Int)
  hi : HI (whos thieves picks) todos (k + 1) q
  ai : AI (whos thieves picks) most k q
  al : q.acts.length = (1 + thieves).toNat
  run : 0 ≤ (q.act w).2
  pc : (q.act w).1.pc ≠ 0
  m : q.m = (stN low most todos thieves picks k).m
/-- Induction over the picks. -/
theorem stN_ind {low most thieves : Int} {todos : List DTd} {picks : List Int} (hj : judgeE low most todos thieves picks = 0) {P : Nat → PS → Prop} (h0 : P 0 (ps0 low most todos thieves))
    (hn : ∀ k w, At low most thieves todos picks k w → P k (stN low most todos thieves picks k) → (stN low most todos thieves picks k).pre most (k : Int) w = none → stN low most todos thieves picks (k + 1) = stN low most todos thieves picks k → P (k + 1) (stN low most todos thieves picks k))
    (hg : ∀ k w q v m' x, At low most thieves todos picks k w → P k (stN low most todos thieves picks k) → AtQ low most thieves todos picks k w q → GoR most q (k : Int) w v m' x (k : Int) → stN low most todos thieves picks (k + 1) = q.go (k : Int) w → P (k + 1) (q.go (k : Int) w)) : ∀ {k : Nat}, k ≤ picks.length → P k (stN low most todos thieves picks k) := by
  obtain ⟨j1, hp, hc, ht, j5, htd⟩ := judge_ok hj
  intro k
  induction k with
  | zero => intro _; exact h0
  | succ k ih =>
    intro hk
    obtain ⟨i1, i2, i3⟩ := stN_all' (todos := todos) (picks := picks) hc ht hp (k := k) (by omega)
    have ai := stN_ai (todos := todos) (picks := picks) hc ht hp htd (k := k) (by omega)
    have hwl : (whos thieves picks).length = picks.length := List.length_map ..
    have hW : (whos thieves picks)[k]? = some ((whos thieves picks)[k]'(by omega)) := by simp
    have hwm := whos_mem ht (List.getElem_mem (l := whos thieves picks) (n := k) (by omega))
    have es := stN_succ low most todos thieves picks hW
    rw [PS.step_pre] at es
    have htp : ∀ t ∈ (stN low most todos thieves picks k).todos, t.1 = 0 ∨ t.1 = 1 := fun t ht => by
      obtain ⟨dn, d1, _⟩ := i2.tds
      exact htd t (by rw [d1]; exact List.mem_append_right _ ht)
    generalize (whos thieves picks)[k]'(by omega) = w at *
    have a : At low most thieves todos picks k w := ⟨by omega, hW, hwm, i1, i2, ai, i3⟩
    have hwl' : w < (stN low most todos thieves picks k).acts.length := by rw [i3]; exact hwm
    cases e : (stN low most todos thieves picks k).pre most (k : Int) w with
    | none =>
      rw [e] at es
      have es : stN low most todos thieves picks (k + 1) = stN low most todos thieves picks k := es
      rw [es]
      exact hn k w a (ih (by omega)) e es
    | some q =>
      rw [e] at es
      have es : stN low most todos thieves picks (k + 1) = q.go (k : Int) w := es
      obtain ⟨h1, h2, h3, h4, h5, _⟩ := i1.pre hwl' e
      obtain ⟨v, m', x, r⟩ := h1.go (by omega) (n := (k : Int)) (who := w) (by omega) h4
      rw [es]
      exact hg k w q v m' x a (ih (by omega)) ⟨e, h1, i2.pre hwl' hW e, ai.pre hwl' i1 htp e, by omega, h5, h4, h2⟩ r es
theorem AtQ.wl {low most thieves : Int} {todos : List DTd} {picks : List Int} {k w : Nat} {q : PS} (h : AtQ low most thieves todos picks k w q) (a : At low most thieves todos picks k w) : w < q.acts.length := by rw [h.al]; exact a.wl
theorem stN_lg {low most thieves : Int} {todos : List DTd} {picks : List Int} (hj : judgeE low most todos thieves picks = 0) {k : Nat} (hk : k ≤ picks.length) : (stN low most todos thieves picks k).m.lg.length ≤ k := by
  refine stN_ind hj (P := fun k p => p.m.lg.length ≤ k) (Nat.le_refl _) (fun k w a h _ _ => Nat.le_succ_of_le h) (fun k w q v m' x a h aq r _ => ?_) hk
  obtain ⟨e, l1, _, _⟩ := r.log aq.pi.wt
  rw [(r.act (aq.wl a)).1, l1, List.length_append, aq.m]
  exact Nat.succ_le_succ h
end Go.Mx
