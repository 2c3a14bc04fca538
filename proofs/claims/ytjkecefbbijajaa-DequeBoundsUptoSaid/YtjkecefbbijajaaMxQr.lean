/-
  The calls of a play, and what `alive` asks of them: the plain part.
-/
import Derived.Test.YtjkecefbbijajaaMxQq
set_option linter.unusedVariables false
set_option linter.unusedSimpArgs false
set_option linter.unusedSectionVars false
namespace Go.Mx

/-- The end of the last call of w among the first i. -/
def lst (n : Int) (w : Nat) (cs : List DCl) : Nat → Int
  | 0 => -1
  | i + 1 => match cs[i]? with
    | some c => if dWho c = (w : Int) then (if dEnd c < 0 then n else dEnd c) else lst n w cs i
    | none => lst n w cs i
theorem lst_succ {n : Int} {w i : Nat} {cs : List DCl} {c : DCl} (h : cs[i]? = some c) : lst n w cs (i + 1) = if dWho c = (w : Int) then (if dEnd c < 0 then n else dEnd c) else lst n w cs i := by
  show (match cs[i]? with | some c => if dWho c = (w : Int) then (if dEnd c < 0 then n else dEnd c) else lst n w cs i | none => lst n w cs i) = _
  rw [h]
theorem lst_char (n : Int) (w : Nat) (cs : List DCl) : ∀ i, i ≤ cs.length → (lst n w cs i = -1 ∧ ∀ (j : Nat) a, j < i → cs[j]? = some a → dWho a ≠ (w : Int)) ∨ ∃ (j : Nat) (a : DCl), j < i ∧ cs[j]? = some a ∧ dWho a = (w : Int) ∧ lst n w cs i = (if dEnd a < 0 then n else dEnd a) ∧ ∀ (k : Nat) b, j < k → k < i → cs[k]? = some b → dWho b ≠ (w : Int)
  | 0, _ => .inl ⟨rfl, fun j a hj => absurd hj (Nat.not_lt_zero _)⟩
  | i + 1, hi => by
    have hc : cs[i]? = some cs[i] := by simp
    rw [lst_succ hc]
    by_cases e : dWho cs[i] = (w : Int)
    · rw [if_pos e]
      exact .inr ⟨i, _, Nat.lt_succ_self i, hc, e, rfl, fun k b h1 h2 => by omega⟩
    · rw [if_neg e]
      rcases lst_char n w cs i (by omega) with ⟨h1, h2⟩ | ⟨j, a, h1, h2, h3, h4, h5⟩
      · refine .inl ⟨h1, fun j a hj ha => ?_⟩
        by_cases z : j = i
        · subst z; rw [hc] at ha; cases ha; exact e
        · exact h2 j a (by omega) ha
      · refine .inr ⟨j, a, by omega, h2, h3, h4, fun k b hk hk2 hb => ?_⟩
        by_cases z : k = i
        · subst z; rw [hc] at hb; cases hb; exact e
        · exact h5 k b hk (by omega) hb
theorem pk_flat {W : List Nat} {w a b : Nat} (hab : a ≤ b) (hb : b ≤ W.length) (h : ∀ m, a ≤ m → m < b → W[m]? ≠ some w) : pk W w b = pk W w a := by
  induction b with
  | zero => rw [show a = 0 from by omega]
  | succ b ih =>
    by_cases e : a = b + 1
    · rw [e]
    · have hx : W[b]? = some W[b] := by simp
      rw [pk_succ hx, if_neg, Nat.add_zero]
      · exact ih (by omega) (by omega) fun m h1 h2 => h m h1 (by omega)
      · intro z
        exact h b (by omega) (by omega) (by rw [hx, z])
theorem filter_get {α : Type} (P : α → Bool) {l : List α} {i : Nat} {c : α} (h : l[i]? = some c) (hp : P c = true) : (l.filter P)[((l.take i).filter P).length]? = some c := by
  obtain ⟨hi, rfl⟩ := List.getElem?_eq_some_iff.1 h
  have e : l = l.take i ++ l[i] :: l.drop (i + 1) := by
    rw [← List.drop_eq_getElem_cons hi, List.take_append_drop]
  have e2 : l.filter P = (l.take i).filter P ++ l[i] :: (l.drop (i + 1)).filter P := by
    conv => lhs; rw [e]
    rw [List.filter_append, List.filter_cons_of_pos hp]
  rw [e2, List.getElem?_append_right (Nat.le_refl _), Nat.sub_self]; rfl

variable {W : List Nat} {todos : List DTd} {thieves most : Int} {n : Nat} {p : PS}
theorem PF.lst_ok (h : PF W todos thieves most n p) {i : Nat} {c : DCl} (hc : p.calls[i]? = some c) {w : Nat} (hw : dWho c = (w : Int)) : lst n w p.calls i < dBeg c ∧ -1 ≤ lst n w p.calls i ∧ pk W w (dBeg c).toNat = pk W w (lst n w p.calls i + 1).toNat := by
  obtain ⟨v, b, q1, q2, q3, q4, q5, q6⟩ := h.hi.c1 i c hc
  have hi := (List.getElem?_eq_some_iff.1 hc).1
  have hwl := h.wl
  rw [q2, Int.toNat_natCast]
  have cov : ∀ m : Nat, m < b → W[m]? = some w → ∃ (j : Nat) (a : DCl), j < i ∧ p.calls[j]? = some a ∧ dWho a = dWho c ∧ (m : Int) ≤ dEnd a := fun m hm hW => h.hi.cov i m c hc (by omega) (by rw [hw, Int.toNat_natCast]; exact hW)
  rcases lst_char n w p.calls i (by omega) with ⟨h1, h2⟩ | ⟨j, a, h1, h2, h3, h4, h5⟩
  · rw [h1]
    refine ⟨by omega, by omega, pk_flat (by omega) (by omega) fun m _ hm hW => ?_⟩
    obtain ⟨j, a, z1, z2, z3, _⟩ := cov m hm hW
    exact h2 j a z1 z2 (by rw [z3, hw])
  · have hs := h.hi.seq j i a c h1 h2 hc (by rw [h3, hw])
    rcases h.hi.c2 j a h2 with ⟨z, _⟩ | ⟨e, y1, y2, y3, y4, y5, y6⟩
    · exact absurd z hs.1
    · rw [if_neg (by omega)] at h4
      rw [h4, y1]
      refine ⟨by omega, by omega, ?_⟩
      have : ((e : Int) + 1).toNat = e + 1 := by omega
      rw [this]
      refine pk_flat (by omega) (by omega) fun m hm1 hm hW => ?_
      obtain ⟨k, x, z1, z2, z3, z4⟩ := cov m hm hW
      rcases Nat.lt_trichotomy k j with lt | eq | gt
      · have s2 := h.hi.seq k j x a lt z2 h2 (by rw [z3, hw, h3])
        omega
      · subst eq
        rw [h2] at z2; cases z2
        omega
      · exact h5 k x gt z1 z2 (by rw [z3, hw])
theorem PF.own_ask (h : PF W todos thieves most n p) {i : Nat} {c : DCl} (hc : p.calls[i]? = some c) (hw : dWho c = 0) : ∃ t, todos[nOf 0 (p.calls.take i)]? = some t ∧ dKind c = t.1 ∧ (t.1 = 0 → dArg c = t.2.1) := by
  obtain ⟨dn, d1, d2⟩ := h.hi.tds
  have g := filter_get ownC hc (decide_eq_true hw)
  have g2 : ((p.calls.filter ownC).map (fun c => (dKind c, dArg c)))[nOf 0 (p.calls.take i)]? = some (dKind c, dArg c) := by
    rw [List.getElem?_map]
    show ((p.calls.filter ownC)[((p.calls.take i).filter ownC).length]?).map _ = _
    rw [g]; rfl
  rw [d2, List.getElem?_map] at g2
  cases e : dn[nOf 0 (p.calls.take i)]? with
  | none => rw [e] at g2; cases g2
  | some t =>
    rw [e] at g2
    have g3 : askOf t = (dKind c, dArg c) := Option.some.inj g2
    refine ⟨t, by rw [d1, List.getElem?_append_left (List.getElem?_eq_some_iff.1 e).1]; exact e, (congrArg (·.1) g3).symm, fun k => ?_⟩
    have := congrArg (·.2) g3
    unfold askOf at this
    rw [if_pos k] at this
    exact this.symm
theorem PF.own_all (h : PF W todos thieves most n p) (e : p.todos = []) : nOf 0 p.calls = todos.length := by
  obtain ⟨dn, d1, d2⟩ := h.hi.tds
  rw [e, List.append_nil] at d1
  have := congrArg List.length d2
  rw [List.length_map, List.length_map, ← d1] at this
  exact this
theorem PF.own_cnt (h : PF W todos thieves most n p) : (pk W 0 n : Int) ≤ 15 * (nOf 0 p.calls : Int) ∨ nOf 0 p.calls = todos.length := by
  obtain ⟨a, b⟩ := h.own15
  obtain ⟨idl, i1, i2, i3⟩ := h.ai.o1
  by_cases e : 0 < idl
  · exact .inr (h.own_all (i3 e).1)
  · exact .inl (by omega)
theorem PF.th_cnt (h : PF W todos thieves most n p) {w : Nat} (w0 : w ≠ 0) (hw : w < p.acts.length) : (pk W w n : Int) + 5 < 6 * (nOf w p.calls : Int) + 6 := by
  have s3 := h.ai.s3 w w0 hw
  obtain ⟨n1, n2⟩ := nOf_T w p.calls
  unfold stp at s3
  by_cases r : 0 ≤ (p.act w).2
  · rw [if_pos r] at s3
    obtain ⟨c, z1, z2, z3, z4, z5⟩ := h.ai.s0 w hw r
    have pc : (p.act w).1.pc ≠ 0 := fun e => by have := (h.pi.run w hw).2 e; omega
    have := th_steps (h.pi.th w (by omega) hw) (h.pi.kind w (by omega) hw pc) pc 0
    have := n2 c (List.mem_of_getElem? z1) z2 z3
    omega
  · rw [if_neg r] at s3; omega
/-- The first call of the owner, if it is a push, ends Pushed. -/
theorem PF.first (h : PF W todos thieves most n p) {i : Nat} {c : DCl} (hc : p.calls[i]? = some c) (hw : dWho c = 0) (h0 : nOf 0 (p.calls.take i) = 0) (hk : dKind c = 0) (he : 0 ≤ dEnd c) : dCode c = 2 := by
  rcases h.fi i c hc hw hk (by omega) with z | ⟨_, j, a, z2, z3, z4⟩
  · exact z
  · exfalso
    unfold nOf at h0
    have : a ∈ (p.calls.take i).filter (fun c => decide (dWho c = ((0 : Nat) : Int))) := List.mem_filter.2 ⟨List.mem_of_getElem? (i := j) (by rw [List.getElem?_take]; rw [if_pos z2]; exact z3), decide_eq_true z4⟩
    rw [List.length_eq_zero_iff.1 h0] at this
    cases this

end Go.Mx
