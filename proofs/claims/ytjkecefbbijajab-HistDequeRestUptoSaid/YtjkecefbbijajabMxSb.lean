/-
  The CASes of a play: the plain part of DequeRace.
-/
import Derived.Test.YtjkecefbbijajabMxSa
set_option linter.unusedVariables false
set_option linter.unusedSimpArgs false
set_option linter.unusedSectionVars false
namespace Go.Mx

/-- What one who reads the ledger knows of TOP. -/
structure RSt where
  lc : Int
  top : Int
  ri : Int
  rd : Nat → Int
def rstep (i : Nat) (s : RSt) (e : Acc) : RSt :=
  if aAddr e ≠ 0 ∨ aKind e = 4 then s
  else if aKind e = 0 then { s with rd := fun j => if (j : Int) = aWho e then (i : Int) else s.rd j }
  else if aOk e = true then { s with lc := (i : Int), top := s.top + 1, ri := s.ri + 1 }
  else s
def rsN (lg : List Acc) : Nat → RSt
  | 0 => ⟨-1, 0, 0, fun _ => 0⟩
  | i + 1 => match lg[i]? with
    | some e => rstep i (rsN lg i) e
    | none => rsN lg i
theorem rsN_succ {lg : List Acc} {i : Nat} {e : Acc} (h : lg[i]? = some e) : rsN lg (i + 1) = rstep i (rsN lg i) e := by
  show (match lg[i]? with | some e => rstep i (rsN lg i) e | none => rsN lg i) = _
  rw [h]
theorem rsN_app (lg : List Acc) (e : Acc) : ∀ i, i ≤ lg.length → rsN (lg ++ [e]) i = rsN lg i
  | 0, _ => rfl
  | i + 1, h => by
    have hx : lg[i]? = some lg[i] := by simp
    rw [rsN_succ hx, rsN_succ (lg := lg ++ [e]) (i := i) (e := lg[i]) (by rw [List.getElem?_append_left (by omega)]; exact hx), rsN_app lg e i (by omega)]
theorem rsN_snoc (lg : List Acc) (e : Acc) : rsN (lg ++ [e]) (lg.length + 1) = rstep lg.length (rsN lg lg.length) e := by
  rw [rsN_succ (e := e) (by rw [List.getElem?_append_right (Nat.le_refl _), Nat.sub_self]; rfl), rsN_app lg e _ (Nat.le_refl _)]
/-- What DequeRace asks of an access. -/
def rok (thieves : Int) (lg : List Acc) (s : RSt) (e : Acc) : Prop := (0 ≤ aWho e ∧ aWho e ≤ thieves) ∧ ((aAddr e ≠ 0 ∨ aKind e = 4) ∨ (aAddr e = 0 ∧ aKind e = 0 ∧ aX e = s.top) ∨
  (aAddr e = 0 ∧ aKind e = 2 ∧ aY e = aX e + 1 ∧ 0 ≤ aX e ∧ aX e ≤ 1000000000 ∧ ((aOk e = true ∧ aX e = s.top) ∨ (aOk e = false ∧ s.rd (aWho e).toNat ≤ s.lc ∧ 0 ≤ s.lc ∧ aX e < s.top ∧ ∃ l, lg[s.lc.toNat]? = some l ∧ aWho l ≠ aWho e))))
def LOK (thieves : Int) (lg : List Acc) : Prop := ∀ (i : Nat) e, lg[i]? = some e → rok thieves lg (rsN lg i) e
theorem LOK.snoc {thieves : Int} {lg : List Acc} {e : Acc} (h : LOK thieves lg) (he : rok thieves lg (rsN lg lg.length) e) : LOK thieves (lg ++ [e]) := by
  have keep : ∀ {s : RSt} {x : Acc}, rok thieves lg s x → rok thieves (lg ++ [e]) s x := fun {s x} hx => by
    obtain ⟨h1, h2 | h2 | ⟨a1, a2, a3, a4, a5, a6⟩⟩ := hx
    · exact ⟨h1, .inl h2⟩
    · exact ⟨h1, .inr (.inl h2)⟩
    · refine ⟨h1, .inr (.inr ⟨a1, a2, a3, a4, a5, a6.imp id fun ⟨b1, b2, b3, b4, l, b5, b6⟩ => ⟨b1, b2, b3, b4, l, ?_, b6⟩⟩)⟩
      rw [List.getElem?_append_left (List.getElem?_eq_some_iff.1 b5).1]; exact b5
  intro i x hx
  rcases Nat.lt_trichotomy i lg.length with z | z | z
  · rw [List.getElem?_append_left z] at hx
    rw [rsN_app lg e i (by omega)]
    exact keep (h i x hx)
  · subst z
    rw [List.getElem?_append_right (Nat.le_refl _), Nat.sub_self] at hx
    have : e = x := Option.some.inj hx
    subst this
    rw [rsN_app lg e _ (Nat.le_refl _)]
    exact keep he
  · rw [List.getElem?_eq_none (by simp; omega)] at hx; cases hx

/-- A machine has TOP in its hand, and may store by it. -/
def hasT (o : DOp) : Prop := (o.kind = 3 ∧ (o.pc = 1 ∨ o.pc = 3 ∨ o.pc = 4 ∨ o.pc = 12 ∨ o.pc = 13)) ∨ (o.kind = 2 ∧ (o.pc = 4 ∨ o.pc = 12 ∨ o.pc = 13))
theorem hasT_after {o : DOp} {v : Int} (p2 : o.pc ≠ 2) (h : hasT (o.after v)) : hasT o ∧ o.pc ≠ 13 ∧ (o.after v).t = o.t := by
  revert h
  have leaf : ∀ x : DOp, x.kind = o.kind → ¬ hasT x → (hasT x → hasT o ∧ o.pc ≠ 13 ∧ x.t = o.t) := fun x _ h q => absurd q h
  have nh : ∀ x : DOp, (x.kind = 1 ∨ x.pc = 0 ∨ x.pc = 11) → ¬ hasT x := fun x h q => by unfold hasT at q; omega
  unfold DOp.after
  refine pif (P := fun x : DOp => hasT x → hasT o ∧ o.pc ≠ 13 ∧ x.t = o.t) (fun k => ?_) fun k => pif (P := fun x : DOp => hasT x → hasT o ∧ o.pc ≠ 13 ∧ x.t = o.t) (fun k2 => ?_) fun k2 => pif (P := fun x : DOp => hasT x → hasT o ∧ o.pc ≠ 13 ∧ x.t = o.t) (fun k3 => ?_) fun k3 => ?_
  · intro q
    have := (o.after_same v).1
    have e : (o.after v) = o.pushed v := by unfold DOp.after; rw [if_pos k]
    rw [e] at this
    exact absurd q (nh _ (.inl (by omega)))
  · unfold DOp.popped
    refine pif (P := fun x : DOp => hasT x → hasT o ∧ o.pc ≠ 13 ∧ x.t = o.t) (fun q => ?_) fun q => pif (P := fun x : DOp => hasT x → hasT o ∧ o.pc ≠ 13 ∧ x.t = o.t) (fun q2 => ?_) fun q2 => pif (P := fun x : DOp => hasT x → hasT o ∧ o.pc ≠ 13 ∧ x.t = o.t) (fun q3 => ?_) fun q3 => pif (P := fun x : DOp => hasT x → hasT o ∧ o.pc ≠ 13 ∧ x.t = o.t) (fun q4 => ?_) fun q4 =>
      pif (P := fun x : DOp => hasT x → hasT o ∧ o.pc ≠ 13 ∧ x.t = o.t) (fun q5 => ?_) fun q5 => pif (P := fun x : DOp => hasT x → hasT o ∧ o.pc ≠ 13 ∧ x.t = o.t) (fun q6 => ?_) fun q6 => pif (P := fun x : DOp => hasT x → hasT o ∧ o.pc ≠ 13 ∧ x.t = o.t) (fun q7 => ?_) fun q7 => ?_
    · intro h; unfold hasT at h; dsimp only at h; omega
    · intro h; unfold hasT at h; dsimp only at h; omega
    · refine pif (P := fun x : DOp => hasT x → hasT o ∧ o.pc ≠ 13 ∧ x.t = o.t) (fun _ => ?_) fun _ => pif (P := fun x : DOp => hasT x → hasT o ∧ o.pc ≠ 13 ∧ x.t = o.t) (fun _ h => absurd h (nh _ (.inr (.inl rfl)))) fun _ h => absurd h (nh _ (.inr (.inl rfl)))
      intro h; unfold hasT at h; dsimp only at h; omega
    · exact absurd q4 p2
    · exact pif (P := fun x : DOp => hasT x → hasT o ∧ o.pc ≠ 13 ∧ x.t = o.t) (fun _ h => absurd h (nh _ (.inr (.inl rfl)))) fun _ _ => ⟨.inr ⟨k2, by omega⟩, by omega, rfl⟩
    · exact pif (P := fun x : DOp => hasT x → hasT o ∧ o.pc ≠ 13 ∧ x.t = o.t) (fun _ h => absurd h (nh _ (.inr (.inl rfl)))) fun _ _ => ⟨.inr ⟨k2, by omega⟩, by omega, rfl⟩
    · intro h; unfold hasT at h; dsimp only at h; omega
    · intro h; exact ⟨h, q7, rfl⟩
  · unfold DOp.stolen
    refine pif (P := fun x : DOp => hasT x → hasT o ∧ o.pc ≠ 13 ∧ x.t = o.t) (fun q => absurd q p2) fun q => pif (P := fun x : DOp => hasT x → hasT o ∧ o.pc ≠ 13 ∧ x.t = o.t) (fun q2 => ?_) fun q2 => pif (P := fun x : DOp => hasT x → hasT o ∧ o.pc ≠ 13 ∧ x.t = o.t) (fun q3 => ?_) fun q3 => pif (P := fun x : DOp => hasT x → hasT o ∧ o.pc ≠ 13 ∧ x.t = o.t) (fun q4 => ?_) fun q4 =>
      pif (P := fun x : DOp => hasT x → hasT o ∧ o.pc ≠ 13 ∧ x.t = o.t) (fun q5 => ?_) fun q5 => pif (P := fun x : DOp => hasT x → hasT o ∧ o.pc ≠ 13 ∧ x.t = o.t) (fun q6 => ?_) fun q6 => ?_
    · exact pif (P := fun x : DOp => hasT x → hasT o ∧ o.pc ≠ 13 ∧ x.t = o.t) (fun _ h => absurd h (nh _ (.inr (.inl rfl)))) fun _ _ => ⟨.inl ⟨k3, by omega⟩, by omega, rfl⟩
    · intro _; exact ⟨.inl ⟨k3, by omega⟩, by omega, rfl⟩
    · exact pif (P := fun x : DOp => hasT x → hasT o ∧ o.pc ≠ 13 ∧ x.t = o.t) (fun _ h => absurd h (nh _ (.inr (.inl rfl)))) fun _ _ => ⟨.inl ⟨k3, by omega⟩, by omega, rfl⟩
    · intro _; exact ⟨.inl ⟨k3, by omega⟩, by omega, rfl⟩
    · exact pif (P := fun x : DOp => hasT x → hasT o ∧ o.pc ≠ 13 ∧ x.t = o.t) (fun _ h => absurd h (nh _ (.inr (.inl rfl)))) fun _ h => absurd h (nh _ (.inr (.inl rfl)))
    · intro h; exact ⟨h, q6, rfl⟩
  · intro q
    have := (o.after_same v).1
    have e : (o.after v) = o.looked v := by unfold DOp.after; rw [if_neg k, if_neg k2, if_neg k3]
    rw [e] at this
    unfold hasT at q; omega
theorem after_t2 {o : DOp} {v : Int} (p2 : o.pc = 2) (h : hasT (o.after v)) : (o.after v).t = v := by
  revert h
  unfold DOp.after
  refine pif (P := fun x : DOp => hasT x → x.t = v) (fun k => ?_) fun k => pif (P := fun x : DOp => hasT x → x.t = v) (fun k2 => ?_) fun k2 => pif (P := fun x : DOp => hasT x → x.t = v) (fun k3 => ?_) fun k3 => ?_
  · unfold DOp.pushed; rw [if_neg (by omega), if_pos p2]; intro _; rfl
  · unfold DOp.popped
    rw [if_neg (by omega), if_neg (by omega), if_neg (by omega), if_pos p2]
    exact pif (P := fun x : DOp => hasT x → x.t = v) (fun _ _ => rfl) fun _ _ => rfl
  · unfold DOp.stolen; rw [if_pos p2]; intro _; rfl
  · unfold DOp.looked; rw [if_pos p2]; intro _; rfl

def fS (c : DCl) : Int := if 0 < dWho c ∧ dCode c = 4 then 1 else 0
structure RI (thieves : Int) (p : PS) : Prop where
  ok : LOK thieves p.m.lg
  top : (rsN p.m.lg p.m.lg.length).top = gt p.m.cs 0
  lc : (rsN p.m.lg p.m.lg.length).lc < (p.m.lg.length : Int)
  rd : ∀ j, (rsN p.m.lg p.m.lg.length).rd j ≤ (p.m.lg.length : Int) ∧ 0 ≤ (rsN p.m.lg p.m.lg.length).rd j
  hs : ∀ j, j < p.acts.length → hasT (p.act j).1 → 0 ≤ (p.act j).1.t ∧ (p.act j).1.t ≤ gt p.m.cs 0 ∧ ((p.act j).1.t < gt p.m.cs 0 → (rsN p.m.lg p.m.lg.length).rd j ≤ (rsN p.m.lg p.m.lg.length).lc ∧ ∃ l, p.m.lg[(rsN p.m.lg p.m.lg.length).lc.toNat]? = some l ∧ aWho l ≠ (j : Int))
  ri : wsum fS p.calls ≤ (rsN p.m.lg p.m.lg.length).ri
  bd : (rsN p.m.lg p.m.lg.length).ri ≤ (p.m.lg.length : Int) ∧ 0 ≤ (rsN p.m.lg p.m.lg.length).ri ∧ (rsN p.m.lg p.m.lg.length).top ≤ (p.m.lg.length : Int)
end Go.Mx
