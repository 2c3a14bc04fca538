/-
  Why calls answer as they do: the plain part of DequeWhy.
-/
import Derived.Test.YtjkecefbbijajaaMxSj
import Derived.Test.YtjkecefbbijajaaMxSb
set_option linter.unusedVariables false
set_option linter.unusedSimpArgs false
set_option linter.unusedSectionVars false
namespace Go.Mx

/-- Pick m is w's n-th from b on. -/
def NP (W : List Nat) (w b n m : Nat) : Prop := W[m]? = some w ∧ b ≤ m ∧ pk W w m = pk W w b + n
/-- What pick m's access is, in the ledger. -/
def En (S : Nat → PS) (m : Nat) (e : Acc) : Prop := (S (m + 1)).m.lg[(S m).m.lg.length]? = some e
def tA (S : Nat → PS) (m : Nat) : Int := gt (S m).m.cs 0
def bA (S : Nat → PS) (m : Nat) : Int := gt (S m).m.cs 1
structure YR (W : List Nat) (S : Nat → PS) (k w b : Nat) (o : DOp) : Prop where
  pu : o.kind = 1 → o.pc ≠ 0 → o.pc ≠ 1 → o.pc ≠ 2 → ∃ m, m < k ∧ NP W w b 1 m ∧ o.t = tA S m ∧ o.b = bA S m
  po : o.kind = 2 → (o.pc = 4 ∨ o.pc = 12 ∨ o.pc = 13 ∨ (o.pc = 11 ∧ o.i ≠ 0)) → ∃ m, m < k ∧ NP W w b 3 m ∧ o.t = tA S m ∧ o.b = bA S m
  pf : o.kind = 2 → o.pc = 11 → o.i ≠ 0 → o.t = o.b → ∃ (m : Nat) (e : Acc), m < k ∧ NP W w b 6 m ∧ En S m e ∧ aKind e = 2 ∧ aOk e = o.won
  st : o.kind = 3 → (o.pc = 3 ∨ o.pc = 4 ∨ o.pc = 12 ∨ o.pc = 13) → ∃ m, m < k ∧ NP W w b 1 m
structure WhyC (W : List Nat) (S : Nat → PS) (most : Int) (w b e : Nat) (kind code : Int) : Prop where
  k0 : kind = 0 → ∃ m, m ≤ e ∧ NP W w b 1 m ∧ ((code = 3 ∧ bA S m - tA S m = most) ∨ (code = 2 ∧ bA S m - tA S m ≠ most))
  k1 : kind = 1 → ∃ m, m ≤ e ∧ NP W w b 3 m ∧ ((bA S m < tA S m ∧ code = 5) ∨ (tA S m < bA S m ∧ code = 4 ∧ pk W w (e + 1) ≤ pk W w b + 6) ∨ (tA S m = bA S m ∧ ∃ (m6 : Nat) (x : Acc), m6 ≤ e ∧ NP W w b 6 m6 ∧ En S m6 x ∧ aKind x = 2 ∧ ((code = 4 ∧ aOk x = true) ∨ (code = 5 ∧ aOk x = false))))
  k2 : kind = 2 → ∃ m, m ≤ e ∧ NP W w b 1 m ∧ ((code = 5 ∧ bA S m ≤ tA S m) ∨ ∃ (m5 : Nat) (x : Acc), m5 ≤ e ∧ NP W w b 5 m5 ∧ En S m5 x ∧ aKind x = 2 ∧ ((code = 4 ∧ aOk x = true) ∨ (code = 6 ∧ aOk x = false)))
structure WI (W : List Nat) (S : Nat → PS) (most : Int) (k : Nat) (p : PS) : Prop where
  run : ∀ w c0, w < p.acts.length → 0 ≤ (p.act w).2 → p.calls[(p.act w).2.toNat]? = some c0 → YR W S k w (dBeg c0).toNat (p.act w).1
  fin : ∀ (i : Nat) c, p.calls[i]? = some c → dEnd c ≠ -1 → WhyC W S most (dWho c).toNat (dBeg c).toNat (dEnd c).toNat (dKind c) (dCode c)
theorem YR.later {W : List Nat} {S : Nat → PS} {k w b : Nat} {o : DOp} (h : YR W S k w b o) : YR W S (k + 1) w b o := by
  refine ⟨fun a b c d => ?_, fun a b => ?_, fun a b c d => ?_, fun a b => ?_⟩
  · obtain ⟨m, h1, h2⟩ := h.pu a b c d; exact ⟨m, by omega, h2⟩
  · obtain ⟨m, h1, h2⟩ := h.po a b; exact ⟨m, by omega, h2⟩
  · obtain ⟨m, e, h1, h2⟩ := h.pf a b c d; exact ⟨m, e, by omega, h2⟩
  · obtain ⟨m, h1, h2⟩ := h.st a b; exact ⟨m, by omega, h2⟩
theorem YR.fresh {W : List Nat} {S : Nat → PS} {k w b : Nat} {o : DOp} (h : o.pc = 1 ∨ o.pc = 2 ∧ o.kind ≠ 2) : YR W S k w b o := ⟨fun a b c d => by omega, fun a b => by omega, fun a b => by omega, fun a b => by omega⟩
theorem WI.pre {W : List Nat} {S : Nat → PS} {most : Int} {k : Nat} {p : PS} (h : WI W S most k p) {w : Nat} (hw : w < p.acts.length) {N : Int} (pi : PI most p N) {q : PS} (e : p.pre most (k : Int) w = some q) : WI W S most k q := by
  have m1 : 1 ≤ most := by have := pi.dg.c1; have := pi.dg.cm; omega
  have m2 := pi.dg.mx
  have h0 := pi.pos
  have mk : ∀ (i : Nat) (x : DOp) (y : DCl) (ts : List DTd), i < p.acts.length → (x.pc = 1 ∨ x.pc = 2 ∧ x.kind ≠ 2) → dEnd y = -1 → WI W S most k { p with todos := ts, acts := p.acts.set i (x, (p.calls.length : Int)), calls := p.calls ++ [y] } := fun i x y ts hi hx hy => by
    have e : ∀ j, ({ p with todos := ts, acts := p.acts.set i (x, (p.calls.length : Int)), calls := p.calls ++ [y] } : PS).act j = if j = i then (x, (p.calls.length : Int)) else p.act j := fun j => act_set (p := p) hi
    refine ⟨fun v c0 hv hr hc => ?_, fun j c hc he => ?_⟩
    · rw [e] at hr hc ⊢
      by_cases z : v = i
      · rw [if_pos z]; exact .fresh hx
      · rw [if_neg z] at hr hc ⊢
        have hv : v < p.acts.length := by have : v < (p.acts.set i (x, (p.calls.length : Int))).length := hv; rw [List.length_set] at this; exact this
        have hc : (p.calls ++ [y])[(p.act v).2.toNat]? = some c0 := hc
        rw [List.getElem?_append_left (by have := pi.call v hv; omega)] at hc
        exact h.run v c0 hv hr hc
    · rcases getElem?_snoc hc with ⟨_, hc⟩ | ⟨_, rfl⟩
      · exact h.fin j c hc he
      · exact absurd hy he
  cases pre_cases e with
  | on _ eq => subst eq; exact h
  | push w0 h1 t ts et k1 eq => subst eq; exact mk 0 _ _ ts h0 (.inl (by unfold DOp.push; rw [begin_eq m1 m2])) rfl
  | pop w0 h1 t ts et k1 eq => subst eq; exact mk 0 _ _ ts h0 (.inl (by unfold DOp.pop; rw [begin_eq m1 m2])) rfl
  | steal w0 h1 eq => subst eq; exact mk w _ _ p.todos hw (.inr (by unfold DOp.steal; rw [begin_eq m1 m2]; exact ⟨rfl, by show (3 : Int) ≠ 2; decide⟩)) rfl

/-- What a push keeps. -/
theorem push_after {o : DOp} {v : Int} (k : o.kind = 1) (p1 : o.pc ≠ 1) (p2 : o.pc ≠ 2) : (o.after v).t = o.t ∧ (o.after v).b = o.b := by
  unfold DOp.after
  rw [if_pos k]
  unfold DOp.pushed
  rw [if_neg p1, if_neg p2]
  have P : ∀ x : DOp, x.t = o.t ∧ x.b = o.b → x.t = o.t ∧ x.b = o.b := fun _ h => h
  refine pif (P := fun x : DOp => x.t = o.t ∧ x.b = o.b) (fun _ => ⟨rfl, rfl⟩) fun _ => pif (P := fun x : DOp => x.t = o.t ∧ x.b = o.b) (fun _ => ?_) fun _ => pif (P := fun x : DOp => x.t = o.t ∧ x.b = o.b) (fun _ => ⟨rfl, rfl⟩) fun _ => pif (P := fun x : DOp => x.t = o.t ∧ x.b = o.b) (fun _ => ⟨rfl, rfl⟩) fun _ => pif (P := fun x : DOp => x.t = o.t ∧ x.b = o.b) (fun _ => ⟨rfl, rfl⟩) fun _ =>
    pif (P := fun x : DOp => x.t = o.t ∧ x.b = o.b) (fun _ => pif (P := fun x : DOp => x.t = o.t ∧ x.b = o.b) (fun _ => ⟨rfl, rfl⟩) fun _ => ⟨rfl, rfl⟩) fun _ => pif (P := fun x : DOp => x.t = o.t ∧ x.b = o.b) (fun _ => ⟨rfl, rfl⟩) fun _ => pif (P := fun x : DOp => x.t = o.t ∧ x.b = o.b) (fun _ => ⟨rfl, rfl⟩) fun _ => pif (P := fun x : DOp => x.t = o.t ∧ x.b = o.b) (fun _ => ⟨rfl, rfl⟩) fun _ => ⟨rfl, rfl⟩
  exact pif (P := fun x : DOp => x.t = o.t ∧ x.b = o.b) (fun _ => ⟨rfl, rfl⟩) fun _ => pif (P := fun x : DOp => x.t = o.t ∧ x.b = o.b) (fun _ => ⟨rfl, rfl⟩) fun _ => pif (P := fun x : DOp => x.t = o.t ∧ x.b = o.b) (fun _ => ⟨rfl, rfl⟩) fun _ => ⟨rfl, rfl⟩
end Go.Mx
