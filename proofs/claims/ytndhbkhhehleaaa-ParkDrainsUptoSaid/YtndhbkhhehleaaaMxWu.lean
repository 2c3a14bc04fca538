/-
  A park play: once all are told that all is done, each sleeper halts.
-/
import Derived.Test.YtndhbkhhehleaaaMxWt
set_option linter.unusedVariables false
set_option linter.unusedSimpArgs false
set_option linter.unusedSectionVars false
namespace Go.Mx

theorem park_runW {first most : Int} {P : Nat} (W : Nat → Prop) (Inv : List Nat → PkS → Prop) : ∀ (ws vs : List Nat) {s : PkS} {N : Int}, PkI first most P s N → Inv vs s → N + (ws.length : Int) ≤ 1000000000 → (∀ w ∈ ws, w < P ∧ W w) →
    (∀ (vs : List Nat) (w : Nat) (s s' : PkS) (N : Int), w < P → W w → PkI first most P s N → Inv vs s → PkI first most P s' (N + 1) → PickR first most P N s w s' → Inv (vs ++ [w]) s') →
    ∃ s', s'.g = s.g.run (P : Int) (dsP first most P) ws ∧ PkI first most P s' (N + (ws.length : Int)) ∧ Inv (vs ++ ws) s'
  | [], vs, s, N, I, h, _, _, _ => ⟨s, rfl, by show PkI first most P s (N + 0); rw [Int.add_zero]; exact I, by rw [List.append_nil]; exact h⟩
  | w :: ws, vs, s, N, I, h, hN, hw, hs => by
    have hl : ((w :: ws).length : Int) = (ws.length : Int) + 1 := by simp
    obtain ⟨w1, w2⟩ := hw w (by simp)
    obtain ⟨s1, I1, e1, R⟩ := I.pick (by omega) w1
    obtain ⟨s', e', I', h'⟩ := park_runW W Inv ws (vs ++ [w]) I1 (hs vs w s s1 N w1 w2 I h I1 R) (by omega) (fun x hx => hw x (by simp [hx])) hs
    refine ⟨s', by rw [e', e1]; rfl, ?_, ?_⟩
    · rw [hl, show N + ((ws.length : Int) + 1) = N + 1 + (ws.length : Int) from by omega]; exact I'
    · rw [List.append_assoc] at h'
      exact h'
theorem PkI.lookk {first most : Int} {P : Nat} {s : PkS} {N : Int} (I : PkI first most P s N) {i : Nat} (a : 1 ≤ i) (b : i < P) {k t : Int} {q : Bool} (e : s.sm i = .look k q t) : 1 ≤ k ∧ k < (P : Int) := by
  have sl := I.sl i a b
  rw [e] at sl
  obtain ⟨_, _, _, _, r, R, _, hw', _, hk, k1, h⟩ := sl
  exact ⟨k1, by rw [← hk, ← hw']; exact R.lk (by omega)⟩
def hushed : SM → Prop
  | .look _ _ _ => True
  | .park => True
  | .back false => True
  | _ => False
def WM.lim (P : Nat) : WM → Int
  | .fc k => k
  | .fu k => k + 1
  | _ => P
def HaltI (P : Nat) (s : PkS) : Prop := DNc s = 1 → ∀ i : Nat, 1 ≤ i → i < P → (i : Int) < s.wm.lim P → hushed (s.sm i) → FLc s (i : Int) = 0
section
variable {P : Nat} {s s' : PkS}
def hme (P : Nat) (m : SM) (th : DOp) : Int := match m with
  | .idle => 5
  | .on => 5
  | .cnt => 4
  | .ask => 3
  | .back true => 2
  | .less true => 1
  | .halt => 0
  | .pend => 11
  | .steal => 11 - stepsOf th
  | .park => 12
  | .less false => 12
  | .back false => 12
  | .look k b _ => 2 * ((P : Int) - k) - (if b = true then 1 else 0) + 12
theorem stepsOf3 {th : DOp} (k : th.kind = 3) : 0 ≤ stepsOf th ∧ stepsOf th ≤ 5 := by
  unfold stepsOf
  rw [if_pos k]
  repeat' split
  all_goals omega
structure Hal3 (P : Nat) (vs : List Nat) (s : PkS) : Prop where
  wm : s.wm = .idle
  td : s.g.todos = []
  dn : DNc s = 1
  fl : FlagI P s
  ha : HaltI P s
  me : ∀ i, 1 ≤ i → i < P → hme P (s.sm i) (s.th i) = 0 ∨ hme P (s.sm i) (s.th i) + (vs.count i : Int) ≤ 2 * (P : Int) + 10
end
end Go.Mx
