/-
  The reference's memory and machine: a step.
-/
import Derived.Test.YtndhbkhhehleaaaMxUb
import Derived.Test.YtndhbkhhehleaaaMxQc
set_option linter.unusedVariables false
set_option linter.unusedSimpArgs false
set_option linter.unusedSectionVars false
namespace Go.Mx

/-- The reference's memory. -/
def RMem (h0 : Heap) (b : Nat) (s : AS) (S : Nat → Prop) (h : Heap) : Prop := s.wt = true ∧ ∃ c l, S = fpA b c l ∧ MmS h0 h b c l s.sz s.cs s.lg s.who
theorem RMem.le {h0 b s S h} (R : RMem h0 b s S h) : Go.Mx.le h0 h := by obtain ⟨_, c, l, _, o⟩ := R; exact o.le
theorem RMem.live {h0 b s S h} (R : RMem h0 b s S h) {x : Nat} (hx : S x) : h x ≠ none := by obtain ⟨_, c, l, rfl, o⟩ := R; exact o.live hx
theorem RMem.fresh {h0 b s S h} (R : RMem h0 b s S h) {x : Nat} (hx : S x) : h0 x = none := by obtain ⟨_, c, l, rfl, o⟩ := R; exact o.fresh hx
theorem RMem.ext {h0 b s S h h'} (R : RMem h0 b s S h) {T : Nat → Prop} (e : Ext T h h') (n : ∀ x, S x → ¬ T x) (f : ∀ x, T x → h0 x = none) : RMem h0 b s S h' := by
  obtain ⟨w, c, l, rfl, o⟩ := R; exact ⟨w, c, l, rfl, o.ext e n f⟩
def MDoC (c : Option Addr → Wn → Heap → ((Int × (Bool × Unit)) → Heap → Prop) → Prop) : Prop := ∀ {h0 h : Heap} {b : Nat} {s : AS} {S : Nat → Prop} {r : Rq} {Q : (Int × (Bool × Unit)) → Heap → Prop}, RMem h0 b s S h → s.lg.length ≤ 1000000000 → (s.cs.length : Int) ≤ s.sz → s.sz ≤ 1048576 →
  (∀ S' h', RMem h0 b (arenaI s r).2 S' h' → Step S S' h h' → Q ((arenaI s r).1.getD 0, ((arenaI s r).1.isSome, ())) h') → c (some (ptr b)) r.want h Q

/-! ### a machine -/
def startK (kind base most v : Int) : DOp := if kind = 0 then ⟨1, 1, base, most, v, 0, 0, 0, 0, 0, 0, 0, 0, false, 0, 0⟩ else if kind = 1 then ⟨2, 1, base, most, v, 0, 0, 0, 0, 0, 0, 0, 0, false, 0, 0⟩ else if kind = 2 then ⟨3, 2, base, most, v, 0, 0, 0, 0, 0, 0, 0, 0, false, 0, 0⟩ else ⟨4, 2, base, most, v, 0, 0, 0, 0, 0, 0, 0, 0, false, 0, 0⟩
structure RunO (kind base most v : Int) (hs : List Int) (o : DOp) : Prop where
  k0 : 0 ≤ kind
  k3 : kind ≤ 3
  m1 : 1 ≤ most
  m2 : most ≤ 4096
  bs : w64 base = base
  rg : kind = 0 → ∀ i, i < 2 → w64 (hs.getD i 0) = hs.getD i 0
  st : ∃ v', (kind = 0 → v' = v) ∧ o = runH (startK kind base most v') hs ∧ LiveH (startK kind base most v') hs
/-- The reference's machine is the program's. -/
def RelO (kind base most v : Int) (hs : List Int) (dead : Bool) (o : DOp) : Prop :=
  (dead = true ∧ o.want = wEnd 1 0) ∨ (dead = false ∧ (kind = 4 ∨ most < 1 ∨ 4096 < most) ∧ o = DOp.zero) ∨ (dead = false ∧ RunO kind base most v hs o)
def nextR (kind base most v : Int) (hs : List Int) : Wn := if kind = 0 then pushR base most v hs else if kind = 1 then popR base hs else if kind = 2 then stealR base hs else lookR base hs
theorem RunO.want {kind base most v : Int} {hs : List Int} {o : DOp} (R : RunO kind base most v hs o) (hl : hs.length ≤ 1000000000) : o.want = nextR kind base most v hs := by
  obtain ⟨k0, k3, m1, m2, bs, rg, v', hv, rfl, l⟩ := R
  unfold nextR
  unfold startK at l ⊢
  by_cases e0 : kind = 0
  · rw [if_pos e0] at l ⊢
    rw [if_pos e0, ← hv e0]
    exact push_want m1 m2 (by omega) (fun _ => ⟨rg e0 0 (by decide), rg e0 1 (by decide)⟩) bs l
  rw [if_neg e0] at l ⊢
  rw [if_neg e0]
  by_cases e1 : kind = 1
  · rw [if_pos e1] at l ⊢
    rw [if_pos e1]
    exact pop_want bs l
  rw [if_neg e1] at l ⊢
  rw [if_neg e1]
  by_cases e2 : kind = 2
  · rw [if_pos e2] at l ⊢
    rw [if_pos e2]
    exact steal_want bs l
  rw [if_neg e2] at l ⊢
  rw [if_neg e2]
  exact look_want bs l
abbrev KRo : Kd := .pair ki (.pair KP2 (.pair ki (.pair .sl (.pair .bool .nil))))
def ropD (kind base most v : Int) (s : Sl) (dead : Bool) : Den KRo := (kind, ((base, (most, ())), (v, (s, (dead, ())))))
def RNextC (c : Den KRo → Heap → (Wn → Heap → Prop) → Prop) : Prop := ∀ {kind base most v : Int} {s : Sl} {dead : Bool} {h : Heap} {hs : List Int} {o : DOp} {Q : Wn → Heap → Prop}, Arr h ki s hs → hs.length ≤ 1000000000 → RelO kind base most v hs dead o → Q o.want h → c (ropD kind base most v s dead) h Q
theorem Rq.want_pos (r : Rq) : ¬ ((r.want.1 : Int) < 0) := by
  cases r
  · exact (by decide : ¬ (0 : Int) < 0)
  · exact (by decide : ¬ (1 : Int) < 0)
  · exact (by decide : ¬ (2 : Int) < 0)
  · exact (by decide : ¬ (4 : Int) < 0)
theorem want_dcase (o : DOp) : (o.want.1 < (0 : Int) ∧ (∀ (s : AS), stepD arenaI s o = (s, o))) ∨ (o ≠ DOp.zero ∧ o.pc ≠ 0 ∧ o.want = o.req.want) := by
  by_cases e : o = DOp.zero
  · refine .inl ⟨?_, fun s => ?_⟩
    · unfold DOp.want; rw [if_pos e]; decide
    · unfold stepD; rw [if_pos e]
  · by_cases p : o.pc = 0
    · refine .inl ⟨?_, fun s => ?_⟩
      · unfold DOp.want; rw [if_neg e, if_pos p]; exact (by decide : (-1 : Int) < 0)
      · unfold stepD; rw [if_neg e, if_pos p]
    · refine .inr ⟨e, p, ?_⟩
      unfold DOp.want; rw [if_neg e, if_neg p]
theorem start_kind {kind base most v : Int} : (startK kind base most v).kind ≠ 0 := by
  unfold startK
  refine pif (P := fun o : DOp => o.kind ≠ 0) (fun _ => by simp) fun _ => pif (P := fun o : DOp => o.kind ≠ 0) (fun _ => by simp) fun _ => pif (P := fun o : DOp => o.kind ≠ 0) (fun _ => by simp) fun _ => by simp
theorem runH_kind : ∀ (h : List Int) (o : DOp), (runH o h).kind = o.kind
  | [], o => rfl
  | x :: h, o => by rw [runH_cons, runH_kind h, (o.after_same x).1]
theorem RunO.kind {k base most v : Int} {hs : List Int} {o : DOp} (R : RunO k base most v hs o) : o.kind ≠ 0 := by
  obtain ⟨v', hv, rfl, l⟩ := R.st
  rw [runH_kind]; exact start_kind
theorem RunO.snoc {k base most v : Int} {hs : List Int} {o : DOp} (R : RunO k base most v hs o) (hp : o.pc ≠ 0) {g : Int} (hg : k = 0 → hs.length < 2 → w64 g = g) : RunO k base most v (hs ++ [g]) (o.after g) := by
  refine ⟨R.k0, R.k3, R.m1, R.m2, R.bs, fun hk i hi => ?_, ?_⟩
  · by_cases c : i < hs.length
    · have := R.rg hk i hi
      rw [List.getD_eq_getElem?_getD] at this ⊢
      rw [List.getElem?_append_left c]; exact this
    · by_cases d : i = hs.length
      · subst d
        rw [List.getD_eq_getElem?_getD, List.getElem?_append_right (Nat.le_refl _), Nat.sub_self]
        exact hg hk hi
      · rw [List.getD_eq_getElem?_getD, List.getElem?_eq_none (by rw [List.length_append, List.length_singleton]; omega)]
        rfl
  · obtain ⟨v', hv, e, l⟩ := R.st
    refine ⟨v', hv, ?_, ?_⟩
    · rw [runH_snoc, ← e]
    · rw [e] at hp
      exact l.snoc hp g
def RStepC (c : Option Addr → Den KRo → Heap → (Den KRo → Heap → Prop) → Prop) : Prop := ∀ {h0 h : Heap} {b : Nat} {m : AS} {S : Nat → Prop} {kind base most v : Int} {s : Sl} {dead : Bool} {hs : List Int} {o : DOp} {Q : Den KRo → Heap → Prop}, RMem h0 b m S h → m.lg.length ≤ 1000000000 → (m.cs.length : Int) ≤ m.sz → m.sz ≤ 1048576 →
  Arr h ki s hs → (∀ x, blkOf s x → h x ≠ none) → (∀ x, blkOf s x → ¬ S x) → hs.length ≤ 900000000 → RelO kind base most v hs dead o → (kind = 0 → hs.length < 2 → ∀ g, o.pc ≠ 0 → (arenaI m o.req).1 = some g → w64 g = g) →
  (∀ s' hs' dead' S' h', RMem h0 b (stepD arenaI m o).1 S' h' → Step S S' h h' → Arr h' ki s' hs' → (∀ x, blkOf s' x → h' x ≠ none) → (∀ x, blkOf s' x → blkOf s x ∨ h x = none) → (∀ x, blkOf s' x → ¬ S' x) → hs'.length ≤ hs.length + 1 → RelO kind base most v hs' dead' (stepD arenaI m o).2 → Q (ropD kind base most v s' dead') h') → c (some (ptr b)) (ropD kind base most v s dead) h Q
def RAnsC (c : Den KRo → Heap → (Den KP2 → Heap → Prop) → Prop) : Prop := ∀ {kind base most v : Int} {s : Sl} {dead : Bool} {h : Heap} {hs : List Int} {o : DOp} {Q : Den KP2 → Heap → Prop}, Arr h ki s hs → hs.length ≤ 1000000000 → RelO kind base most v hs dead o → Q (o.answer.1, (o.answer.2, ())) h → c (ropD kind base most v s dead) h Q
end Go.Mx
