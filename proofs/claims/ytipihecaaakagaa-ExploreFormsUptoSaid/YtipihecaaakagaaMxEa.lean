/-
  ExploreDepends: both answers are the same.
-/
import Derived.Test.YtipihecaaakagaaMxT
import Derived.Test.YtipihecaaakagaaMd
set_option linter.unusedVariables false
set_option linter.unusedSimpArgs false
namespace Go.Mx

abbrev Sc := Den kapiScene
abbrev Ac := Den kapiAct
def Touch (size kind addr : Int) : Prop := 0 ≤ kind ∧ kind ≤ 3 ∧ 0 ≤ addr ∧ addr < size
def Give (kind a : Int) : Prop := kind = 4 ∧ 1 ≤ a
def DepI (size len kx ax vx ky ay vy : Int) : Prop :=
  (Give kx vx ∧ Give ky vy) ∨ (Give kx vx ∧ Touch size ky ay ∧ len ≤ ay) ∨ (Give ky vy ∧ Touch size kx ax ∧ len ≤ ax) ∨
  (Touch size kx ax ∧ Touch size ky ay ∧ ax = ay ∧ (kx ≠ 0 ∨ ky ≠ 0))
def Dep (s : Sc) (x y : Ac) : Prop := DepI s.1 (s.2.1.len : Int) x.2.1 x.2.2.1 x.2.2.2.1 y.2.1 y.2.2.1 y.2.2.2.1

theorem gives_spec {x : Ac} {h : Heap} {Q : Bool → Heap → Prop} (hQ : ∀ b : Bool, (b = true ↔ Give x.2.1 x.2.2.2.1) → Q b h) : explore_gives.M x h Q := by
  obtain ⟨who, kind, addr, v, w, u⟩ := x
  change Int at who kind addr v w
  have hQ : ∀ b : Bool, (b = true ↔ Give kind v) → Q b h := hQ
  unfold explore_gives.M
  unfold Give at hQ
  dsimp only [Den]
  repeat' (first | apply And.intro | intro e)
  all_goals (refine hQ _ ?_; clear hQ; simp only [decide_eq_true_eq, decide_eq_false_iff_not, Bool.false_eq_true, reduceCtorEq, false_iff, true_iff] at * <;> omega)

theorem touches_spec {s : Sc} {x : Ac} {h : Heap} {Q : Bool → Heap → Prop} (hQ : ∀ b : Bool, (b = true ↔ Touch s.1 x.2.1 x.2.2.1) → Q b h) : explore_touches.M s x h Q := by
  obtain ⟨size, bg, ls, u0⟩ := s
  obtain ⟨who, kind, addr, v, w, u⟩ := x
  change Int at who kind addr v w size
  have hQ : ∀ b : Bool, (b = true ↔ Touch size kind addr) → Q b h := hQ
  unfold explore_touches.M
  unfold Touch at hQ
  dsimp only [Den]
  repeat' (first | apply And.intro | intro e)
  all_goals (refine hQ _ ?_; clear hQ; simp only [decide_eq_true_eq, decide_eq_false_iff_not, Bool.false_eq_true, reduceCtorEq, false_iff, true_iff] at * <;> omega)

theorem depends_spec {s : Sc} {x y : Ac} {h : Heap} {c1 : Ac → Heap → (Bool → Heap → Prop) → Prop} {c2 : Sc → Ac → Heap → (Bool → Heap → Prop) → Prop} (i1 : ∀ {a h Q}, explore_gives.M a h Q → c1 a h Q) (i2 : ∀ {a b h Q}, explore_touches.M a b h Q → c2 a b h Q)
    {Q : Bool → Heap → Prop} (hQ : ∀ b : Bool, (b = true ↔ Dep s x y) → Q b h) : explore_Depends.M c1 c2 s x y h Q := by
  obtain ⟨size, bg, ls, u0⟩ := s
  obtain ⟨xw, kx, ax, vx, ww, u⟩ := x
  obtain ⟨yw, ky, ay, vy, w2, u2⟩ := y
  change Int at kx ax vx ky ay vy size
  have hQ : ∀ b : Bool, (b = true ↔ DepI size (bg.len : Int) kx ax vx ky ay vy) → Q b h := hQ
  unfold explore_Depends.M explore_Depends.j2 explore_Depends.j1
  dsimp only [Den]
  repeat' (first | apply And.intro | intro e | refine i1 (gives_spec fun b hb => ?_) | refine i2 (touches_spec fun b hb => ?_))
  all_goals (refine hQ _ ?_; clear hQ i1 i2; unfold DepI; unfold Give Touch at *; dsimp only [Den] at *; simp only [*, ne_eq, decide_eq_true_eq, decide_eq_false_iff_not, Bool.false_eq_true, reduceCtorEq, false_iff, true_iff] at * <;> omega)



theorem dep_iff {size len kx ax vx ky ay vy a b : Int} (ha : (Touch size kx ax ∧ a = ax) ∨ (¬ Touch size kx ax ∧ a = -1)) (hb : (Touch size ky ay ∧ b = ay) ∨ (¬ Touch size ky ay ∧ b = -1)) (hl : 0 ≤ len) :
    DepI size len kx ax vx ky ay vy ↔ (if 0 ≤ a ∧ a = b then kx ≠ 0 ∨ ky ≠ 0 else (Give kx vx ∧ Give ky vy) ∨ (Give kx vx ∧ len ≤ b ∧ 0 ≤ b) ∨ (Give ky vy ∧ len ≤ a ∧ 0 ≤ a)) := by
  have t1 : Touch size kx ax → 0 ≤ ax ∧ 0 ≤ kx ∧ kx ≤ 3 := fun h => ⟨h.2.2.1, h.1, h.2.1⟩
  have t2 : Touch size ky ay → 0 ≤ ay ∧ 0 ≤ ky ∧ ky ≤ 3 := fun h => ⟨h.2.2.1, h.1, h.2.1⟩
  have g1 : Give kx vx → kx = 4 := fun h => h.1
  have g2 : Give ky vy → ky = 4 := fun h => h.1
  unfold DepI
  generalize Touch size kx ax = X at *
  generalize Touch size ky ay = Y at *
  generalize Give kx vx = G at *
  generalize Give ky vy = H at *
  rcases ha with ⟨hX, rfl⟩ | ⟨hX, rfl⟩ <;> rcases hb with ⟨hY, rfl⟩ | ⟨hY, rfl⟩ <;> by_cases hG : G <;> by_cases hH : H <;> simp only [hX, hY, hG, hH, true_and, false_and, and_true, and_false, or_false, false_or, true_or, or_true, forall_const] at * <;> split <;> simp <;> omega


end Go.Mx
