/-
  ExploreDepends: both answers are the same.
-/
import Derived.Test.YtanfmmcpjifgiabMxT
import Derived.Test.YtanfmmcpjifgiabMd
set_option linter.unusedVariables false
set_option linter.unusedSimpArgs false
namespace Go.Mx

abbrev Sc := Den kapiScene
abbrev Ac := Den kapiAct
def Touch (size kind addr : Int) : Prop := 0 ≤ kind ∧ kind ≤ 3 ∧ 0 ≤ addr ∧ addr < size
def Give (kind a : Int) : Prop := kind = 4 ∧ 1 ≤ a
def DepI (size len kx ax vx ky ay vy : Int) : Prop :=
  (Give kx vx ∧ Give ky vy) ∨ (Give kx vx ∧ Touch size ky ay ∧ len ≤ ay) ∨ (Give ky vy ∧ Touch size kx ax ∧ len ≤ ax) ∨
  (Touch size kx ax ∧ Touch size ky ay ∧ ax = ay ∧ (kx ≠ 0 ∨ ky ≠ 0))
def Dep (s : Sc) (x y : Ac) : Prop := DepI s.1 (s.2.1.len : Int) x.2.1 x.2.2.1 x.2.2.2.1 y.2.1 y.2.2.1 y.2.2.2.1

theorem gives_spec {x : Ac} {h : Heap} {Q : Bool → Heap → Prop} (hQ : ∀ b : Bool, (b = true ↔ Give x.2.1 x.2.2.2.1) → Q b h) : explore_gives.M x h Q := by
  obtain ⟨who, kind, addr, v, w, u⟩ := x
  change Int at who kind addr v w
  have hQ : ∀ b : Bool, (b = true ↔ Give kind v) → Q b h := hQ
  unfold explore_gives.M
  unfold Give at hQ
  dsimp only [Den]
  repeat' (first | apply And.intro | intro e)
  all_goals (refine hQ _ ?_; clear hQ; simp only [decide_eq_true_eq, decide_eq_false_iff_not, Bool.false_eq_true, reduceCtorEq, false_iff, true_iff] at * <;> omega)

theorem touches_spec {s : Sc} {x : Ac} {h : Heap} {Q : Bool → Heap → Prop} (hQ : ∀ b : Bool, (b = true ↔ Touch s.1 x.2.1 x.2.2.1) → Q b h) : explore_touches.M s x h Q := by
  obtain ⟨size, bg, ls, u0⟩ := s
  obtain ⟨who, kind, addr, v, w, u⟩ := x
  change Int at who kind addr v w size
  have hQ : ∀ b : Bool, (b = true ↔ Touch size kind addr) → Q b h := hQ
  unfold explore_touches.M
  unfold Touch at hQ
  dsimp only [Den]
  repeat' (first | apply And.intro | intro e)
  all_goals (refine hQ _ ?_; clear hQ; simp only [decide_eq_true_eq, decide_eq_false_iff_not, Bool.false_eq_true, reduceCtorEq, false_iff, true_iff] at * <;> omega)

theorem depends_spec {s : Sc} {x y : Ac} {h : Heap} {c1 : Ac → Heap → (Bool → Heap → Prop) → Prop} {c2 : Sc → Ac → Heap → (Bool → Heap → Prop) → Prop} (i1 : ∀ {a h Q}, explore_gives.M a h Q → c1 a h Q) (i2 : ∀ {a b h Q}, explore_touches.M a b h Q → c2 a b h Q)
    {Q : Bool → Heap → Prop} (hQ : ∀ b : Bool, (b = true ↔ Dep s x y) → Q b h) : explore_Depends.M c1 c2 s x y h Q := by
  obtain ⟨size, bg, ls, u0⟩ := s
  obtain ⟨xw, kx, ax, vx, ww, u⟩ := x
  obtain ⟨yw, ky, ay, vy, w2, u2⟩ := y
  change Int at kx ax vx ky ay vy size
  have hQ : ∀ b : Bool, (b = true ↔ DepI size (bg.len : Int) kx ax vx ky ay vy) → Q b h := hQ
  unfold explore_Depends.M explore_Depends.j2 explore_Depends.j1
  dsimp only [Den]
  repeat' (first | apply And.intro | intro e | refine i1 (gives_spec fun b hb => ?_) | refine i2 (touches_spec fun b hb => ?_))
  all_goals (refine hQ _ ?_; clear hQ i1 i2; unfold DepI; unfold Give Touch at *; dsimp only [Den] at *; simp only [*, ne_eq, decide_eq_true_eq, decide_eq_false_iff_not, Bool.false_eq_true, reduceCtorEq, false_iff, true_iff] at * <;> omega)

theorem makes_spec {x : Ac} {h : Heap} {Q : Bool → Heap → Prop} (hQ : ∀ b : Bool, (b = true ↔ Give x.2.1 x.2.2.2.1) → Q b h) : ref22_makes.M x h Q := gives_spec hQ

theorem rcell_spec {s : Sc} {x : Ac} {h : Heap} {Q : Int → Heap → Prop} (hQ : ∀ v : Int, ((Touch s.1 x.2.1 x.2.2.1 ∧ v = x.2.2.1) ∨ (¬ Touch s.1 x.2.1 x.2.2.1 ∧ v = -1)) → Q v h) : ref22_cell.M s x h Q := by
  obtain ⟨size, bg, ls, u0⟩ := s
  obtain ⟨who, kind, addr, v, w, u⟩ := x
  change Int at who kind addr v w size
  have hQ : ∀ v : Int, ((Touch size kind addr ∧ v = addr) ∨ (¬ Touch size kind addr ∧ v = -1)) → Q v h := hQ
  unfold ref22_cell.M ref22_cell.j2 ref22_cell.j1
  unfold Touch at hQ
  dsimp only [Den]
  repeat' (first | apply And.intro | intro e)
  all_goals (refine hQ _ ?_; clear hQ; simp only [and_true, true_and, or_true, or_false, decide_eq_true_eq, decide_eq_false_iff_not, Bool.false_eq_true, reduceCtorEq, false_iff, true_iff] at * <;> omega)

theorem dep_iff {size len kx ax vx ky ay vy a b : Int} (ha : (Touch size kx ax ∧ a = ax) ∨ (¬ Touch size kx ax ∧ a = -1)) (hb : (Touch size ky ay ∧ b = ay) ∨ (¬ Touch size ky ay ∧ b = -1)) (hl : 0 ≤ len) :
    DepI size len kx ax vx ky ay vy ↔ (if 0 ≤ a ∧ a = b then kx ≠ 0 ∨ ky ≠ 0 else (Give kx vx ∧ Give ky vy) ∨ (Give kx vx ∧ len ≤ b ∧ 0 ≤ b) ∨ (Give ky vy ∧ len ≤ a ∧ 0 ≤ a)) := by
  have t1 : Touch size kx ax → 0 ≤ ax ∧ 0 ≤ kx ∧ kx ≤ 3 := fun h => ⟨h.2.2.1, h.1, h.2.1⟩
  have t2 : Touch size ky ay → 0 ≤ ay ∧ 0 ≤ ky ∧ ky ≤ 3 := fun h => ⟨h.2.2.1, h.1, h.2.1⟩
  have g1 : Give kx vx → kx = 4 := fun h => h.1
  have g2 : Give ky vy → ky = 4 := fun h => h.1
  unfold DepI
  generalize Touch size kx ax = X at *
  generalize Touch size ky ay = Y at *
  generalize Give kx vx = G at *
  generalize Give ky vy = H at *
  rcases ha with ⟨hX, rfl⟩ | ⟨hX, rfl⟩ <;> rcases hb with ⟨hY, rfl⟩ | ⟨hY, rfl⟩ <;> by_cases hG : G <;> by_cases hH : H <;> simp only [hX, hY, hG, hH, true_and, false_and, and_true, and_false, or_false, false_or, true_or, or_true, forall_const] at * <;> split <;> simp <;> omega

theorem rdepends_spec {s : Sc} {x y : Ac} {h : Heap} {c1 : Sc → Ac → Heap → (Int → Heap → Prop) → Prop} {c2 : Ac → Heap → (Bool → Heap → Prop) → Prop} (i1 : ∀ {a b h Q}, ref22_cell.M a b h Q → c1 a b h Q) (i2 : ∀ {a h Q}, ref22_makes.M a h Q → c2 a h Q)
    {Q : Bool → Heap → Prop} (hQ : ∀ b : Bool, (b = true ↔ Dep s x y) → Q b h) : ref22_Depends.M c1 c2 s x y h Q := by
  refine i1 (rcell_spec fun a ha => i1 (rcell_spec fun b hb => ?_))
  have hd := dep_iff (vx := x.2.2.2.1) (vy := y.2.2.2.1) (len := (s.2.1.len : Int)) ha hb (Int.natCast_nonneg _)
  have hQ : ∀ d : Bool, (d = true ↔ (if 0 ≤ a ∧ a = b then (x.2.1 : Int) ≠ 0 ∨ (y.2.1 : Int) ≠ 0 else (Give x.2.1 x.2.2.2.1 ∧ Give y.2.1 y.2.2.2.1) ∨ (Give x.2.1 x.2.2.2.1 ∧ (s.2.1.len : Int) ≤ b ∧ 0 ≤ b) ∨ (Give y.2.1 y.2.2.2.1 ∧ (s.2.1.len : Int) ≤ a ∧ 0 ≤ a))) → Q d h := fun d q => hQ d (q.trans hd.symm)
  clear hd
  have tail : ¬ (0 ≤ a ∧ a = b) → ¬ (Give x.2.1 x.2.2.2.1 ∧ Give y.2.1 y.2.2.2.1) → ¬ (Give x.2.1 x.2.2.2.1 ∧ (s.2.1.len : Int) ≤ b ∧ 0 ≤ b) → c2 y h fun r h' => (r = true → ((decide ((s.2.1.len : Int) ≤ a)) = true → Q (decide ((0 : Int) ≤ a)) h') ∧ ((decide ((s.2.1.len : Int) ≤ a)) = false → Q false h')) ∧ (r = false → Q false h') := by
    intro n1 n2 n3
    rw [if_neg n1] at hQ
    have hQ : ∀ d : Bool, (d = true ↔ (Give y.2.1 y.2.2.2.1 ∧ (s.2.1.len : Int) ≤ a ∧ 0 ≤ a)) → Q d h := fun d q => hQ d (q.trans ⟨fun r => .inr (.inr r), fun r => (r.resolve_left n2).resolve_left n3⟩)
    refine i2 (makes_spec fun p hp => ⟨fun e => ⟨fun f => ?_, fun f => ?_⟩, fun e => ?_⟩)
    · have f : (s.2.1.len : Int) ≤ a := of_decide_eq_true f
      exact hQ _ ⟨fun q => ⟨hp.1 e, f, of_decide_eq_true q⟩, fun q => decide_eq_true q.2.2⟩
    · have f : ¬ (s.2.1.len : Int) ≤ a := of_decide_eq_false f
      exact hQ _ ⟨fun q => (by cases q), fun q => absurd q.2.1 f⟩
    · exact hQ _ ⟨fun q => (by cases q), fun q => by have := hp.2 q.1; rw [this] at e; cases e⟩
  have j1 : ¬ (0 ≤ a ∧ a = b) → ¬ (Give x.2.1 x.2.2.2.1 ∧ Give y.2.1 y.2.2.2.1) → ref22_Depends.j1 c2 s x y Q a b () h := by
    intro n1 n2
    refine i2 (makes_spec fun p hp => ⟨fun e => ⟨fun f => ⟨fun g => ?_, fun g => ?_⟩, fun f => ?_⟩, fun e => ?_⟩)
    · have f : (s.2.1.len : Int) ≤ b := of_decide_eq_true f
      have g : 0 ≤ b := of_decide_eq_true g
      rw [if_neg n1] at hQ
      exact hQ true ⟨fun _ => .inr (.inl ⟨hp.1 e, f, g⟩), fun _ => rfl⟩
    · have g : ¬ 0 ≤ b := of_decide_eq_false g
      exact tail n1 n2 fun q => g q.2.2
    · have f : ¬ (s.2.1.len : Int) ≤ b := of_decide_eq_false f
      exact tail n1 n2 fun q => f q.2.1
    · exact tail n1 n2 fun q => by have := hp.2 q.1; rw [this] at e; cases e
  have j4 : ∀ d : Bool, (d = true ↔ (0 ≤ a ∧ a = b)) → ref22_Depends.j4 c2 s x y Q a b (d, ()) h := by
    intro d hd
    refine ⟨fun e => ?_, fun e => ?_⟩
    · have hab := hd.1 e
      rw [if_pos hab] at hQ
      refine ⟨fun f => ?_, fun f => ?_⟩
      · have f : (x.2.1 : Int) ≠ 0 := of_decide_eq_true f
        exact hQ true ⟨fun _ => .inl f, fun _ => rfl⟩
      · have f : ¬ (x.2.1 : Int) ≠ 0 := of_decide_eq_false f
        exact hQ _ ⟨fun q => .inr (of_decide_eq_true q), fun q => decide_eq_true (q.resolve_left f)⟩
    · have hab : ¬ (0 ≤ a ∧ a = b) := fun q => by have := hd.2 q; rw [show d = false from e] at this; cases this
      refine i2 (makes_spec fun p hp => ⟨fun f => i2 (makes_spec fun r hr => ⟨fun g => ?_, fun g => ?_⟩), fun f => ⟨fun g => (by cases g), fun _ => ?_⟩⟩)
      · rw [if_neg hab] at hQ
        exact hQ true ⟨fun _ => .inl ⟨hp.1 f, hr.1 g⟩, fun _ => rfl⟩
      · exact j1 hab fun q => by have := hr.2 q.2; rw [show r = false from g] at this; cases this
      · exact j1 hab fun q => by have := hp.2 q.1; rw [this] at f; cases f
  refine ⟨fun e => ?_, fun e => ?_⟩
  · have e : 0 ≤ a := of_decide_eq_true e
    exact j4 _ ⟨fun q => ⟨e, of_decide_eq_true q⟩, fun q => decide_eq_true q.2⟩
  · have e : ¬ 0 ≤ a := of_decide_eq_false e
    exact j4 _ ⟨fun q => (by cases q), fun q => absurd q.1 e⟩

end Go.Mx
