/-
  How many accesses a machine of the deque has made.
-/
import Derived.Test.YtndhbkhhehleaaaMxQd
set_option linter.unusedVariables false
set_option linter.unusedSimpArgs false
set_option linter.unusedSectionVars false
namespace Go.Mx

def stepsOf (o : DOp) : Int :=
  if o.kind = 3 then (if o.pc = 1 then 1 else if o.pc = 3 then 2 else if o.pc = 4 then 3 else if o.pc = 12 then 4 else if o.pc = 13 then 5 else 0)
  else if o.kind = 2 then (if o.pc = 3 then 1 else if o.pc = 2 then 3 else if o.pc = 4 then 4 else if o.pc = 12 then 5 else if o.pc = 13 then 6 else if o.pc = 11 then (if o.i = 0 then 2 else if o.t = o.b then 7 else 4) else 0)
  else (if o.pc = 2 then 1 else if o.pc = 3 then 2 else if o.pc = 4 then 3 else if o.pc = 5 then 4 else if o.pc = 6 then 5 else if o.pc = 7 then 6 + 2 * (o.i - o.t) else if o.pc = 8 then 7 + 2 * (o.i - o.t) else if o.pc = 9 then 6 + 2 * (o.b - o.t)
    else if o.pc = 10 then (if o.c2 = 0 then 4 else 7 + 2 * (o.b - o.t)) else if o.pc = 11 then (if o.c2 = 0 then 5 else 8 + 2 * (o.b - o.t)) else 0)
def XI (most : Int) (o : DOp) : Prop := o.kind = 1 → (o.pc = 1 ∨ o.pc = 2 ∨ o.pc = 3 ∨ o.pc = 4 → o.c2 = 0) ∧ (o.pc = 10 ∨ o.pc = 11 → o.c2 = 0 ∨ (1 ≤ o.c2 ∧ 0 ≤ o.b - o.t ∧ o.b - o.t < most))
theorem th_steps {cs : List Int} {own o : DOp} (h : ThS cs own o) (k : o.kind = 3) (p : o.pc ≠ 0) (v : Int) : ((o.after v).pc ≠ 0 → stepsOf (o.after v) = stepsOf o + 1) ∧ ((o.after v).pc = 0 → stepsOf o + 1 ≤ 6) ∧ 0 ≤ stepsOf o ∧ stepsOf o ≤ 5 := by
  cases h with
  | idle p' => exact absurd p' p
  | st2 _ p =>
    have : o.after v = { o with t := v, pc := 1 } := by simp [DOp.after, DOp.stolen, k, p]
    rw [this]; simp [stepsOf, k, p]
  | st1 _ p =>
    by_cases q : v ≤ o.t
    · have : o.after v = DOp.over { o with b := v, pc := 3 } 5 0 := by simp [DOp.after, DOp.stolen, k, p, q]
      rw [this]; simp [stepsOf, k, p, DOp.over]
    · have : o.after v = { o with b := v, pc := 3 } := by simp [DOp.after, DOp.stolen, k, p, q]
      rw [this]; simp [stepsOf, k, p]
  | st3 _ p =>
    have : o.after v = { o with a := v, pc := 4 } := by simp [DOp.after, DOp.stolen, k, p]
    rw [this]; simp [stepsOf, k, p]
  | st4 _ p =>
    by_cases q : v < 1
    · have : o.after v = DOp.over { o with c := v, pc := 12 } 1 0 := by simp [DOp.after, DOp.stolen, k, p, q]
      rw [this]; simp [stepsOf, k, p, DOp.over]
    · have : o.after v = { o with c := v, pc := 12 } := by simp [DOp.after, DOp.stolen, k, p, q]
      rw [this]; simp [stepsOf, k, p]
  | st12 _ p =>
    have : o.after v = { o with x := v, pc := 13 } := by simp [DOp.after, DOp.stolen, k, p]
    rw [this]; simp [stepsOf, k, p]
  | st13 _ p =>
    by_cases q : v = 1
    · have : o.after v = o.over 4 o.x := by simp [DOp.after, DOp.stolen, k, p, q]
      rw [this]; simp [stepsOf, k, p, DOp.over]
    · have : o.after v = o.over 6 0 := by simp [DOp.after, DOp.stolen, k, p, q]
      rw [this]; simp [stepsOf, k, p, DOp.over]
  | lk2 k' => omega
  | lk1 k' => omega

theorem pop_steps {most : Int} {cs : List Int} {o : DOp} (h : OwnS most cs o) (k : o.kind = 2) (p : o.pc ≠ 0) (v : Int) : ((o.after v).pc ≠ 0 → stepsOf (o.after v) = stepsOf o + 1) ∧ ((o.after v).pc = 0 → stepsOf o + 1 ≤ 8) ∧ 0 ≤ stepsOf o ∧ stepsOf o ≤ 7 := by
  cases h with
  | idle p' => exact absurd p' p
  | pu1 k' | pu2 k' | pu3 k' | pu4 k' | pu5 k' | pu6 k' | pu7 k' | pu8 k' | pu9 k' | pu10 k' | pu11 k' => omega
  | po1 _ p i w =>
    have : o.after v = { o with b := w64 (v - 1), pc := 3 } := by simp [DOp.after, DOp.popped, k, p]
    rw [this]; simp [stepsOf, k, p]
  | po3 _ p i w =>
    have : o.after v = { o with a := v, pc := 11 } := by simp [DOp.after, DOp.popped, k, p]
    rw [this]; simp [stepsOf, k, p, i]
  | po11 _ p i w =>
    have : o.after v = { o with pc := 2 } := by simp [DOp.after, DOp.popped, k, p, i]
    rw [this]; simp [stepsOf, k, p, i]
  | po2 _ p i w =>
    by_cases q : o.b < v
    · have : o.after v = { o with t := v, i := 1, pc := 11 } := by simp [DOp.after, DOp.popped, k, p, q]
      rw [this]
      have : ¬ v = o.b := by omega
      simp [stepsOf, k, p, this]
    · have : o.after v = { o with t := v, i := 1, pc := 4 } := by simp [DOp.after, DOp.popped, k, p, q]
      rw [this]; simp [stepsOf, k, p]
  | po4 _ p i w =>
    by_cases q : v < 1
    · have : o.after v = DOp.over { o with c := v, pc := 12 } 1 0 := by simp [DOp.after, DOp.popped, k, p, q]
      rw [this]; simp [stepsOf, k, p, DOp.over]
    · have : o.after v = { o with c := v, pc := 12 } := by simp [DOp.after, DOp.popped, k, p, q]
      rw [this]; simp [stepsOf, k, p]
  | po12 _ p i w =>
    by_cases q : o.t < o.b
    · have : o.after v = DOp.over { o with x := v, pc := 13 } 4 v := by simp [DOp.after, DOp.popped, k, p, q]
      rw [this]; simp [stepsOf, k, p, DOp.over]
    · have : o.after v = { o with x := v, pc := 13 } := by simp [DOp.after, DOp.popped, k, p, q]
      rw [this]; simp [stepsOf, k, p]
  | po13 _ p i w b t0 t tb =>
    have : o.after v = { o with won := decide (v = 1), pc := 11 } := by simp [DOp.after, DOp.popped, k, p]
    rw [this]; simp [stepsOf, k, p, i, tb]
  | pe _ p i w b t =>
    have : o.after v = o.over 5 0 := by simp [DOp.after, DOp.popped, k, p, i, w]
    have : ¬ o.t = o.b := by omega
    rw [‹o.after v = _›]; simp [stepsOf, k, p, i, DOp.over, this]
  | pf _ p i b t =>
    cases w : o.won with
    | true =>
      have : o.after v = o.over 4 o.x := by simp [DOp.after, DOp.popped, k, p, i, w]
      rw [this]; simp [stepsOf, k, p, i, t, DOp.over]
    | false =>
      have : o.after v = o.over 5 0 := by simp [DOp.after, DOp.popped, k, p, i, w]
      rw [this]; simp [stepsOf, k, p, i, t, DOp.over]

def grown (o : DOp) : Prop := o.kind = 1 ∧ (o.pc = 10 ∨ o.pc = 11) ∧ o.c2 ≠ 0
instance (o : DOp) : Decidable (grown o) := by unfold grown; infer_instance
theorem push_steps {most : Int} {cs : List Int} {o : DOp} (h : OwnS most cs o) (xi : XI most o) (k : o.kind = 1) (p : o.pc ≠ 0) (hb0 : 0 ≤ gt cs 1) (hb : gt cs 1 ≤ 1000000000) (c1 : 1 ≤ cC cs) (v : Int) :
    XI most (o.after v) ∧ ((o.after v).pc ≠ 0 → stepsOf (o.after v) = stepsOf o + 1 ∧ (grown (o.after v) → grown o ∨ (o.pc = 9 ∧ (o.after v).b - (o.after v).t = cC cs ∧ o.c2 = if most < 2 * cC cs then most else 2 * cC cs)) ∧ (grown o → grown (o.after v) ∧ (o.after v).b - (o.after v).t = o.b - o.t)) ∧
    ((o.after v).pc = 0 → stepsOf o + 1 ≤ (if grown o then 9 + 2 * (o.b - o.t) else 9)) ∧ 0 ≤ stepsOf o ∧ stepsOf o ≤ 9 + 2 * gt cs 1 ∧ (o.pc = 9 → ¬ grown o) ∧ (grown o → 0 ≤ o.t ∧ o.b = gt cs 1) := by
  obtain ⟨x1, x2⟩ := xi k
  cases h with
  | idle p' => exact absurd p' p
  | po1 k' | po3 k' | po11 k' | po2 k' | po4 k' | po12 k' | po13 k' | pe k' | pf k' => omega
  | pu1 _ p =>
    have e : o.after v = { o with b := v, pc := 2 } := by simp [DOp.after, DOp.pushed, k, p]
    have c2 := x1 (by omega)
    rw [e]; simp [stepsOf, XI, grown, k, p, c2]; omega
  | pu2 _ p =>
    have e : o.after v = { o with t := v, pc := 3 } := by simp [DOp.after, DOp.pushed, k, p]
    have c2 := x1 (by omega)
    rw [e]; simp [stepsOf, XI, grown, k, p, c2]; omega
  | pu3 _ p =>
    have e : o.after v = { o with a := v, pc := 4 } := by simp [DOp.after, DOp.pushed, k, p]
    have c2 := x1 (by omega)
    rw [e]; simp [stepsOf, XI, grown, k, p, c2]; omega
  | pu4 _ p =>
    have c2 := x1 (by omega)
    by_cases q1 : v < 1
    · have e : o.after v = DOp.over { o with c := v, pc := 10 } 1 0 := by simp [DOp.after, DOp.pushed, k, p, q1]
      rw [e]; simp [stepsOf, XI, grown, k, p, c2, DOp.over]; omega
    · by_cases q2 : w64 (o.b - o.t) < v
      · have e : o.after v = { o with c := v, pc := 10 } := by simp only [DOp.after, DOp.pushed, k, p, if_true]; rw [if_neg (by decide), if_neg (by decide), if_neg (by decide), if_neg q1, if_pos q2]
        rw [e]; simp [stepsOf, XI, grown, k, p, c2]; omega
      · by_cases q3 : o.most ≤ v
        · have e : o.after v = DOp.over { o with c := v, pc := 10 } 3 0 := by simp only [DOp.after, DOp.pushed, k, p, if_true]; rw [if_neg (by decide), if_neg (by decide), if_neg (by decide), if_neg q1, if_neg q2, if_pos q3]
          rw [e]; simp [stepsOf, XI, grown, k, p, c2, DOp.over]; omega
        · have e : o.after v = { o with c := v, c2 := if o.most < w64 (2 * v) then o.most else w64 (2 * v), pc := 5 } := by simp only [DOp.after, DOp.pushed, k, p, if_true]; rw [if_neg (by decide), if_neg (by decide), if_neg (by decide), if_neg q1, if_neg q2, if_neg q3]
          rw [e]; simp [stepsOf, XI, grown, k, p, c2]; omega
  | pu5 _ p b t0 t f =>
    have e : o.after v = { o with a2 := v, pc := 6 } := by simp [DOp.after, DOp.pushed, k, p]
    rw [e]; simp [stepsOf, XI, grown, k, p]; omega
  | pu6 _ p b t0 t f =>
    have e : o.after v = { o with i := o.t, pc := 7 } := by simp [DOp.after, DOp.pushed, k, p]
    rw [e]; simp [stepsOf, XI, grown, k, p]; omega
  | pu7 _ p b t0 t f a c lt c2 a2 hd i1 i2 =>
    have e : o.after v = { o with x := v, pc := 8 } := by simp [DOp.after, DOp.pushed, k, p]
    rw [e]; simp [stepsOf, XI, grown, k, p]; omega
  | pu8 _ p b t0 t f a c lt c2 a2 hd i1 i2 =>
    have wi : w64 (o.i + 1) = o.i + 1 := by rw [w64_of] <;> omega
    by_cases q : o.i + 1 = o.b
    · have e : o.after v = { o with i := o.i + 1, pc := 9 } := by simp only [DOp.after, DOp.pushed, k, p, wi, if_true]; rw [if_neg (by decide), if_neg (by decide), if_neg (by decide), if_neg (by decide), if_neg (by decide), if_neg (by decide), if_neg (by decide), if_pos q]
      rw [e]; simp [stepsOf, XI, grown, k, p]; omega
    · have e : o.after v = { o with i := o.i + 1, pc := 7 } := by simp only [DOp.after, DOp.pushed, k, p, wi, if_true]; rw [if_neg (by decide), if_neg (by decide), if_neg (by decide), if_neg (by decide), if_neg (by decide), if_neg (by decide), if_neg (by decide), if_neg q]
      rw [e]; simp [stepsOf, XI, grown, k, p]; omega
  | pu9 _ p b t0 t f a c lt c2 a2 hd =>
    have e : o.after v = { o with a := o.a2, c := o.c2, pc := 10 } := by simp [DOp.after, DOp.pushed, k, p]
    have hc2 : 1 ≤ o.c2 := by rw [c2]; split <;> omega
    have hz : ¬ o.c2 = 0 := by omega
    rw [e]
    refine ⟨fun _ => ⟨fun q => absurd (show (10 : Int) = 1 ∨ (10 : Int) = 2 ∨ (10 : Int) = 3 ∨ (10 : Int) = 4 from q) (by decide), fun _ => .inr ⟨hc2, by show 0 ≤ o.b - o.t; omega, by show o.b - o.t < most; omega⟩⟩, fun _ => ⟨?_, fun _ => .inr ⟨p, f, c2⟩, fun q => ?_⟩, fun q => absurd (show (10 : Int) = 0 from q) (by decide), ?_, ?_, fun _ q => ?_, fun q => ?_⟩
    · simp [stepsOf, k, p, hz]; omega
    · obtain ⟨_, q, _⟩ := q; omega
    · simp [stepsOf, k, p]; omega
    · simp [stepsOf, k, p]; omega
    · obtain ⟨_, q, _⟩ := q; omega
    · obtain ⟨_, q, _⟩ := q; omega
  | pu10 _ p b t0 t f a c =>
    have e : o.after v = { o with pc := 11 } := by simp [DOp.after, DOp.pushed, k, p]
    have x2 := x2 (.inl p)
    rw [e]
    by_cases z : o.c2 = 0
    · simp [stepsOf, XI, grown, k, p, z]; omega
    · have x2 := x2.resolve_left z
      simp [stepsOf, XI, grown, k, p, z]; omega
  | pu11 _ p b t0 t f a c e' =>
    have e : o.after v = o.over 2 0 := by simp [DOp.after, DOp.pushed, k, p]
    have x2 := x2 (.inr p)
    rw [e]
    by_cases z : o.c2 = 0
    · simp [stepsOf, XI, grown, k, p, z, DOp.over]; omega
    · have x2 := x2.resolve_left z
      simp [stepsOf, XI, grown, k, p, z, DOp.over]; omega

end Go.Mx
