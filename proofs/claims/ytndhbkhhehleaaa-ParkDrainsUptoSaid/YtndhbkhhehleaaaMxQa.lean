/-
  The deque's step machines, as plain functions: over any memory.
-/
import Derived.Test.YtndhbkhhehleaaaMxOb
set_option linter.unusedVariables false
set_option linter.unusedSimpArgs false
namespace Go.Mx

abbrev KP2 : Kd := .pair ki (.pair ki .nil)
abbrev KOp : Kd := .pair ki (.pair ki (.pair KP2 (.pair ki (.pair ki (.pair ki (.pair ki (.pair ki (.pair ki (.pair ki (.pair ki (.pair ki (.pair .bool KP2))))))))))))

structure DOp where
  kind : Int
  pc : Int
  base : Int
  most : Int
  v : Int
  t : Int
  b : Int
  a : Int
  c : Int
  a2 : Int
  c2 : Int
  i : Int
  x : Int
  won : Bool
  code : Int
  value : Int
  deriving DecidableEq

def DOp.den (o : DOp) : Den KOp :=
  (o.kind, (o.pc, ((o.base, (o.most, ())), (o.v, (o.t, (o.b, (o.a, (o.c, (o.a2, (o.c2, (o.i, (o.x, (o.won, (o.code, (o.value, ())))))))))))))))
def DOp.of (d : Den KOp) : DOp :=
  ⟨d.1, d.2.1, d.2.2.1.1, d.2.2.1.2.1, d.2.2.2.1, d.2.2.2.2.1, d.2.2.2.2.2.1, d.2.2.2.2.2.2.1, d.2.2.2.2.2.2.2.1, d.2.2.2.2.2.2.2.2.1, d.2.2.2.2.2.2.2.2.2.1, d.2.2.2.2.2.2.2.2.2.2.1, d.2.2.2.2.2.2.2.2.2.2.2.1, d.2.2.2.2.2.2.2.2.2.2.2.2.1, d.2.2.2.2.2.2.2.2.2.2.2.2.2.1, d.2.2.2.2.2.2.2.2.2.2.2.2.2.2.1⟩
def DOp.zero : DOp := ⟨0, 0, 0, 0, 0, 0, 0, 0, 0, 0, 0, 0, 0, false, 0, 0⟩
theorem DOp.eqK_zero (o : DOp) : eqK KOp o.den DOp.zero.den = decide (o = DOp.zero) := by
  rw [Bool.eq_iff_iff, decide_eq_true_eq]
  obtain ⟨kind, pc, base, most, v, t, b, a, c, a2, c2, i, x, won, code, value⟩ := o
  simp [DOp.den, DOp.zero, eqK, and_assoc]
  exact ⟨fun ⟨a1, a2, a3, a4, a5, a6, a7, a8, a9, a10, a11, a12, a13, a14, a15, a16⟩ => ⟨of_decide_eq_true a1, of_decide_eq_true a2, of_decide_eq_true a3, of_decide_eq_true a4, of_decide_eq_true a5, of_decide_eq_true a6, of_decide_eq_true a7, of_decide_eq_true a8, of_decide_eq_true a9, of_decide_eq_true a10, of_decide_eq_true a11, of_decide_eq_true a12, of_decide_eq_true a13, a14, of_decide_eq_true a15, of_decide_eq_true a16⟩, fun ⟨a1, a2, a3, a4, a5, a6, a7, a8, a9, a10, a11, a12, a13, a14, a15, a16⟩ => ⟨decide_eq_true a1, decide_eq_true a2, decide_eq_true a3, decide_eq_true a4, decide_eq_true a5, decide_eq_true a6, decide_eq_true a7, decide_eq_true a8, decide_eq_true a9, decide_eq_true a10, decide_eq_true a11, decide_eq_true a12, decide_eq_true a13, a14, decide_eq_true a15, decide_eq_true a16⟩⟩

inductive Rq where
  | ld (a : Int) | st (a v : Int) | cas (a x y : Int) | rs (n : Int)

def placeD (a c i : Int) : Int := if Int.tmod i c < 0 then w64 (w64 (a + 1) + w64 (Int.tmod i c + c)) else w64 (w64 (a + 1) + Int.tmod i c)

def DOp.over (o : DOp) (code v : Int) : DOp := { o with pc := 0, code := code, value := v }
def DOp.next (o : DOp) : Int := if o.kind = 1 then w64 (o.b + 1) else if o.i = 0 then o.b else if o.b < o.t then o.t else w64 (o.t + 1)
def DOp.req (o : DOp) : Rq :=
  if o.pc = 1 then .ld (w64 (o.base + 1)) else if o.pc = 2 then .ld (w64 (o.base + 0)) else if o.pc = 3 then .ld (w64 (o.base + 2)) else if o.pc = 4 then .ld o.a
  else if o.pc = 5 then .rs (w64 (1 + o.c2)) else if o.pc = 6 then .st o.a2 o.c2 else if o.pc = 7 then .ld (placeD o.a o.c o.i) else if o.pc = 8 then .st (placeD o.a2 o.c2 o.i) o.x
  else if o.pc = 9 then .st (w64 (o.base + 2)) o.a2 else if o.pc = 10 then .st (placeD o.a o.c o.b) o.v else if o.pc = 11 then .st (w64 (o.base + 1)) o.next
  else if o.pc = 12 then .ld (placeD o.a o.c (if o.kind = 2 then o.b else o.t)) else .cas (w64 (o.base + 0)) o.t (w64 (o.t + 1))

def DOp.pushed (o : DOp) (g : Int) : DOp :=
  if o.pc = 1 then { o with b := g, pc := 2 } else if o.pc = 2 then { o with t := g, pc := 3 } else if o.pc = 3 then { o with a := g, pc := 4 }
  else if o.pc = 4 then
    if g < 1 then DOp.over { o with c := g, pc := 10 } 1 0 else if w64 (o.b - o.t) < g then { o with c := g, pc := 10 }
    else if o.most ≤ g then DOp.over { o with c := g, pc := 10 } 3 0 else { o with c := g, c2 := if o.most < w64 (2 * g) then o.most else w64 (2 * g), pc := 5 }
  else if o.pc = 5 then { o with a2 := g, pc := 6 } else if o.pc = 6 then { o with i := o.t, pc := 7 } else if o.pc = 7 then { o with x := g, pc := 8 }
  else if o.pc = 8 then if w64 (o.i + 1) = o.b then { o with i := w64 (o.i + 1), pc := 9 } else { o with i := w64 (o.i + 1), pc := 7 }
  else if o.pc = 9 then { o with a := o.a2, c := o.c2, pc := 10 } else if o.pc = 10 then { o with pc := 11 } else if o.pc = 11 then o.over 2 0 else o
def DOp.popped (o : DOp) (g : Int) : DOp :=
  if o.pc = 1 then { o with b := w64 (g - 1), pc := 3 } else if o.pc = 3 then { o with a := g, pc := 11 }
  else if o.pc = 11 then if o.i = 0 then { o with pc := 2 } else if o.won = true then o.over 4 o.x else o.over 5 0
  else if o.pc = 2 then if o.b < g then { o with t := g, i := 1, pc := 11 } else { o with t := g, i := 1, pc := 4 }
  else if o.pc = 4 then if g < 1 then DOp.over { o with c := g, pc := 12 } 1 0 else { o with c := g, pc := 12 }
  else if o.pc = 12 then if o.t < o.b then DOp.over { o with x := g, pc := 13 } 4 g else { o with x := g, pc := 13 }
  else if o.pc = 13 then { o with won := decide (g = 1), pc := 11 } else o
def DOp.stolen (o : DOp) (g : Int) : DOp :=
  if o.pc = 2 then { o with t := g, pc := 1 }
  else if o.pc = 1 then if g ≤ o.t then DOp.over { o with b := g, pc := 3 } 5 0 else { o with b := g, pc := 3 }
  else if o.pc = 3 then { o with a := g, pc := 4 }
  else if o.pc = 4 then if g < 1 then DOp.over { o with c := g, pc := 12 } 1 0 else { o with c := g, pc := 12 }
  else if o.pc = 12 then { o with x := g, pc := 13 }
  else if o.pc = 13 then if g = 1 then o.over 4 o.x else o.over 6 0 else o
def DOp.looked (o : DOp) (g : Int) : DOp :=
  if o.pc = 2 then { o with t := g, pc := 1 } else if o.t < g then o.over 7 0 else o.over 8 0
def DOp.after (o : DOp) (g : Int) : DOp :=
  if o.kind = 1 then o.pushed g else if o.kind = 2 then o.popped g else if o.kind = 3 then o.stolen g else o.looked g

def DOp.begin (kind pc base most v : Int) : DOp := if most < 1 then DOp.zero else if 4096 < most then DOp.zero else ⟨kind, pc, base, most, v, 0, 0, 0, 0, 0, 0, 0, 0, false, 0, 0⟩
def DOp.answer (o : DOp) : Int × Int := if o = DOp.zero then (1, 0) else if o.pc ≠ 0 then (0, 0) else (o.code, o.value)

abbrev MemF (σ : Type) := σ → Rq → Option Int × σ
def stepD {σ : Type} (I : MemF σ) (s : σ) (o : DOp) : σ × DOp :=
  if o = DOp.zero then (s, o) else if o.pc = 0 then (s, o) else
  match (I s o.req).1 with
  | none => ((I s o.req).2, o.over 1 0)
  | some g => ((I s o.req).2, o.after g)

def DOp.Ok (o : DOp) : Prop := (o.pc = 7 ∨ o.pc = 10 ∨ o.pc = 12 → 1 ≤ o.c) ∧ (5 ≤ o.pc ∧ o.pc ≤ 9 → 1 ≤ o.c ∧ 1 ≤ o.c2 ∧ o.kind = 1) ∧ (o.pc = 10 → o.kind = 1)
theorem DOp.Ok.zero : DOp.zero.Ok := by unfold DOp.Ok; decide
theorem DOp.Ok.over {o : DOp} {c v : Int} : (o.over c v).Ok := by
  unfold DOp.Ok DOp.over; dsimp only; omega
theorem pif {α : Type} {P : α → Prop} {c : Prop} [Decidable c] {a b : α} (h1 : c → P a) (h2 : ¬ c → P b) : P (if c then a else b) := by
  by_cases q : c
  · rw [if_pos q]; exact h1 q
  · rw [if_neg q]; exact h2 q
theorem DOp.Ok.begin {kind pc base most v : Int} (h : pc = 1 ∨ pc = 2) : (DOp.begin kind pc base most v).Ok := by
  unfold DOp.begin
  split
  · exact .zero
  · split
    · exact .zero
    · unfold DOp.Ok; dsimp only; omega
theorem DOp.Ok.after {o : DOp} (h : o.Ok) (hm : o.most ≤ 4096) (g : Int) : (o.after g).Ok := by
  obtain ⟨h1, h2, h3⟩ := h
  unfold DOp.after
  refine pif (P := DOp.Ok) (fun k => ?_) fun k => pif (P := DOp.Ok) (fun k2 => ?_) fun k2 => pif (P := DOp.Ok) (fun k3 => ?_) fun k3 => ?_
  · unfold DOp.pushed
    refine pif (P := DOp.Ok) (fun q => ?_) fun q => pif (P := DOp.Ok) (fun q2 => ?_) fun q2 => pif (P := DOp.Ok) (fun q3 => ?_) fun q3 => pif (P := DOp.Ok) (fun q4 => ?_) fun q4 => pif (P := DOp.Ok) (fun q5 => ?_) fun q5 => pif (P := DOp.Ok) (fun q6 => ?_) fun q6 =>
      pif (P := DOp.Ok) (fun q7 => ?_) fun q7 => pif (P := DOp.Ok) (fun q8 => ?_) fun q8 => pif (P := DOp.Ok) (fun q9 => ?_) fun q9 => pif (P := DOp.Ok) (fun q10 => ?_) fun q10 => pif (P := DOp.Ok) (fun q11 => .over) fun q11 => ⟨h1, h2, h3⟩
    case refine_4 =>
      refine pif (P := DOp.Ok) (fun _ => .over) fun p => pif (P := DOp.Ok) (fun _ => ?_) fun _ => pif (P := DOp.Ok) (fun _ => .over) fun p3 => ?_
      · unfold DOp.Ok; dsimp only; omega
      · have : w64 (2 * g) = 2 * g := by rw [w64_of] <;> omega
        rw [this]
        have : 1 ≤ (if o.most < 2 * g then o.most else 2 * g) := pif (fun _ => by omega) fun _ => by omega
        unfold DOp.Ok; dsimp only; omega
    case refine_8 => exact pif (P := DOp.Ok) (fun _ => by unfold DOp.Ok; dsimp only; omega) fun _ => by unfold DOp.Ok; dsimp only; omega
    all_goals (unfold DOp.Ok; dsimp only; omega)
  · unfold DOp.popped
    refine pif (P := DOp.Ok) (fun q => ?_) fun q => pif (P := DOp.Ok) (fun q2 => ?_) fun q2 => pif (P := DOp.Ok) (fun q3 => ?_) fun q3 => pif (P := DOp.Ok) (fun q4 => ?_) fun q4 => pif (P := DOp.Ok) (fun q5 => ?_) fun q5 => pif (P := DOp.Ok) (fun q6 => ?_) fun q6 =>
      pif (P := DOp.Ok) (fun q7 => ?_) fun q7 => ⟨h1, h2, h3⟩
    case refine_3 => exact pif (P := DOp.Ok) (fun _ => by unfold DOp.Ok; dsimp only; omega) fun _ => pif (P := DOp.Ok) (fun _ => .over) fun _ => .over
    case refine_4 => exact pif (P := DOp.Ok) (fun _ => by unfold DOp.Ok; dsimp only; omega) fun _ => by unfold DOp.Ok; dsimp only; omega
    case refine_5 => exact pif (P := DOp.Ok) (fun _ => .over) fun _ => by unfold DOp.Ok; dsimp only; omega
    case refine_6 => exact pif (P := DOp.Ok) (fun _ => .over) fun _ => by unfold DOp.Ok; dsimp only; omega
    all_goals (unfold DOp.Ok; dsimp only; omega)
  · unfold DOp.stolen
    refine pif (P := DOp.Ok) (fun q => ?_) fun q => pif (P := DOp.Ok) (fun q2 => ?_) fun q2 => pif (P := DOp.Ok) (fun q3 => ?_) fun q3 => pif (P := DOp.Ok) (fun q4 => ?_) fun q4 => pif (P := DOp.Ok) (fun q5 => ?_) fun q5 => pif (P := DOp.Ok) (fun q6 => ?_) fun q6 => ⟨h1, h2, h3⟩
    case refine_2 => exact pif (P := DOp.Ok) (fun _ => .over) fun _ => by unfold DOp.Ok; dsimp only; omega
    case refine_4 => exact pif (P := DOp.Ok) (fun _ => .over) fun _ => by unfold DOp.Ok; dsimp only; omega
    case refine_6 => exact pif (P := DOp.Ok) (fun _ => .over) fun _ => .over
    all_goals (unfold DOp.Ok; dsimp only; omega)
  · unfold DOp.looked
    exact pif (P := DOp.Ok) (fun q => by unfold DOp.Ok; dsimp only; omega) fun q => pif (P := DOp.Ok) (fun _ => .over) fun _ => .over
def DOp.Same (o p : DOp) : Prop := p.kind = o.kind ∧ p.base = o.base ∧ p.most = o.most ∧ p.v = o.v
theorem DOp.after_same (o : DOp) (g : Int) : o.Same (o.after g) := by
  have r0 : o.Same o := ⟨rfl, rfl, rfl, rfl⟩
  unfold DOp.after
  refine pif (P := o.Same) (fun k => ?_) fun k => pif (P := o.Same) (fun k2 => ?_) fun k2 => pif (P := o.Same) (fun k3 => ?_) fun k3 => ?_
  · unfold DOp.pushed
    refine pif (P := o.Same) (fun q => ?_) fun q => pif (P := o.Same) (fun q2 => ?_) fun q2 => pif (P := o.Same) (fun q3 => ?_) fun q3 => pif (P := o.Same) (fun q4 => ?_) fun q4 => pif (P := o.Same) (fun q5 => ?_) fun q5 => pif (P := o.Same) (fun q6 => ?_) fun q6 =>
      pif (P := o.Same) (fun q7 => ?_) fun q7 => pif (P := o.Same) (fun q8 => ?_) fun q8 => pif (P := o.Same) (fun q9 => ?_) fun q9 => pif (P := o.Same) (fun q10 => ?_) fun q10 => pif (P := o.Same) (fun q11 => ?_) fun q11 => r0
    case refine_4 => exact pif (P := o.Same) (fun _ => ⟨rfl, rfl, rfl, rfl⟩) fun p => pif (P := o.Same) (fun _ => ⟨rfl, rfl, rfl, rfl⟩) fun _ => pif (P := o.Same) (fun _ => ⟨rfl, rfl, rfl, rfl⟩) fun p3 => ⟨rfl, rfl, rfl, rfl⟩
    case refine_8 => exact pif (P := o.Same) (fun _ => ⟨rfl, rfl, rfl, rfl⟩) fun _ => ⟨rfl, rfl, rfl, rfl⟩
    all_goals exact ⟨rfl, rfl, rfl, rfl⟩
  · unfold DOp.popped
    refine pif (P := o.Same) (fun q => ?_) fun q => pif (P := o.Same) (fun q2 => ?_) fun q2 => pif (P := o.Same) (fun q3 => ?_) fun q3 => pif (P := o.Same) (fun q4 => ?_) fun q4 => pif (P := o.Same) (fun q5 => ?_) fun q5 => pif (P := o.Same) (fun q6 => ?_) fun q6 =>
      pif (P := o.Same) (fun q7 => ?_) fun q7 => r0
    case refine_3 => exact pif (P := o.Same) (fun _ => ⟨rfl, rfl, rfl, rfl⟩) fun _ => pif (P := o.Same) (fun _ => ⟨rfl, rfl, rfl, rfl⟩) fun _ => ⟨rfl, rfl, rfl, rfl⟩
    case refine_4 => exact pif (P := o.Same) (fun _ => ⟨rfl, rfl, rfl, rfl⟩) fun _ => ⟨rfl, rfl, rfl, rfl⟩
    case refine_5 => exact pif (P := o.Same) (fun _ => ⟨rfl, rfl, rfl, rfl⟩) fun _ => ⟨rfl, rfl, rfl, rfl⟩
    case refine_6 => exact pif (P := o.Same) (fun _ => ⟨rfl, rfl, rfl, rfl⟩) fun _ => ⟨rfl, rfl, rfl, rfl⟩
    all_goals exact ⟨rfl, rfl, rfl, rfl⟩
  · unfold DOp.stolen
    refine pif (P := o.Same) (fun q => ?_) fun q => pif (P := o.Same) (fun q2 => ?_) fun q2 => pif (P := o.Same) (fun q3 => ?_) fun q3 => pif (P := o.Same) (fun q4 => ?_) fun q4 => pif (P := o.Same) (fun q5 => ?_) fun q5 => pif (P := o.Same) (fun q6 => ?_) fun q6 => r0
    case refine_2 => exact pif (P := o.Same) (fun _ => ⟨rfl, rfl, rfl, rfl⟩) fun _ => ⟨rfl, rfl, rfl, rfl⟩
    case refine_4 => exact pif (P := o.Same) (fun _ => ⟨rfl, rfl, rfl, rfl⟩) fun _ => ⟨rfl, rfl, rfl, rfl⟩
    case refine_6 => exact pif (P := o.Same) (fun _ => ⟨rfl, rfl, rfl, rfl⟩) fun _ => ⟨rfl, rfl, rfl, rfl⟩
    all_goals exact ⟨rfl, rfl, rfl, rfl⟩
  · unfold DOp.looked
    exact pif (P := o.Same) (fun q => ⟨rfl, rfl, rfl, rfl⟩) fun q => pif (P := o.Same) (fun _ => ⟨rfl, rfl, rfl, rfl⟩) fun _ => ⟨rfl, rfl, rfl, rfl⟩
theorem DOp.Same.refl (o : DOp) : o.Same o := ⟨rfl, rfl, rfl, rfl⟩
theorem stepD_ok {σ : Type} (I : MemF σ) (s : σ) {o : DOp} (h : o.Ok) (hm : o.most ≤ 4096) : (stepD I s o).2.Ok ∧ o.Same (stepD I s o).2 := by
  unfold stepD
  refine pif (P := fun r : σ × DOp => r.2.Ok ∧ o.Same r.2) (fun _ => ⟨h, .refl o⟩) fun _ => pif (P := fun r : σ × DOp => r.2.Ok ∧ o.Same r.2) (fun _ => ⟨h, .refl o⟩) fun _ => ?_
  split
  · exact ⟨.over, ⟨rfl, rfl, rfl, rfl⟩⟩
  · exact ⟨h.after hm _, o.after_same _⟩

end Go.Mx
