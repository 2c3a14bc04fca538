/-
  Parking: the lot's machines as plain functions, over an arena.
-/
import Derived.Test.YtndhbkhhehleaaaMxXb
set_option linter.unusedVariables false
set_option linter.unusedSimpArgs false
set_option linter.unusedSectionVars false
namespace Go.Mx

/-! ### an arena's accesses, with Add -/
inductive Ra where
  | rq (r : Rq)
  | add (a d : Int)
def arenaA (s : AS) : Ra → Option Int × AS
  | .rq r => arenaI s r
  | .add a d => if s.In a then (some (w64 (s.at' a + d)), AS.log { s with cs := s.cs.set a.toNat (w64 (s.at' a + d)) } (s.who, (3, (a, (d, (w64 (s.at' a + d), (true, ()))))))) else (none, s)
theorem AS.Fit.actA {s : AS} {n : Nat} (f : s.Fit n) (r : Ra) : (arenaA s r).2.Fit (n + 1) ∧ (arenaA s r).2.sz = s.sz ∧ (arenaA s r).2.who = s.who ∧ (arenaA s r).2.wt = s.wt := by
  cases r with
  | rq r => exact f.act r
  | add a d =>
    obtain ⟨f1, f2, f3⟩ := f
    refine pif (P := fun p : Option Int × AS => p.2.Fit (n + 1) ∧ p.2.sz = s.sz ∧ p.2.who = s.who ∧ p.2.wt = s.wt) (fun _ => ⟨⟨?_, ?_, f3⟩, rfl, rfl, rfl⟩) fun _ => ⟨⟨Nat.le_succ_of_le f1, f2, f3⟩, rfl, rfl, rfl⟩
    · have := wl_len s.wt s.lg (s.who, (3, (a, (d, (w64 (s.at' a + d), (true, ()))))))
      show (wl s.wt s.lg _).length ≤ _
      omega
    · show ((s.cs.set a.toNat (w64 (s.at' a + d))).length : Int) ≤ s.sz
      rw [List.length_set]; exact f2

/-! ### a machine -/
/-- What all machines of a lot share. -/
structure PSt where
  base : Int
  workers : Int
  self : Int
  kind : Int
  at_ : Int
  k : Int
  then_ : Int
  code : Int
  value : Int
abbrev KPSt : Kd := .pair KP2 (.pair ki (.pair ki (.pair ki (.pair ki (.pair ki (.pair ki (.pair ki .nil)))))))
abbrev KPOp : Kd := .pair KPSt (.pair (.arr 64 KP2) (.pair KOp .nil))
def PSt.den (s : PSt) : Den KPSt := ((s.base, (s.workers, ())), (s.self, (s.kind, (s.at_, (s.k, (s.then_, (s.code, (s.value, ()))))))))
abbrev Dqs := Fin 64 → Den KP2
structure POp where
  st : PSt
  ds : Dqs
  look : DOp
def POp.den (o : POp) : Den KPOp := (o.st.den, (o.ds, (o.look.den, ())))
def PSt.zero : PSt := ⟨0, 0, 0, 0, 0, 0, 0, 0, 0⟩
def POp.zero : POp := ⟨.zero, fun _ => (0, (0, ())), .zero⟩

def PSt.over (s : PSt) (code v : Int) : PSt := { s with at_ := 0, code := code, value := v }
def PSt.back (s : PSt) (code : Int) : PSt := { s with then_ := code, at_ := 6 }
def PSt.other (s : PSt) : Int := Int.tmod (w64 (s.self + s.k)) s.workers
def PSt.flag (s : PSt) (i : Int) : Int := w64 (w64 (s.base + 2) + i)
def PSt.req (s : PSt) : Ra :=
  if s.at_ = 1 then .rq (.st (s.flag s.self) 1) else if s.at_ = 2 then .add (w64 (s.base + 0)) 1 else if s.at_ = 3 then .rq (.ld (w64 (s.base + 1)))
  else if s.at_ = 5 then .rq (.ld (s.flag s.self)) else if s.at_ = 6 then .rq (.cas (s.flag s.self) 1 0) else if s.at_ = 7 then .add (w64 (s.base + 0)) (-1)
  else if s.at_ = 8 then .rq (.ld (w64 (s.base + 0))) else if s.at_ = 9 then .rq (.cas (s.flag s.other) 1 0) else .rq (.st (w64 (s.base + 1)) 1)
def PSt.woken (s : PSt) (g : Int) : PSt :=
  if s.at_ = 8 then (if g ≤ 0 then PSt.over { s with at_ := 9 } 19 0 else if s.workers = 1 then PSt.over { s with at_ := 9 } 19 0 else { s with at_ := 9 })
  else if s.at_ = 9 then (if g = 1 then { s with at_ := 7 } else if w64 (s.k + 1) = s.workers then PSt.over { s with k := w64 (s.k + 1) } 19 0 else { s with k := w64 (s.k + 1) })
  else if s.at_ = 7 then s.over 18 s.other else s
def PSt.fin (s : PSt) : PSt := if s.workers ≤ s.k then s.over 20 0 else s
def PSt.finished (s : PSt) (g : Int) : PSt :=
  if s.at_ = 10 then PSt.fin { s with at_ := 9 } else if s.at_ = 9 then (if g = 1 then { s with at_ := 7 } else PSt.fin { s with at_ := 9, k := w64 (s.k + 1) })
  else PSt.fin { s with at_ := 9, k := w64 (s.k + 1) }
def POp.around (o : POp) : POp :=
  if o.st.workers ≤ w64 (o.st.k + 1) then { o with st := { o.st with k := w64 (o.st.k + 1), at_ := 5 } }
  else { o with st := { o.st with k := w64 (o.st.k + 1), at_ := 4 }, look := DOp.look (aget (n := 64) (a := KP2) o.ds (PSt.other { o.st with k := w64 (o.st.k + 1), at_ := 4 }).toNat).1 (aget (n := 64) (a := KP2) o.ds (PSt.other { o.st with k := w64 (o.st.k + 1), at_ := 4 }).toNat).2.1 }
def POp.rested (o : POp) (g : Int) : POp :=
  if o.st.at_ = 1 then { o with st := { o.st with at_ := 2 } } else if o.st.at_ = 2 then { o with st := { o.st with at_ := 3 } }
  else if o.st.at_ = 3 then (if g = 1 then { o with st := o.st.back 17 } else o.around)
  else if o.st.at_ = 5 then (if g = 1 then o else { o with st := o.st.over 16 0 })
  else if o.st.at_ = 6 then (if g = 1 then { o with st := { o.st with at_ := 7 } } else { o with st := PSt.over { o.st with at_ := 7 } o.st.then_ 0 })
  else if o.st.at_ = 7 then { o with st := o.st.over o.st.then_ 0 } else o
/-- Behind a look's step. -/
def POp.looked (o : POp) (l : DOp) : POp :=
  if l.answer.1 = 0 then { o with look := l } else if l.answer.1 = 7 then { o with look := l, st := o.st.back 16 } else if l.answer.1 = 8 then POp.around { o with look := l } else { o with look := l, st := o.st.over 1 0 }
def POp.after (o : POp) (g : Int) : POp :=
  if o.st.kind = 1 then o.rested g else if o.st.kind = 2 then { o with st := o.st.woken g } else if o.st.kind = 3 then (if g = 1 then { o with st := o.st.over 17 0 } else { o with st := o.st.over 16 0 }) else { o with st := o.st.finished g }
def stepP (s : AS) (o : POp) : AS × POp :=
  if o.st.kind = 0 then (s, o) else if o.st.at_ = 0 then (s, o) else if o.st.at_ = 4 then ((stepD arenaI s o.look).1, o.looked (stepD arenaI s o.look).2) else
  match (arenaA s o.st.req).1 with
  | none => ((arenaA s o.st.req).2, { o with st := o.st.over 1 0 })
  | some g => ((arenaA s o.st.req).2, o.after g)
def POp.answer (o : POp) : Int × Int := if o.st.kind = 0 then (1, 0) else if o.st.at_ ≠ 0 then (0, 0) else (o.st.code, o.st.value)
def POp.parked (o : POp) : Bool := if o.st.kind = 1 then decide (o.st.at_ = 5) else false

/-! ### the reference's -/
structure R9 where
  at_ : Int
  self : Int
  k : Int
  how : Int
  base : Int
  workers : Int
  ds : Sl
  t : Int
  code : Int
  v : Int
abbrev KR9 : Kd := .pair ki (.pair ki (.pair ki (.pair ki (.pair KP2 (.pair .sl (.pair ki (.pair ki (.pair ki .nil))))))))
def R9.den (r : R9) : Den KR9 := (r.at_, (r.self, (r.k, (r.how, ((r.base, (r.workers, ())), (r.ds, (r.t, (r.code, (r.v, ())))))))))
def R9.dead : R9 := ⟨0, 0, 0, 0, 0, 0, Sl.none, 0, 1, 0⟩
def R9.end_ (r : R9) (c v : Int) : R9 := { r with at_ := 0, code := c, v := v }
def R9.to (r : R9) (a : Int) : R9 := { r with at_ := a }
def R9.around (r : R9) (a : Int) (x : R9) : R9 := if r.workers ≤ w64 (r.k + 1) then x else { r with k := w64 (r.k + 1), at_ := a }
def R9.who (r : R9) : Int := Int.tmod (w64 (r.self + r.k)) r.workers
def R9.rested (r : R9) (v : Int) : R9 :=
  if r.at_ = 1 then r.to 2 else if r.at_ = 2 then r.to 3 else if r.at_ = 3 then (if v = 1 then R9.to { r with how := 17 } 7 else r.around 4 (r.to 6))
  else if r.at_ = 4 then R9.to { r with t := v } 5 else if r.at_ = 5 then (if r.t < v then R9.to { r with how := 16 } 7 else r.around 4 (r.to 6))
  else if r.at_ = 6 then (if v = 1 then r else r.end_ 16 0) else if r.at_ = 7 then (if v = 1 then r.to 8 else r.end_ r.how 0) else r.end_ r.how 0
def R9.told (r : R9) (v : Int) : R9 :=
  if r.at_ = 9 then (if v ≤ 0 then r.end_ 19 0 else r.around 10 (r.end_ 19 0)) else if r.at_ = 10 then (if v = 1 then r.to 11 else r.around 10 (r.end_ 19 0))
  else if r.at_ = 11 then r.end_ 18 r.who else if r.at_ = 12 then (if v = 1 then r.end_ 17 0 else r.end_ 16 0)
  else if r.at_ = 14 then (if v = 1 then r.to 15 else r.around 14 (r.end_ 20 0)) else r.around 14 (r.end_ 20 0)
def dqAt (ds : List (Den KP2)) (i : Int) : Den KP2 := ds[i.toNat]?.getD ((0 : Int), ((0 : Int), ()))
def R9.req (ds : List (Den KP2)) (r : R9) : Ra :=
  if r.at_ = 1 then .rq (.st (w64 (w64 (r.base + 2) + r.self)) 1) else if r.at_ = 2 then .add r.base 1 else if r.at_ = 3 then .rq (.ld (w64 (r.base + 1))) else if r.at_ = 12 then .rq (.ld (w64 (r.base + 1)))
  else if r.at_ = 4 then .rq (.ld (dqAt ds r.who).1) else if r.at_ = 5 then .rq (.ld (w64 ((dqAt ds r.who).1 + 1))) else if r.at_ = 6 then .rq (.ld (w64 (w64 (r.base + 2) + r.self)))
  else if r.at_ = 7 then .rq (.cas (w64 (w64 (r.base + 2) + r.self)) 1 0) else if r.at_ = 10 then .rq (.cas (w64 (w64 (r.base + 2) + r.who)) 1 0) else if r.at_ = 14 then .rq (.cas (w64 (w64 (r.base + 2) + r.who)) 1 0)
  else if r.at_ = 9 then .rq (.ld r.base) else if r.at_ = 13 then .rq (.st (w64 (r.base + 1)) 1) else .add r.base (-1)
def R9.after (r : R9) (g : Int) : R9 := if r.at_ ≤ 8 then r.rested g else r.told g
def stepR9 (ds : List (Den KP2)) (s : AS) (r : R9) : AS × R9 :=
  if r.at_ = 0 then (s, r) else
  match (arenaA s (r.req ds)).1 with
  | none => ((arenaA s (r.req ds)).2, r.end_ 1 0)
  | some g => ((arenaA s (r.req ds)).2, r.after g)
def R9.answer (r : R9) : Int × Int := if r.at_ ≠ 0 then (0, 0) else (r.code, r.v)
def R9.parked (r : R9) : Bool := decide (r.at_ = 6)

/-! ### they are the same -/
/-- Where a machine stands: the reference's place. -/
structure RunP (ds : List (Den KP2)) (o : POp) (r : R9) : Prop where
  b : r.base = o.st.base
  w : r.workers = o.st.workers
  s : r.self = o.st.self
  w1 : 1 ≤ o.st.workers
  w2 : o.st.workers ≤ 64
  s0 : 0 ≤ o.st.self
  s1 : o.st.self < o.st.workers
  bi : I64 o.st.base
  at_ : (o.st.kind = 1 ∧ (ds.length : Int) = o.st.workers ∧ (∀ (i : Nat) (h : i < 64), (i : Int) < o.st.workers → o.ds ⟨i, h⟩ = dqAt ds i ∧ I64 (dqAt ds i).1 ∧ ((i : Int) ≠ o.st.self → 1 ≤ (dqAt ds i).2.1 ∧ (dqAt ds i).2.1 ≤ 4096)) ∧
      (o.st.at_ = 1 ∧ r.at_ = 1 ∧ o.st.k = 0 ∧ r.k = 0 ∨ o.st.at_ = 2 ∧ r.at_ = 2 ∧ o.st.k = 0 ∧ r.k = 0 ∨ o.st.at_ = 3 ∧ r.at_ = 3 ∧ o.st.k = 0 ∧ r.k = 0
        ∨ o.st.at_ = 4 ∧ r.k = o.st.k ∧ 1 ≤ o.st.k ∧ o.st.k < o.st.workers ∧ (r.at_ = 4 ∧ o.look = ⟨4, 2, (dqAt ds r.who).1, (dqAt ds r.who).2.1, 0, 0, 0, 0, 0, 0, 0, 0, 0, false, 0, 0⟩ ∨ r.at_ = 5 ∧ o.look = ⟨4, 1, (dqAt ds r.who).1, (dqAt ds r.who).2.1, 0, r.t, 0, 0, 0, 0, 0, 0, 0, false, 0, 0⟩)
        ∨ o.st.at_ = 5 ∧ r.at_ = 6 ∨ o.st.at_ = 6 ∧ r.at_ = 7 ∧ r.how = o.st.then_ ∧ o.st.then_ ≠ 0 ∨ o.st.at_ = 7 ∧ r.at_ = 8 ∧ r.how = o.st.then_ ∧ o.st.then_ ≠ 0))
    ∨ (o.st.kind = 2 ∧ (o.st.at_ = 8 ∧ r.at_ = 9 ∧ o.st.k = 1 ∧ r.k = 0 ∨ o.st.at_ = 9 ∧ r.at_ = 10 ∧ r.k = o.st.k ∧ 1 ≤ o.st.k ∧ o.st.k < o.st.workers ∨ o.st.at_ = 7 ∧ r.at_ = 11 ∧ r.k = o.st.k ∧ 1 ≤ o.st.k ∧ o.st.k < o.st.workers))
    ∨ (o.st.kind = 3 ∧ o.st.at_ = 3 ∧ r.at_ = 12)
    ∨ (o.st.kind = 4 ∧ (o.st.at_ = 10 ∧ r.at_ = 13 ∧ o.st.k = 1 ∧ r.k = 0 ∨ o.st.at_ = 9 ∧ r.at_ = 14 ∧ r.k = o.st.k ∧ 1 ≤ o.st.k ∧ o.st.k < o.st.workers ∨ o.st.at_ = 7 ∧ r.at_ = 15 ∧ r.k = o.st.k ∧ 1 ≤ o.st.k ∧ o.st.k < o.st.workers))
def RelP (ds : List (Den KP2)) (o : POp) (r : R9) : Prop := (r.at_ = 0 ∧ (o.st.kind = 0 ∨ o.st.at_ = 0) ∧ o.answer = (r.code, r.v) ∧ r.code ≠ 0) ∨ RunP ds o r
end Go.Mx
