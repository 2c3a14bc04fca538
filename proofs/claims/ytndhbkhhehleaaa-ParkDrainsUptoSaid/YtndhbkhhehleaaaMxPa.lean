/-
  Parking: the lot's machines as plain functions, over an arena.
  Parking: the program's machine and the reference's make the same steps.
-/
import Derived.Test.YtndhbkhhehleaaaMxXa
set_option linter.unusedVariables false
set_option linter.unusedSimpArgs false
set_option linter.unusedSectionVars false
namespace Go.Mx

inductive Ra where
  | rq (r : Rq)
  | add (a d : Int)
def arenaA (s : AS) : Ra → Option Int × AS
  | .rq r => arenaI s r
  | .add a d => if s.In a then (some (w64 (s.at' a + d)), AS.log { s with cs := s.cs.set a.toNat (w64 (s.at' a + d)) } (s.who, (3, (a, (d, (w64 (s.at' a + d), (true, ()))))))) else (none, s)
theorem AS.Fit.actA {s : AS} {n : Nat} (f : s.Fit n) (r : Ra) : (arenaA s r).2.Fit (n + 1) ∧ (arenaA s r).2.sz = s.sz ∧ (arenaA s r).2.who = s.who ∧ (arenaA s r).2.wt = s.wt := by
  cases r with
  | rq r => exact f.act r
  | add a d =>
    obtain ⟨f1, f2, f3⟩ := f
    refine pif (P := fun p : Option Int × AS => p.2.Fit (n + 1) ∧ p.2.sz = s.sz ∧ p.2.who = s.who ∧ p.2.wt = s.wt) (fun _ => ⟨⟨?_, ?_, f3⟩, rfl, rfl, rfl⟩) fun _ => ⟨⟨Nat.le_succ_of_le f1, f2, f3⟩, rfl, rfl, rfl⟩
    · have := wl_len s.wt s.lg (s.who, (3, (a, (d, (w64 (s.at' a + d), (true, ()))))))
      show (wl s.wt s.lg _).length ≤ _
      omega
    · show ((s.cs.set a.toNat (w64 (s.at' a + d))).length : Int) ≤ s.sz
      rw [List.length_set]; exact f2

structure PSt where
  base : Int
  workers : Int
  self : Int
  kind : Int
  at_ : Int
  k : Int
  then_ : Int
  code : Int
  value : Int
abbrev KPSt : Kd := .pair KP2 (.pair ki (.pair ki (.pair ki (.pair ki (.pair ki (.pair ki (.pair ki .nil)))))))
abbrev KPOp : Kd := .pair KPSt (.pair (.arr 64 KP2) (.pair KOp .nil))
def PSt.den (s : PSt) : Den KPSt := ((s.base, (s.workers, ())), (s.self, (s.kind, (s.at_, (s.k, (s.then_, (s.code, (s.value, ()))))))))
abbrev Dqs := Fin 64 → Den KP2
structure POp where
  st : PSt
  ds : Dqs
  look : DOp
def POp.den (o : POp) : Den KPOp := (o.st.den, (o.ds, (o.look.den, ())))
def PSt.zero : PSt := ⟨0, 0, 0, 0, 0, 0, 0, 0, 0⟩
def POp.zero : POp := ⟨.zero, fun _ => (0, (0, ())), .zero⟩

def PSt.over (s : PSt) (code v : Int) : PSt := { s with at_ := 0, code := code, value := v }
def PSt.back (s : PSt) (code : Int) : PSt := { s with then_ := code, at_ := 6 }
def PSt.other (s : PSt) : Int := Int.tmod (w64 (s.self + s.k)) s.workers
def PSt.flag (s : PSt) (i : Int) : Int := w64 (w64 (s.base + 2) + i)
def PSt.req (s : PSt) : Ra :=
  if s.at_ = 1 then .rq (.st (s.flag s.self) 1) else if s.at_ = 2 then .add (w64 (s.base + 0)) 1 else if s.at_ = 3 then .rq (.ld (w64 (s.base + 1)))
  else if s.at_ = 5 then .rq (.ld (s.flag s.self)) else if s.at_ = 6 then .rq (.cas (s.flag s.self) 1 0) else if s.at_ = 7 then .add (w64 (s.base + 0)) (-1)
  else if s.at_ = 8 then .rq (.ld (w64 (s.base + 0))) else if s.at_ = 9 then .rq (.cas (s.flag s.other) 1 0) else .rq (.st (w64 (s.base + 1)) 1)
def PSt.woken (s : PSt) (g : Int) : PSt :=
  if s.at_ = 8 then (if g ≤ 0 then PSt.over { s with at_ := 9 } 19 0 else if s.workers = 1 then PSt.over { s with at_ := 9 } 19 0 else { s with at_ := 9 })
  else if s.at_ = 9 then (if g = 1 then { s with at_ := 7 } else if w64 (s.k + 1) = s.workers then PSt.over { s with k := w64 (s.k + 1) } 19 0 else { s with k := w64 (s.k + 1) })
  else if s.at_ = 7 then s.over 18 s.other else s
def PSt.fin (s : PSt) : PSt := if s.workers ≤ s.k then s.over 20 0 else s
def PSt.finished (s : PSt) (g : Int) : PSt :=
  if s.at_ = 10 then PSt.fin { s with at_ := 9 } else if s.at_ = 9 then (if g = 1 then { s with at_ := 7 } else PSt.fin { s with at_ := 9, k := w64 (s.k + 1) })
  else PSt.fin { s with at_ := 9, k := w64 (s.k + 1) }
def POp.around (o : POp) : POp :=
  if o.st.workers ≤ w64 (o.st.k + 1) then { o with st := { o.st with k := w64 (o.st.k + 1), at_ := 5 } }
  else { o with st := { o.st with k := w64 (o.st.k + 1), at_ := 4 }, look := DOp.look (aget (n := 64) (a := KP2) o.ds (PSt.other { o.st with k := w64 (o.st.k + 1), at_ := 4 }).toNat).1 (aget (n := 64) (a := KP2) o.ds (PSt.other { o.st with k := w64 (o.st.k + 1), at_ := 4 }).toNat).2.1 }
def POp.rested (o : POp) (g : Int) : POp :=
  if o.st.at_ = 1 then { o with st := { o.st with at_ := 2 } } else if o.st.at_ = 2 then { o with st := { o.st with at_ := 3 } }
  else if o.st.at_ = 3 then (if g = 1 then { o with st := o.st.back 17 } else o.around)
  else if o.st.at_ = 5 then (if g = 1 then o else { o with st := o.st.over 16 0 })
  else if o.st.at_ = 6 then (if g = 1 then { o with st := { o.st with at_ := 7 } } else { o with st := PSt.over { o.st with at_ := 7 } o.st.then_ 0 })
  else if o.st.at_ = 7 then { o with st := o.st.over o.st.then_ 0 } else o
def POp.looked (o : POp) (l : DOp) : POp :=
  if l.answer.1 = 0 then { o with look := l } else if l.answer.1 = 7 then { o with look := l, st := o.st.back 16 } else if l.answer.1 = 8 then POp.around { o with look := l } else { o with look := l, st := o.st.over 1 0 }
def POp.after (o : POp) (g : Int) : POp :=
  if o.st.kind = 1 then o.rested g else if o.st.kind = 2 then { o with st := o.st.woken g } else if o.st.kind = 3 then (if g = 1 then { o with st := o.st.over 17 0 } else { o with st := o.st.over 16 0 }) else { o with st := o.st.finished g }
def stepP (s : AS) (o : POp) : AS × POp :=
  if o.st.kind = 0 then (s, o) else if o.st.at_ = 0 then (s, o) else if o.st.at_ = 4 then ((stepD arenaI s o.look).1, o.looked (stepD arenaI s o.look).2) else
  match (arenaA s o.st.req).1 with
  | none => ((arenaA s o.st.req).2, { o with st := o.st.over 1 0 })
  | some g => ((arenaA s o.st.req).2, o.after g)
def POp.answer (o : POp) : Int × Int := if o.st.kind = 0 then (1, 0) else if o.st.at_ ≠ 0 then (0, 0) else (o.st.code, o.st.value)
def POp.parked (o : POp) : Bool := if o.st.kind = 1 then decide (o.st.at_ = 5) else false

structure R9 where
  at_ : Int
  self : Int
  k : Int
  how : Int
  base : Int
  workers : Int
  ds : Sl
  t : Int
  code : Int
  v : Int
abbrev KR9 : Kd := .pair ki (.pair ki (.pair ki (.pair ki (.pair KP2 (.pair .sl (.pair ki (.pair ki (.pair ki .nil))))))))
def R9.den (r : R9) : Den KR9 := (r.at_, (r.self, (r.k, (r.how, ((r.base, (r.workers, ())), (r.ds, (r.t, (r.code, (r.v, ())))))))))
def R9.dead : R9 := ⟨0, 0, 0, 0, 0, 0, Sl.none, 0, 1, 0⟩
def R9.end_ (r : R9) (c v : Int) : R9 := { r with at_ := 0, code := c, v := v }
def R9.to (r : R9) (a : Int) : R9 := { r with at_ := a }
def R9.around (r : R9) (a : Int) (x : R9) : R9 := if r.workers ≤ w64 (r.k + 1) then x else { r with k := w64 (r.k + 1), at_ := a }
def R9.who (r : R9) : Int := Int.tmod (w64 (r.self + r.k)) r.workers
def R9.rested (r : R9) (v : Int) : R9 :=
  if r.at_ = 1 then r.to 2 else if r.at_ = 2 then r.to 3 else if r.at_ = 3 then (if v = 1 then R9.to { r with how := 17 } 7 else r.around 4 (r.to 6))
  else if r.at_ = 4 then R9.to { r with t := v } 5 else if r.at_ = 5 then (if r.t < v then R9.to { r with how := 16 } 7 else r.around 4 (r.to 6))
  else if r.at_ = 6 then (if v = 1 then r else r.end_ 16 0) else if r.at_ = 7 then (if v = 1 then r.to 8 else r.end_ r.how 0) else r.end_ r.how 0
def R9.told (r : R9) (v : Int) : R9 :=
  if r.at_ = 9 then (if v ≤ 0 then r.end_ 19 0 else r.around 10 (r.end_ 19 0)) else if r.at_ = 10 then (if v = 1 then r.to 11 else r.around 10 (r.end_ 19 0))
  else if r.at_ = 11 then r.end_ 18 r.who else if r.at_ = 12 then (if v = 1 then r.end_ 17 0 else r.end_ 16 0)
  else if r.at_ = 14 then (if v = 1 then r.to 15 else r.around 14 (r.end_ 20 0)) else r.around 14 (r.end_ 20 0)
def dqAt (ds : List (Den KP2)) (i : Int) : Den KP2 := ds[i.toNat]?.getD ((0 : Int), ((0 : Int), ()))
def R9.req (ds : List (Den KP2)) (r : R9) : Ra :=
  if r.at_ = 1 then .rq (.st (w64 (w64 (r.base + 2) + r.self)) 1) else if r.at_ = 2 then .add r.base 1 else if r.at_ = 3 then .rq (.ld (w64 (r.base + 1))) else if r.at_ = 12 then .rq (.ld (w64 (r.base + 1)))
  else if r.at_ = 4 then .rq (.ld (dqAt ds r.who).1) else if r.at_ = 5 then .rq (.ld (w64 ((dqAt ds r.who).1 + 1))) else if r.at_ = 6 then .rq (.ld (w64 (w64 (r.base + 2) + r.self)))
  else if r.at_ = 7 then .rq (.cas (w64 (w64 (r.base + 2) + r.self)) 1 0) else if r.at_ = 10 then .rq (.cas (w64 (w64 (r.base + 2) + r.who)) 1 0) else if r.at_ = 14 then .rq (.cas (w64 (w64 (r.base + 2) + r.who)) 1 0)
  else if r.at_ = 9 then .rq (.ld r.base) else if r.at_ = 13 then .rq (.st (w64 (r.base + 1)) 1) else .add r.base (-1)
def R9.after (r : R9) (g : Int) : R9 := if r.at_ ≤ 8 then r.rested g else r.told g
def stepR9 (ds : List (Den KP2)) (s : AS) (r : R9) : AS × R9 :=
  if r.at_ = 0 then (s, r) else
  match (arenaA s (r.req ds)).1 with
  | none => ((arenaA s (r.req ds)).2, r.end_ 1 0)
  | some g => ((arenaA s (r.req ds)).2, r.after g)
def R9.answer (r : R9) : Int × Int := if r.at_ ≠ 0 then (0, 0) else (r.code, r.v)
def R9.parked (r : R9) : Bool := decide (r.at_ = 6)

structure RunP (ds : List (Den KP2)) (o : POp) (r : R9) : Prop where
  b : r.base = o.st.base
  w : r.workers = o.st.workers
  s : r.self = o.st.self
  w1 : 1 ≤ o.st.workers
  w2 : o.st.workers ≤ 64
  s0 : 0 ≤ o.st.self
  s1 : o.st.self < o.st.workers
  bi : I64 o.st.base
  at_ : (o.st.kind = 1 ∧ (ds.length : Int) = o.st.workers ∧ (∀ (i : Nat) (h : i < 64), (i : Int) < o.st.workers → o.ds ⟨i, h⟩ = dqAt ds i ∧ I64 (dqAt ds i).1 ∧ ((i : Int) ≠ o.st.self → 1 ≤ (dqAt ds i).2.1 ∧ (dqAt ds i).2.1 ≤ 4096)) ∧
      (o.st.at_ = 1 ∧ r.at_ = 1 ∧ o.st.k = 0 ∧ r.k = 0 ∨ o.st.at_ = 2 ∧ r.at_ = 2 ∧ o.st.k = 0 ∧ r.k = 0 ∨ o.st.at_ = 3 ∧ r.at_ = 3 ∧ o.st.k = 0 ∧ r.k = 0
        ∨ o.st.at_ = 4 ∧ r.k = o.st.k ∧ 1 ≤ o.st.k ∧ o.st.k < o.st.workers ∧ (r.at_ = 4 ∧ o.look = ⟨4, 2, (dqAt ds r.who).1, (dqAt ds r.who).2.1, 0, 0, 0, 0, 0, 0, 0, 0, 0, false, 0, 0⟩ ∨ r.at_ = 5 ∧ o.look = ⟨4, 1, (dqAt ds r.who).1, (dqAt ds r.who).2.1, 0, r.t, 0, 0, 0, 0, 0, 0, 0, false, 0, 0⟩)
        ∨ o.st.at_ = 5 ∧ r.at_ = 6 ∨ o.st.at_ = 6 ∧ r.at_ = 7 ∧ r.how = o.st.then_ ∧ o.st.then_ ≠ 0 ∨ o.st.at_ = 7 ∧ r.at_ = 8 ∧ r.how = o.st.then_ ∧ o.st.then_ ≠ 0))
    ∨ (o.st.kind = 2 ∧ (o.st.at_ = 8 ∧ r.at_ = 9 ∧ o.st.k = 1 ∧ r.k = 0 ∨ o.st.at_ = 9 ∧ r.at_ = 10 ∧ r.k = o.st.k ∧ 1 ≤ o.st.k ∧ o.st.k < o.st.workers ∨ o.st.at_ = 7 ∧ r.at_ = 11 ∧ r.k = o.st.k ∧ 1 ≤ o.st.k ∧ o.st.k < o.st.workers))
    ∨ (o.st.kind = 3 ∧ o.st.at_ = 3 ∧ r.at_ = 12)
    ∨ (o.st.kind = 4 ∧ (o.st.at_ = 10 ∧ r.at_ = 13 ∧ o.st.k = 1 ∧ r.k = 0 ∨ o.st.at_ = 9 ∧ r.at_ = 14 ∧ r.k = o.st.k ∧ 1 ≤ o.st.k ∧ o.st.k < o.st.workers ∨ o.st.at_ = 7 ∧ r.at_ = 15 ∧ r.k = o.st.k ∧ 1 ≤ o.st.k ∧ o.st.k < o.st.workers))
def RelP (ds : List (Den KP2)) (o : POp) (r : R9) : Prop := (r.at_ = 0 ∧ (o.st.kind = 0 ∨ o.st.at_ = 0) ∧ o.answer = (r.code, r.v) ∧ r.code ≠ 0) ∨ RunP ds o r
end Go.Mx

namespace Go.Mx

section
variable {ds : List (Den KP2)} {o : POp} {r : R9} {s : AS}
theorem RunP.k0 (R : RunP ds o r) : o.st.kind ≠ 0 := by
  rcases R.at_ with ⟨h, _⟩ | ⟨h, _⟩ | ⟨h, _⟩ | ⟨h, _⟩ <;> omega
theorem RunP.a0 (R : RunP ds o r) : o.st.at_ ≠ 0 ∧ r.at_ ≠ 0 := by
  rcases R.at_ with ⟨_, _, _, h⟩ | ⟨_, h⟩ | ⟨_, h⟩ | ⟨_, h⟩
  · rcases h with h | h | h | h | h | h | h
    · exact ⟨by omega, by omega⟩
    · exact ⟨by omega, by omega⟩
    · exact ⟨by omega, by omega⟩
    · obtain ⟨h1, _, _, _, h | h⟩ := h
      · exact ⟨by omega, by omega⟩
      · exact ⟨by omega, by omega⟩
    · exact ⟨by omega, by omega⟩
    · exact ⟨by omega, by omega⟩
    · exact ⟨by omega, by omega⟩
  · rcases h with h | h | h <;> exact ⟨by omega, by omega⟩
  · exact ⟨by omega, by omega⟩
  · rcases h with h | h | h <;> exact ⟨by omega, by omega⟩
theorem RelP.over (hk : o.st.kind ≠ 0) (c v : Int) (l : DOp) (hc : c ≠ 0 := by decide) : RelP ds { o with st := o.st.over c v, look := l } (r.end_ c v) :=
  .inl ⟨rfl, .inr rfl, by unfold POp.answer; rw [if_neg (show ¬ (PSt.over o.st c v).kind = 0 from hk)]; rfl, hc⟩
theorem RelP.over' {st : PSt} {d : Dqs} {l : DOp} (hk : st.kind ≠ 0) {c v : Int} {r' : R9} (h1 : r'.at_ = 0) (h2 : (r'.code, r'.v) = (c, v)) (hc : r'.code ≠ 0 := by decide) : RelP ds ⟨st.over c v, d, l⟩ r' :=
  .inl ⟨h1, .inr rfl, by unfold POp.answer; rw [if_neg (show ¬ (PSt.over st c v).kind = 0 from hk), h2]; rfl, hc⟩
def SimP (ds : List (Den KP2)) (s : AS) (o : POp) (r : R9) : Prop := (stepP s o).1 = (stepR9 ds s r).1 ∧ RelP ds (stepP s o).2 (stepR9 ds s r).2
theorem sim_plain (hk : o.st.kind ≠ 0) (ha : o.st.at_ ≠ 0) (h4 : o.st.at_ ≠ 4) (hr : r.at_ ≠ 0) (hq : r.req ds = o.st.req) (hA : ∀ g, RelP ds (o.after g) (r.after g)) : SimP ds s o r := by
  unfold SimP stepP stepR9
  rw [if_neg hk, if_neg ha, if_neg h4, if_neg hr, hq]
  cases e : (arenaA s o.st.req).1 with
  | none => exact ⟨rfl, .over hk 1 0 o.look⟩
  | some g => exact ⟨rfl, hA g⟩
theorem w64_succ {k : Int} (a : 0 ≤ k) (b : k ≤ 1000000000) : w64 (k + 1) = k + 1 := by rw [w64_of] <;> omega
theorem other_eq (hw : r.workers = o.st.workers) (hs : r.self = o.st.self) (hk : r.k = o.st.k) : r.who = o.st.other := by unfold R9.who PSt.other; rw [hw, hs, hk]
theorem other_rng {self k w : Int} (w1 : 1 ≤ w) (w2 : w ≤ 64) (s0 : 0 ≤ self) (s1 : self < w) (k1 : 1 ≤ k) (k2 : k < w) : 0 ≤ Int.tmod (w64 (self + k)) w ∧ Int.tmod (w64 (self + k)) w < w ∧ Int.tmod (w64 (self + k)) w ≠ self := by
  rw [w64_of (by omega) (by omega), Int.tmod_eq_emod_of_nonneg (by omega)]
  refine ⟨Int.emod_nonneg _ (by omega), Int.emod_lt_of_pos _ (by omega), fun e => ?_⟩
  by_cases c : self + k < w
  · rw [Int.emod_eq_of_lt (by omega) c] at e; omega
  · have : (self + k) % w = self + k - w := by
      rw [← Int.sub_emod_right, Int.emod_eq_of_lt (by omega) (by omega)]
    omega
theorem RunP.around (R : RunP ds o r) (hk : o.st.kind = 1) (k0 : 0 ≤ o.st.k) (k1 : o.st.k < o.st.workers) (he : r.k = o.st.k) (hd : (ds.length : Int) = o.st.workers) (dd : ∀ (i : Nat) (h : i < 64), (i : Int) < o.st.workers → o.ds ⟨i, h⟩ = dqAt ds i ∧ I64 (dqAt ds i).1 ∧ ((i : Int) ≠ o.st.self → 1 ≤ (dqAt ds i).2.1 ∧ (dqAt ds i).2.1 ≤ 4096)) (l : DOp) :
    RelP ds (POp.around { o with look := l }) (r.around 4 (r.to 6)) := by
  have w2 := R.w2
  have e1 := w64_succ k0 (by omega)
  unfold POp.around R9.around
  dsimp only
  rw [he, e1]
  by_cases c : o.st.workers ≤ o.st.k + 1
  · rw [if_pos c, if_pos (by rw [R.w]; exact c)]
    exact .inr { b := R.b, w := R.w, s := R.s, w1 := R.w1, w2 := R.w2, s0 := R.s0, s1 := R.s1, bi := R.bi, at_ := .inl ⟨hk, hd, dd, .inr (.inr (.inr (.inr (.inl ⟨rfl, rfl⟩))))⟩ }
  · rw [if_neg c, if_neg (by rw [R.w]; exact c)]
    obtain ⟨g0, g1, g2⟩ := other_rng (k := o.st.k + 1) R.w1 R.w2 R.s0 R.s1 (by omega) (by omega)
    have hwho : R9.who { r with k := o.st.k + 1, at_ := 4 } = Int.tmod (w64 (o.st.self + (o.st.k + 1))) o.st.workers := by unfold R9.who; dsimp only; rw [R.w, R.s]
    have hoth : PSt.other { o.st with k := o.st.k + 1, at_ := 4 } = Int.tmod (w64 (o.st.self + (o.st.k + 1))) o.st.workers := rfl
    refine .inr { b := R.b, w := R.w, s := R.s, w1 := R.w1, w2 := R.w2, s0 := R.s0, s1 := R.s1, bi := R.bi, at_ := .inl ⟨hk, hd, dd, .inr (.inr (.inr (.inl ⟨rfl, rfl, show 1 ≤ o.st.k + 1 by omega, show o.st.k + 1 < o.st.workers by omega, .inl ⟨rfl, ?_⟩⟩)))⟩ }
    show DOp.look _ _ = _
    rw [hwho, hoth]
    generalize Int.tmod (w64 (o.st.self + (o.st.k + 1))) o.st.workers = x at g0 g1 g2
    have hx : (x.toNat : Int) = x := by omega
    obtain ⟨d1, _, d3⟩ := dd x.toNat (by omega) (by omega)
    rw [hx] at d1 d3
    obtain ⟨m1, m2⟩ := d3 g2
    have : aget (n := 64) (a := KP2) o.ds x.toNat = dqAt ds x := by unfold aget; rw [dif_pos (show x.toNat < 64 by omega)]; exact d1
    rw [this]
    unfold DOp.look DOp.begin
    rw [if_neg (Int.not_lt.2 m1), if_neg (Int.not_lt.2 m2)]
theorem sim_rest (R : RunP ds o r) (hk : o.st.kind = 1) (hd : (ds.length : Int) = o.st.workers) (dd : ∀ (i : Nat) (h : i < 64), (i : Int) < o.st.workers → o.ds ⟨i, h⟩ = dqAt ds i ∧ I64 (dqAt ds i).1 ∧ ((i : Int) ≠ o.st.self → 1 ≤ (dqAt ds i).2.1 ∧ (dqAt ds i).2.1 ≤ 4096))
    (h : o.st.at_ = 1 ∧ r.at_ = 1 ∧ o.st.k = 0 ∧ r.k = 0 ∨ o.st.at_ = 2 ∧ r.at_ = 2 ∧ o.st.k = 0 ∧ r.k = 0 ∨ o.st.at_ = 3 ∧ r.at_ = 3 ∧ o.st.k = 0 ∧ r.k = 0
        ∨ o.st.at_ = 4 ∧ r.k = o.st.k ∧ 1 ≤ o.st.k ∧ o.st.k < o.st.workers ∧ (r.at_ = 4 ∧ o.look = ⟨4, 2, (dqAt ds r.who).1, (dqAt ds r.who).2.1, 0, 0, 0, 0, 0, 0, 0, 0, 0, false, 0, 0⟩ ∨ r.at_ = 5 ∧ o.look = ⟨4, 1, (dqAt ds r.who).1, (dqAt ds r.who).2.1, 0, r.t, 0, 0, 0, 0, 0, 0, 0, false, 0, 0⟩)
        ∨ o.st.at_ = 5 ∧ r.at_ = 6 ∨ o.st.at_ = 6 ∧ r.at_ = 7 ∧ r.how = o.st.then_ ∧ o.st.then_ ≠ 0 ∨ o.st.at_ = 7 ∧ r.at_ = 8 ∧ r.how = o.st.then_ ∧ o.st.then_ ≠ 0) : SimP ds s o r := by
  have hk0 : o.st.kind ≠ 0 := by omega
  have hb := R.b
  have hs := R.s
  have hb0 : w64 o.st.base = o.st.base := R.bi
  have w1 := R.w1
  rcases h with ⟨h1, h2, h3, h4⟩ | ⟨h1, h2, h3, h4⟩ | ⟨h1, h2, h3, h4⟩ | ⟨h1, h2, h3, h4, h5⟩ | ⟨h1, h2⟩ | ⟨h1, h2, h3, h9⟩ | ⟨h1, h2, h3, h9⟩
  · refine sim_plain hk0 (by omega) (by omega) (by omega) (by simp [R9.req, PSt.req, h1, h2, PSt.flag, hb, hs]) fun g => ?_
    have e1 : o.after g = { o with st := { o.st with at_ := 2 } } := by simp [POp.after, POp.rested, hk, h1]
    have e2 : r.after g = r.to 2 := by simp [R9.after, R9.rested, h2]
    rw [e1, e2]
    exact .inr { b := R.b, w := R.w, s := R.s, w1 := R.w1, w2 := R.w2, s0 := R.s0, s1 := R.s1, bi := R.bi, at_ := .inl ⟨hk, hd, dd, .inr (.inl ⟨rfl, rfl, h3, h4⟩)⟩ }
  · refine sim_plain hk0 (by omega) (by omega) (by omega) (by simp [R9.req, PSt.req, h1, h2, hb, hb0]) fun g => ?_
    have e1 : o.after g = { o with st := { o.st with at_ := 3 } } := by simp [POp.after, POp.rested, hk, h1]
    have e2 : r.after g = r.to 3 := by simp [R9.after, R9.rested, h2]
    rw [e1, e2]
    exact .inr { b := R.b, w := R.w, s := R.s, w1 := R.w1, w2 := R.w2, s0 := R.s0, s1 := R.s1, bi := R.bi, at_ := .inl ⟨hk, hd, dd, .inr (.inr (.inl ⟨rfl, rfl, h3, h4⟩))⟩ }
  · refine sim_plain hk0 (by omega) (by omega) (by omega) (by simp [R9.req, PSt.req, h1, h2, hb]) fun g => ?_
    by_cases g1 : g = 1
    · have e1 : o.after g = { o with st := o.st.back 17 } := by simp [POp.after, POp.rested, hk, h1, g1]
      have e2 : r.after g = R9.to { r with how := 17 } 7 := by simp [R9.after, R9.rested, h2, g1]
      rw [e1, e2]
      exact .inr { b := R.b, w := R.w, s := R.s, w1 := R.w1, w2 := R.w2, s0 := R.s0, s1 := R.s1, bi := R.bi, at_ := .inl ⟨hk, hd, dd, .inr (.inr (.inr (.inr (.inr (.inl ⟨rfl, rfl, rfl, by first | (show (17:Int) ≠ 0; decide) | (show (16:Int) ≠ 0; decide)⟩)))))⟩ }
    · have e1 : o.after g = o.around := by simp [POp.after, POp.rested, hk, h1, g1]
      have e2 : r.after g = r.around 4 (r.to 6) := by simp [R9.after, R9.rested, h2, g1]
      rw [e1, e2]
      exact R.around hk (by omega) (by omega) (by omega) hd dd o.look
  · -- a look
    have hw : R9.who r = o.st.other := other_eq R.w R.s h2
    obtain ⟨g0, g1, g2⟩ := other_rng R.w1 R.w2 R.s0 R.s1 h3 h4
    have hw' : R9.who r = Int.tmod (w64 (o.st.self + o.st.k)) o.st.workers := hw
    rw [← hw'] at g0 g1 g2
    obtain ⟨d1, d2, d3⟩ := dd (R9.who r).toNat (by have := R.w2; omega) (by omega)
    rw [Int.toNat_of_nonneg g0] at d1 d2 d3
    have l0 : ∀ t, (⟨4, t, (dqAt ds r.who).1, (dqAt ds r.who).2.1, 0, 0, 0, 0, 0, 0, 0, 0, 0, false, 0, 0⟩ : DOp) ≠ DOp.zero := fun t e => by have := congrArg DOp.kind e; simp [DOp.zero] at this
    unfold SimP stepP
    rw [if_neg hk0, if_neg (by omega), if_pos h1]
    rcases h5 with ⟨h5, h6⟩ | ⟨h5, h6⟩
    · have q1 : R9.req ds r = .rq (.ld (dqAt ds r.who).1) := by simp [R9.req, h5]
      have q2 : o.look.req = .ld (dqAt ds r.who).1 := by
        rw [h6]; simp [DOp.req]
        exact d2
      have nz : o.look ≠ DOp.zero := by rw [h6]; exact l0 _
      unfold stepD
      rw [if_neg nz, if_neg (by rw [h6]; simp), q2]
      unfold stepR9
      rw [if_neg (by omega), q1]
      show _ ∧ _
      cases e : (arenaI s (.ld (dqAt ds r.who).1)).1 with
      | none =>
        have e' : (arenaA s (.rq (.ld (dqAt ds r.who).1))).1 = none := e
        rw [e']
        refine ⟨rfl, ?_⟩
        have : o.looked (o.look.over 1 0) = { o with st := o.st.over 1 0, look := o.look.over 1 0 } := by
          have ha : (o.look.over 1 0).answer = (1, 0) := by unfold DOp.answer; rw [if_neg (by rw [h6]; intro e; have := congrArg DOp.kind e; simp [DOp.zero, DOp.over] at this)]; rfl
          unfold POp.looked; rw [ha]; rfl
        show RelP ds (o.looked (o.look.over 1 0)) (r.end_ 1 0)
        rw [this]
        exact .over hk0 1 0 _
      | some g =>
        have e' : (arenaA s (.rq (.ld (dqAt ds r.who).1))).1 = some g := e
        rw [e']
        refine ⟨rfl, ?_⟩
        show RelP ds (o.looked (o.look.after g)) (r.after g)
        have a1 : o.look.after g = ⟨4, 1, (dqAt ds r.who).1, (dqAt ds r.who).2.1, 0, g, 0, 0, 0, 0, 0, 0, 0, false, 0, 0⟩ := by rw [h6]; rfl
        have a2 : (o.look.after g).answer = (0, 0) := by
          rw [a1]; unfold DOp.answer; rw [if_neg (fun e => by have := congrArg DOp.kind e; simp [DOp.zero] at this)]; rfl
        have e1 : o.looked (o.look.after g) = { o with look := o.look.after g } := by unfold POp.looked; rw [a2]; rfl
        have e2 : r.after g = R9.to { r with t := g } 5 := by simp [R9.after, R9.rested, h5]
        rw [e1, e2, a1]
        exact .inr { b := R.b, w := R.w, s := R.s, w1 := R.w1, w2 := R.w2, s0 := R.s0, s1 := R.s1, bi := R.bi, at_ := .inl ⟨hk, hd, dd, .inr (.inr (.inr (.inl ⟨h1, h2, h3, h4, .inr ⟨rfl, rfl⟩⟩)))⟩ }
    · have q1 : R9.req ds r = .rq (.ld (w64 ((dqAt ds r.who).1 + 1))) := by simp [R9.req, h5]
      have q2 : o.look.req = .ld (w64 ((dqAt ds r.who).1 + 1)) := by rw [h6]; simp [DOp.req]
      have nz : o.look ≠ DOp.zero := by rw [h6]; intro e; have := congrArg DOp.kind e; simp [DOp.zero] at this
      unfold stepD
      rw [if_neg nz, if_neg (by rw [h6]; simp), q2]
      unfold stepR9
      rw [if_neg (by omega), q1]
      show _ ∧ _
      cases e : (arenaI s (.ld (w64 ((dqAt ds r.who).1 + 1)))).1 with
      | none =>
        have e' : (arenaA s (.rq (.ld (w64 ((dqAt ds r.who).1 + 1))))).1 = none := e
        rw [e']
        refine ⟨rfl, ?_⟩
        have : o.looked (o.look.over 1 0) = { o with st := o.st.over 1 0, look := o.look.over 1 0 } := by
          have ha : (o.look.over 1 0).answer = (1, 0) := by unfold DOp.answer; rw [if_neg (by rw [h6]; intro e; have := congrArg DOp.kind e; simp [DOp.zero, DOp.over] at this)]; rfl
          unfold POp.looked; rw [ha]; rfl
        show RelP ds (o.looked (o.look.over 1 0)) (r.end_ 1 0)
        rw [this]
        exact .over hk0 1 0 _
      | some g =>
        have e' : (arenaA s (.rq (.ld (w64 ((dqAt ds r.who).1 + 1))))).1 = some g := e
        rw [e']
        refine ⟨rfl, ?_⟩
        show RelP ds (o.looked (o.look.after g)) (r.after g)
        have ans : ∀ c, (DOp.over ⟨4, 1, (dqAt ds r.who).1, (dqAt ds r.who).2.1, 0, r.t, 0, 0, 0, 0, 0, 0, 0, false, 0, 0⟩ c 0).answer = (c, 0) := fun c => by
          unfold DOp.answer; rw [if_neg (fun e => by have := congrArg DOp.kind e; simp [DOp.zero, DOp.over] at this)]; rfl
        by_cases c : r.t < g
        · have a1 : o.look.after g = DOp.over ⟨4, 1, (dqAt ds r.who).1, (dqAt ds r.who).2.1, 0, r.t, 0, 0, 0, 0, 0, 0, 0, false, 0, 0⟩ 7 0 := by rw [h6]; exact if_pos c
          have e1 : o.looked (o.look.after g) = { o with look := o.look.after g, st := o.st.back 16 } := by unfold POp.looked; rw [a1, ans]; rfl
          have e2 : r.after g = R9.to { r with how := 16 } 7 := by simp [R9.after, R9.rested, h5, c]
          rw [e1, e2]
          exact .inr { b := R.b, w := R.w, s := R.s, w1 := R.w1, w2 := R.w2, s0 := R.s0, s1 := R.s1, bi := R.bi, at_ := .inl ⟨hk, hd, dd, .inr (.inr (.inr (.inr (.inr (.inl ⟨rfl, rfl, rfl, by first | (show (17:Int) ≠ 0; decide) | (show (16:Int) ≠ 0; decide)⟩)))))⟩ }
        · have a1 : o.look.after g = DOp.over ⟨4, 1, (dqAt ds r.who).1, (dqAt ds r.who).2.1, 0, r.t, 0, 0, 0, 0, 0, 0, 0, false, 0, 0⟩ 8 0 := by rw [h6]; exact if_neg c
          have e1 : o.looked (o.look.after g) = POp.around { o with look := o.look.after g } := by unfold POp.looked; rw [a1, ans]; rfl
          have e2 : r.after g = r.around 4 (r.to 6) := by simp [R9.after, R9.rested, h5, c]
          rw [e1, e2]
          exact R.around hk (by omega) (by omega) h2 hd dd _
  · refine sim_plain hk0 (by omega) (by omega) (by omega) (by simp [R9.req, PSt.req, h1, h2, PSt.flag, hb, hs]) fun g => ?_
    by_cases g1 : g = 1
    · have e1 : o.after g = o := by simp [POp.after, POp.rested, hk, h1, g1]
      have e2 : r.after g = r := by simp [R9.after, R9.rested, h2, g1]
      rw [e1, e2]
      exact .inr R
    · have e1 : o.after g = { o with st := o.st.over 16 0 } := by simp [POp.after, POp.rested, hk, h1, g1]
      have e2 : r.after g = r.end_ 16 0 := by simp [R9.after, R9.rested, h2, g1]
      rw [e1, e2]
      exact .over hk0 16 0 o.look
  · refine sim_plain hk0 (by omega) (by omega) (by omega) (by simp [R9.req, PSt.req, h1, h2, PSt.flag, hb, hs]) fun g => ?_
    by_cases g1 : g = 1
    · have e1 : o.after g = { o with st := { o.st with at_ := 7 } } := by simp [POp.after, POp.rested, hk, h1, g1]
      have e2 : r.after g = r.to 8 := by simp [R9.after, R9.rested, h2, g1]
      rw [e1, e2]
      exact .inr { b := R.b, w := R.w, s := R.s, w1 := R.w1, w2 := R.w2, s0 := R.s0, s1 := R.s1, bi := R.bi, at_ := .inl ⟨hk, hd, dd, .inr (.inr (.inr (.inr (.inr (.inr ⟨rfl, rfl, h3, h9⟩)))))⟩ }
    · have e1 : o.after g = { o with st := o.st.over o.st.then_ 0 } := by simp [POp.after, POp.rested, hk, h1, g1, PSt.over]
      have e2 : r.after g = r.end_ o.st.then_ 0 := by simp [R9.after, R9.rested, h2, g1, h3]
      rw [e1, e2]
      exact .over hk0 _ 0 o.look h9
  · refine sim_plain hk0 (by omega) (by omega) (by omega) (by simp [R9.req, PSt.req, h1, h2, hb, hb0]) fun g => ?_
    have e1 : o.after g = { o with st := o.st.over o.st.then_ 0 } := by simp [POp.after, POp.rested, hk, h1, PSt.over]
    have e2 : r.after g = r.end_ o.st.then_ 0 := by simp [R9.after, R9.rested, h2, h3]
    rw [e1, e2]
    exact .over hk0 _ 0 o.look h9
theorem sim_wake (R : RunP ds o r) (hk : o.st.kind = 2) (h : o.st.at_ = 8 ∧ r.at_ = 9 ∧ o.st.k = 1 ∧ r.k = 0 ∨ o.st.at_ = 9 ∧ r.at_ = 10 ∧ r.k = o.st.k ∧ 1 ≤ o.st.k ∧ o.st.k < o.st.workers ∨ o.st.at_ = 7 ∧ r.at_ = 11 ∧ r.k = o.st.k ∧ 1 ≤ o.st.k ∧ o.st.k < o.st.workers) : SimP ds s o r := by
  have hk0 : o.st.kind ≠ 0 := by omega
  have hb := R.b
  have hb0 : w64 o.st.base = o.st.base := R.bi
  have w1 := R.w1
  have w2 := R.w2
  rcases h with ⟨h1, h2, h3, h4⟩ | ⟨h1, h2, h3, h4, h5⟩ | ⟨h1, h2, h3, h4, h5⟩
  · refine sim_plain hk0 (by omega) (by omega) (by omega) (by simp [R9.req, PSt.req, h1, h2, hb, hb0]) fun g => ?_
    by_cases g1 : g ≤ 0
    · have e1 : o.after g = { o with st := PSt.over { o.st with at_ := 9 } 19 0 } := by simp [POp.after, PSt.woken, hk, h1, g1]
      have e2 : r.after g = r.end_ 19 0 := by simp [R9.after, R9.told, h2, g1]
      rw [e1, e2]
      exact .over hk0 19 0 o.look
    · have e2 : r.after g = r.around 10 (r.end_ 19 0) := by simp [R9.after, R9.told, h2, g1]
      rw [e2]
      unfold R9.around
      rw [h4, show w64 (0 + 1) = 1 by decide, R.w]
      by_cases c : o.st.workers = 1
      · have e1 : o.after g = { o with st := PSt.over { o.st with at_ := 9 } 19 0 } := by simp [POp.after, PSt.woken, hk, h1, g1, c]
        rw [e1, if_pos (by omega)]
        exact .over hk0 19 0 o.look
      · have e1 : o.after g = { o with st := { o.st with at_ := 9 } } := by simp [POp.after, PSt.woken, hk, h1, g1, c]
        rw [e1, if_neg (by omega)]
        exact .inr { b := R.b, w := rfl, s := R.s, w1 := R.w1, w2 := R.w2, s0 := R.s0, s1 := R.s1, bi := R.bi, at_ := .inr (.inl ⟨hk, .inr (.inl ⟨rfl, rfl, h3.symm, by show 1 ≤ o.st.k; omega, by show o.st.k < o.st.workers; omega⟩)⟩) }
  · have hw := other_eq R.w R.s h3
    refine sim_plain hk0 (by omega) (by omega) (by omega) (by simp [R9.req, PSt.req, h1, h2, PSt.flag, hb, hw]) fun g => ?_
    by_cases g1 : g = 1
    · have e1 : o.after g = { o with st := { o.st with at_ := 7 } } := by simp [POp.after, PSt.woken, hk, h1, g1]
      have e2 : r.after g = r.to 11 := by simp [R9.after, R9.told, h2, g1]
      rw [e1, e2]
      exact .inr { b := R.b, w := R.w, s := R.s, w1 := R.w1, w2 := R.w2, s0 := R.s0, s1 := R.s1, bi := R.bi, at_ := .inr (.inl ⟨hk, .inr (.inr ⟨rfl, rfl, h3, h4, h5⟩)⟩) }
    · have e2 : r.after g = r.around 10 (r.end_ 19 0) := by simp [R9.after, R9.told, h2, g1]
      have ek := w64_succ (k := o.st.k) (by omega) (by omega)
      rw [e2]
      unfold R9.around
      rw [h3, ek, R.w]
      by_cases c : o.st.k + 1 = o.st.workers
      · have e1 : o.after g = { o with st := PSt.over { o.st with k := w64 (o.st.k + 1) } 19 0 } := by
          unfold POp.after PSt.woken
          rw [if_neg (by omega), if_pos hk, if_neg (by omega), if_pos h1, if_neg g1, if_pos (by omega)]
        rw [e1, if_pos (by omega)]
        exact RelP.over' (st := { o.st with k := w64 (o.st.k + 1) }) (r' := r.end_ 19 0) hk0 rfl rfl (by show (19:Int) ≠ 0; decide)
      · have e1 : o.after g = { o with st := { o.st with k := w64 (o.st.k + 1) } } := by simp [POp.after, PSt.woken, hk, h1, g1, ek, c]
        rw [e1, ek, if_neg (by omega)]
        exact .inr { b := R.b, w := rfl, s := R.s, w1 := R.w1, w2 := R.w2, s0 := R.s0, s1 := R.s1, bi := R.bi, at_ := .inr (.inl ⟨hk, .inr (.inl ⟨h1, rfl, rfl, by show 1 ≤ o.st.k + 1; omega, by show o.st.k + 1 < o.st.workers; omega⟩)⟩) }
  · have hw := other_eq R.w R.s h3
    refine sim_plain hk0 (by omega) (by omega) (by omega) (by simp [R9.req, PSt.req, h1, h2, hb, hb0]) fun g => ?_
    have e1 : o.after g = { o with st := o.st.over 18 o.st.other } := by simp [POp.after, PSt.woken, hk, h1]
    have e2 : r.after g = r.end_ 18 o.st.other := by simp [R9.after, R9.told, h2, hw]
    rw [e1, e2]
    exact .over hk0 _ _ o.look
theorem fin_around (R : RunP ds o r) (hk : o.st.kind = 4) (k : Int) (k0 : 1 ≤ k) (k1 : k ≤ o.st.workers) (hr : w64 (r.k + 1) = k) : RelP ds { o with st := PSt.fin { o.st with at_ := 9, k := k } } (r.around 14 (r.end_ 20 0)) := by
  unfold R9.around PSt.fin
  dsimp only
  rw [hr, R.w]
  by_cases c : o.st.workers ≤ k
  · rw [if_pos c, if_pos c]
    exact RelP.over' (st := { o.st with at_ := 9, k := k }) (r' := r.end_ 20 0) (show o.st.kind ≠ 0 by omega) rfl rfl (by show (20:Int) ≠ 0; decide)
  · rw [if_neg c, if_neg c]
    exact .inr { b := R.b, w := rfl, s := R.s, w1 := R.w1, w2 := R.w2, s0 := R.s0, s1 := R.s1, bi := R.bi, at_ := .inr (.inr (.inr ⟨hk, .inr (.inl ⟨rfl, rfl, rfl, k0, by show k < o.st.workers; omega⟩)⟩)) }
theorem sim_finish (R : RunP ds o r) (hk : o.st.kind = 4) (h : o.st.at_ = 10 ∧ r.at_ = 13 ∧ o.st.k = 1 ∧ r.k = 0 ∨ o.st.at_ = 9 ∧ r.at_ = 14 ∧ r.k = o.st.k ∧ 1 ≤ o.st.k ∧ o.st.k < o.st.workers ∨ o.st.at_ = 7 ∧ r.at_ = 15 ∧ r.k = o.st.k ∧ 1 ≤ o.st.k ∧ o.st.k < o.st.workers) : SimP ds s o r := by
  have hk0 : o.st.kind ≠ 0 := by omega
  have hb := R.b
  have hb0 : w64 o.st.base = o.st.base := R.bi
  have w1 := R.w1
  have w2 := R.w2
  rcases h with ⟨h1, h2, h3, h4⟩ | ⟨h1, h2, h3, h4, h5⟩ | ⟨h1, h2, h3, h4, h5⟩
  · refine sim_plain hk0 (by omega) (by omega) (by omega) (by simp [R9.req, PSt.req, h1, h2, hb]) fun g => ?_
    have e1 : o.after g = { o with st := PSt.fin { o.st with at_ := 9, k := o.st.k } } := by
      unfold POp.after PSt.finished
      rw [if_neg (by omega), if_neg (by omega), if_neg (by omega), if_pos h1]
    have e2 : r.after g = r.around 14 (r.end_ 20 0) := by simp [R9.after, R9.told, h2]
    rw [e1, e2]
    exact fin_around R hk o.st.k (by omega) (by omega) (by rw [h4, h3]; decide)
  · have hw := other_eq R.w R.s h3
    have ek := w64_succ (k := o.st.k) (by omega) (by omega)
    refine sim_plain hk0 (by omega) (by omega) (by omega) (by simp [R9.req, PSt.req, h1, h2, PSt.flag, hb, hw]) fun g => ?_
    by_cases g1 : g = 1
    · have e1 : o.after g = { o with st := { o.st with at_ := 7 } } := by simp [POp.after, PSt.finished, hk, h1, g1]
      have e2 : r.after g = r.to 15 := by simp [R9.after, R9.told, h2, g1]
      rw [e1, e2]
      exact .inr { b := R.b, w := R.w, s := R.s, w1 := R.w1, w2 := R.w2, s0 := R.s0, s1 := R.s1, bi := R.bi, at_ := .inr (.inr (.inr ⟨hk, .inr (.inr ⟨rfl, rfl, h3, h4, h5⟩)⟩)) }
    · have e1 : o.after g = { o with st := PSt.fin { o.st with at_ := 9, k := o.st.k + 1 } } := by simp [POp.after, PSt.finished, hk, h1, g1, ek]
      have e2 : r.after g = r.around 14 (r.end_ 20 0) := by simp [R9.after, R9.told, h2, g1]
      rw [e1, e2]
      exact fin_around R hk _ (by omega) (by omega) (by rw [h3]; exact ek)
  · have ek := w64_succ (k := o.st.k) (by omega) (by omega)
    refine sim_plain hk0 (by omega) (by omega) (by omega) (by simp [R9.req, PSt.req, h1, h2, hb, hb0]) fun g => ?_
    have e1 : o.after g = { o with st := PSt.fin { o.st with at_ := 9, k := o.st.k + 1 } } := by simp [POp.after, PSt.finished, hk, h1, ek]
    have e2 : r.after g = r.around 14 (r.end_ 20 0) := by simp [R9.after, R9.told, h2]
    rw [e1, e2]
    exact fin_around R hk _ (by omega) (by omega) (by rw [h3]; exact ek)
theorem sim_peek (R : RunP ds o r) (hk : o.st.kind = 3) (h1 : o.st.at_ = 3) (h2 : r.at_ = 12) : SimP ds s o r := by
  have hk0 : o.st.kind ≠ 0 := by omega
  have hb := R.b
  refine sim_plain hk0 (by omega) (by omega) (by omega) (by simp [R9.req, PSt.req, h1, h2, hb]) fun g => ?_
  by_cases g1 : g = 1
  · have e1 : o.after g = { o with st := o.st.over 17 0 } := by simp [POp.after, hk, g1]
    have e2 : r.after g = r.end_ 17 0 := by simp [R9.after, R9.told, h2, g1]
    rw [e1, e2]
    exact .over hk0 _ _ o.look
  · have e1 : o.after g = { o with st := o.st.over 16 0 } := by simp [POp.after, hk, g1]
    have e2 : r.after g = r.end_ 16 0 := by simp [R9.after, R9.told, h2, g1]
    rw [e1, e2]
    exact .over hk0 _ _ o.look
theorem RelP.step (R : RelP ds o r) (s : AS) : SimP ds s o r := by
  rcases R with ⟨h1, h2, h3, h9⟩ | R
  · have e1 : stepP s o = (s, o) := by
      unfold stepP
      by_cases q : o.st.kind = 0
      · rw [if_pos q]
      · rw [if_neg q, if_pos (h2.resolve_left q)]
    have e2 : stepR9 ds s r = (s, r) := by unfold stepR9; rw [if_pos h1]
    unfold SimP
    rw [e1, e2]
    exact ⟨rfl, .inl ⟨h1, h2, h3, h9⟩⟩
  · rcases R.at_ with ⟨h, a, b, c⟩ | ⟨h, c⟩ | ⟨h, c, d⟩ | ⟨h, c⟩
    · exact sim_rest R h a b c
    · exact sim_wake R h c
    · exact sim_peek R h c d
    · exact sim_finish R h c
theorem RelP.answer (R : RelP ds o r) : o.answer = r.answer ∧ o.parked = r.parked := by
  rcases R with ⟨h1, h2, h3, h9⟩ | R
  · refine ⟨by rw [h3]; unfold R9.answer; rw [if_neg (fun z => z h1)], ?_⟩
    have e2 : r.parked = false := by unfold R9.parked; rw [h1]; rfl
    rw [e2]
    unfold POp.parked
    rcases h2 with h | h
    · rw [if_neg (by omega)]
    · rw [h]
      exact pif (P := fun b : Bool => b = false) (fun _ => by decide) fun _ => rfl
  · obtain ⟨a, b⟩ := R.a0
    refine ⟨by unfold POp.answer R9.answer; rw [if_neg R.k0, if_pos a, if_pos b], ?_⟩
    unfold POp.parked R9.parked
    rcases R.at_ with ⟨h, _, _, c⟩ | ⟨h, c⟩ | ⟨h, c, d⟩ | ⟨h, c⟩
    · rw [if_pos h]
      rcases c with c | c | c | ⟨c1, _, _, _, c | c⟩ | c | c | c
      · rw [decide_eq_false (by omega), decide_eq_false (by omega)]
      · rw [decide_eq_false (by omega), decide_eq_false (by omega)]
      · rw [decide_eq_false (by omega), decide_eq_false (by omega)]
      · rw [decide_eq_false (by omega), decide_eq_false (by omega)]
      · rw [decide_eq_false (by omega), decide_eq_false (by omega)]
      · rw [decide_eq_true c.1, decide_eq_true c.2]
      · rw [decide_eq_false (by omega), decide_eq_false (by omega)]
      · rw [decide_eq_false (by omega), decide_eq_false (by omega)]
    · rw [if_neg (by omega), decide_eq_false (by omega)]
    · rw [if_neg (by omega), decide_eq_false (by omega)]
    · rw [if_neg (by omega), decide_eq_false (by omega)]
end
end Go.Mx
