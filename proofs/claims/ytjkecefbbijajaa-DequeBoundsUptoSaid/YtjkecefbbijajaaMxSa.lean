/-
  A play of one deque: what each step's access is, in the ledger.
-/
import Derived.Test.YtjkecefbbijajaaMxQt
set_option linter.unusedVariables false
set_option linter.unusedSimpArgs false
set_option linter.unusedSectionVars false
namespace Go.Mx

abbrev aWho (e : Acc) : Int := e.1
abbrev aKind (e : Acc) : Int := e.2.1
abbrev aAddr (e : Acc) : Int := e.2.2.1
abbrev aX (e : Acc) : Int := e.2.2.2.1
abbrev aY (e : Acc) : Int := e.2.2.2.2.1
abbrev aOk (e : Acc) : Bool := e.2.2.2.2.2.1

/-- What an access does to the cells, and what the ledger says of it. -/
def AccE (s : AS) (r : Rq) (v : Int) (cs' : List Int) (e : Acc) : Prop := match r with
  | .ld a => e = acc s 0 a v 0 true ∧ v = gt s.cs a ∧ cs' = s.cs
  | .st a x => e = acc s 1 a x 0 true ∧ cs' = s.cs.set a.toNat x
  | .cas a x y => e = acc s 2 a x y (decide (gt s.cs a = x)) ∧ v = (if gt s.cs a = x then 1 else 0) ∧ cs' = if gt s.cs a = x then s.cs.set a.toNat y else s.cs
  | .rs n => e = acc s 4 (s.cs.length : Int) n 0 true ∧ v = (s.cs.length : Int) ∧ cs' = s.cs ++ List.replicate n.toNat 0
theorem arena_log {s s' : AS} {r : Rq} {v : Int} (wt : s.wt = true) (h : arenaI s r = (some v, s')) : ∃ e, s'.lg = s.lg ++ [e] ∧ aWho e = s.who ∧ AccE s r v s'.cs e := by
  have wlt : ∀ (lg : List Acc) (a : Acc), wl s.wt lg a = lg ++ [a] := fun lg a => by unfold wl; rw [wt]; rfl
  cases r with
  | ld a =>
    by_cases q : s.In a
    · have e1 : arenaI s (.ld a) = (some (gt s.cs a), s.log (acc s 0 a (gt s.cs a) 0 true)) := ld_ok q
      rw [e1] at h
      cases h
      exact ⟨_, wlt _ _, rfl, rfl, rfl, rfl⟩
    · have e1 : arenaI s (.ld a) = (none, s) := if_neg q
      rw [e1] at h; cases h
  | st a x =>
    by_cases q : s.In a
    · have e1 : arenaI s (.st a x) = (some 0, AS.log { s with cs := s.cs.set a.toNat x } (acc s 1 a x 0 true)) := st_ok q
      rw [e1] at h
      cases h
      exact ⟨_, wlt _ _, rfl, rfl, rfl⟩
    · have e1 : arenaI s (.st a x) = (none, s) := if_neg q
      rw [e1] at h; cases h
  | cas a x y =>
    by_cases q : s.In a
    · by_cases z : gt s.cs a = x
      · rw [cas_ok q z] at h
        cases h
        exact ⟨_, wlt _ _, rfl, by rw [decide_eq_true z], by rw [if_pos z], by rw [if_pos z]; rfl⟩
      · rw [cas_no q z] at h
        cases h
        exact ⟨_, wlt _ _, rfl, by rw [decide_eq_false z], by rw [if_neg z], by rw [if_neg z]; rfl⟩
    · have e1 : arenaI s (.cas a x y) = (none, s) := if_neg q
      rw [e1] at h; cases h
  | rs n =>
    by_cases q1 : n < 1
    · have e1 : arenaI s (.rs n) = (none, s) := if_pos q1
      rw [e1] at h; cases h
    · by_cases q2 : s.sz - (s.cs.length : Int) < n
      · have e1 : arenaI s (.rs n) = (none, s) := by
          show (if n < 1 then _ else if s.sz - (s.cs.length : Int) < n then _ else _) = _
          rw [if_neg q1, if_pos q2]
        rw [e1] at h; cases h
      · rw [rs_ok (by omega) (by omega)] at h
        cases h
        exact ⟨_, wlt _ _, rfl, rfl, rfl, rfl⟩
theorem GoR.log {most : Int} {q : PS} {n : Int} {w : Nat} {v : Int} {m' : AS} {x : DOp} {N : Int} (r : GoR most q n w v m' x N) (wt : q.m.wt = true) : ∃ e, m'.lg = q.m.lg ++ [e] ∧ aWho e = (w : Int) ∧ AccE { q.m with who := (w : Int) } (q.act w).1.req v m'.cs e :=
  arena_log (s := { q.m with who := (w : Int) }) wt r.acc

/-- Where an access goes that is not for TOP. -/
def FarR (r : Rq) : Prop := match r with
  | .ld a => 3 ≤ a ∨ a = 1 ∨ a = 2
  | .st a _ => 3 ≤ a ∨ a = 1 ∨ a = 2
  | .cas _ _ _ => False
  | .rs _ => True
theorem FarR.acc {s : AS} {r : Rq} {v : Int} {cs' : List Int} {e : Acc} (h : FarR r) (a : AccE s r v cs' e) (hl : 3 ≤ s.cs.length) : aAddr e ≠ 0 ∧ gt cs' 0 = gt s.cs 0 := by
  cases r with
  | ld a' =>
    obtain ⟨rfl, _, rfl⟩ := a
    have h : 3 ≤ a' ∨ a' = 1 ∨ a' = 2 := h
    exact ⟨by show a' ≠ 0; omega, rfl⟩
  | st a' x =>
    obtain ⟨rfl, rfl⟩ := a
    have h : 3 ≤ a' ∨ a' = 1 ∨ a' = 2 := h
    exact ⟨by show a' ≠ 0; omega, gt_set_ne (by omega) (by omega) (by omega)⟩
  | cas a' x y => exact h.elim
  | rs n =>
    obtain ⟨rfl, _, rfl⟩ := a
    exact ⟨by show (s.cs.length : Int) ≠ 0; omega, gt_app _ _ _⟩
theorem OwnS.farR {most sz N : Int} {cs : List Int} {o : DOp} (h : OwnS most cs o) (g : DG most sz N cs o) (b : o.base = 0) (p0 : o.pc ≠ 0) (p2 : o.pc ≠ 2) (p13 : o.pc ≠ 13) : FarR o.req := by
  obtain ⟨g1, g2, g3, g4, g5, g6, g7, g8, g9, g10, g11, g12, g13⟩ := g
  have place : ∀ {a c i : Int}, 3 ≤ a → a ≤ 1048576 → 1 ≤ c → c ≤ 8192 → 0 ≤ i → 3 ≤ placeD a c i := fun {a c i} h1 h2 h3 h4 h5 => by
    rw [placeD_pl (by omega) (by omega) h3 (by omega) h5]
    have := (pl_range (a := a) (c := c) (i := i) h3).1
    omega
  have nn := newer_nn h g8 g9
  have hA : cA cs ≤ 1048576 := by omega
  cases h with
  | idle p => exact absurd p p0
  | pu1 k p => rw [req1 b p]; exact .inr (.inl rfl)
  | pu2 k p => exact absurd p p2
  | pu3 k p => rw [req3 b p]; exact .inr (.inr rfl)
  | pu4 k p _ _ _ _ a => rw [req4 b p]; exact .inl (by omega)
  | pu5 k p => rw [req5 b p]; trivial
  | pu6 k p _ _ _ _ _ _ _ _ a2 => rw [req6 b p]; exact .inl (by omega)
  | pu7 k p _ t0 _ _ a c _ _ _ _ i1 => rw [req7 b p]; exact .inl (place (by omega) (by omega) (by omega) (by omega) (by omega))
  | pu8 k p _ t0 _ _ a c _ c2 a2 hd i1 => 
    rw [req8 b p]
    have h2 : o.c2 ≤ 8192 := by rw [c2]; split <;> omega
    have h3 : 1 ≤ o.c2 := by rw [c2]; split <;> omega
    exact .inl (place (by omega) (by omega) h3 h2 (by omega))
  | pu9 k p => rw [req9 b p]; exact .inr (.inr rfl)
  | pu10 k p bb t0 t f a c => rw [req10 b p]; exact .inl (place (by omega) (by omega) (by omega) (by omega) (by rw [Bl_up (low1 k)] at g3; omega))
  | pu11 k p => rw [req11 b p]; exact .inr (.inl rfl)
  | po1 k p => rw [req1 b p]; exact .inr (.inl rfl)
  | po3 k p => rw [req3 b p]; exact .inr (.inr rfl)
  | po11 k p => rw [req11 b p]; exact .inr (.inl rfl)
  | po2 k p => exact absurd p p2
  | po4 k p i w bb a => rw [req4 b p]; exact .inl (by omega)
  | po12 k p i w bb a t0 t tb c => rw [req12 b p, if_pos k]; exact .inl (place (by omega) (by omega) (by omega) (by omega) (by omega))
  | po13 k p => exact absurd p p13
  | pe k p => rw [req11 b p]; exact .inr (.inl rfl)
  | pf k p => rw [req11 b p]; exact .inr (.inl rfl)
theorem ThS.farR {most sz N : Int} {cs : List Int} {own o : DOp} (h : ThS cs own o) (g : DG most sz N cs own) (nn : 0 ≤ newer own) (b : o.base = 0) (k3 : o.kind = 3) (p0 : o.pc ≠ 0) (p2 : o.pc ≠ 2) (p13 : o.pc ≠ 13) : FarR o.req := by
  obtain ⟨g1, g2, g3, g4, g5, g6, g7, g8, g9, g10, g11, g12, g13⟩ := g
  cases h with
  | idle p => exact absurd p p0
  | st2 k p => exact absurd p p2
  | st1 k p => rw [req1 b p]; exact .inr (.inl rfl)
  | st3 k p => rw [req3 b p]; exact .inr (.inr rfl)
  | st4 k p t0 t av bf => rw [req4 b p]; exact .inl bf.1
  | st12 k p t0 t av bf c =>
    rw [req12 b p, if_neg (by omega)]
    obtain ⟨f1, f2, f3, f4⟩ := bf
    refine .inl ?_
    rw [placeD_pl (by omega) (by omega) (by omega) (by omega) t0]
    have := (pl_range (a := o.a) (c := o.c) (i := o.t) (by omega)).1
    omega
  | st13 k p => exact absurd p p13
  | lk2 k => omega
  | lk1 k => omega
end Go.Mx
