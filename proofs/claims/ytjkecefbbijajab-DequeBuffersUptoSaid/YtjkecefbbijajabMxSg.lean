/-
  The buffers of a play: the plain part of DequeBuffers.
-/
import Derived.Test.YtjkecefbbijajabMxSe
set_option linter.unusedVariables false
set_option linter.unusedSimpArgs false
set_option linter.unusedSectionVars false
namespace Go.Mx

/-- The newest buffer: its address, its capacity. -/
def bstep (most : Int) (s : Int × Int) (e : Acc) : Int × Int := if aKind e = 4 then (aAddr e, if most < 2 * s.2 then most else 2 * s.2) else s
def bsN (low most : Int) (lg : List Acc) : Nat → Int × Int
  | 0 => (3, low)
  | i + 1 => match lg[i]? with
    | some e => bstep most (bsN low most lg i) e
    | none => bsN low most lg i
section
variable {low most : Int}
theorem bsN_succ {lg : List Acc} {i : Nat} {e : Acc} (h : lg[i]? = some e) : bsN low most lg (i + 1) = bstep most (bsN low most lg i) e := by
  show (match lg[i]? with | some e => bstep most (bsN low most lg i) e | none => bsN low most lg i) = _
  rw [h]
theorem bsN_app (lg : List Acc) (e : Acc) : ∀ i, i ≤ lg.length → bsN low most (lg ++ [e]) i = bsN low most lg i
  | 0, _ => rfl
  | i + 1, h => by
    have hx : lg[i]? = some lg[i] := by simp
    rw [bsN_succ hx, bsN_succ (lg := lg ++ [e]) (i := i) (e := lg[i]) (by rw [List.getElem?_append_left (by omega)]; exact hx), bsN_app lg e i (by omega)]
theorem bsN_snoc (lg : List Acc) (e : Acc) : bsN low most (lg ++ [e]) (lg.length + 1) = bstep most (bsN low most lg lg.length) e := by
  rw [bsN_succ (e := e) (by rw [List.getElem?_append_right (Nat.le_refl _), Nat.sub_self]; rfl), bsN_app lg e _ (Nat.le_refl _)]
end
def bok (most : Int) (s : Int × Int) (e : Acc) : Prop := (3 ≤ s.1 ∧ s.1 ≤ 1048576 ∧ 1 ≤ s.2 ∧ s.2 ≤ 4096) ∧ (aWho e ≠ 0 → aKind e = 0 ∨ aKind e = 2) ∧
  (aKind e = 0 ∨ (aKind e = 2 ∧ aAddr e = 0) ∨ (aKind e = 4 ∧ s.2 < most ∧ aAddr e = s.1 + 1 + s.2 ∧ aX e = 1 + (if most < 2 * s.2 then most else 2 * s.2)) ∨
    (aKind e = 1 ∧ 1 ≤ aAddr e ∧ (aAddr e = 2 → aX e = s.1) ∧ (2 < aAddr e → s.1 ≤ aAddr e ∧ aAddr e ≤ s.1 + s.2 ∧ (aAddr e = s.1 → aX e = s.2))))
def BOK (low most : Int) (lg : List Acc) : Prop := ∀ (i : Nat) e, lg[i]? = some e → bok most (bsN low most lg i) e
theorem BOK.snoc {low most : Int} {lg : List Acc} {e : Acc} (h : BOK low most lg) (he : bok most (bsN low most lg lg.length) e) : BOK low most (lg ++ [e]) := by
  intro i x hx
  rcases Nat.lt_trichotomy i lg.length with z | z | z
  · rw [List.getElem?_append_left z] at hx
    rw [bsN_app lg e i (by omega)]
    exact h i x hx
  · subst z
    rw [List.getElem?_append_right (Nat.le_refl _), Nat.sub_self] at hx
    have : e = x := Option.some.inj hx
    subst this
    rw [bsN_app lg e _ (Nat.le_refl _)]
    exact he
  · rw [List.getElem?_eq_none (by simp; omega)] at hx; cases hx

def newA (cs : List Int) (own : DOp) : Int := if own.kind = 1 ∧ 6 ≤ own.pc ∧ own.pc ≤ 9 then own.a2 else cA cs
def newC (cs : List Int) (own : DOp) : Int := if own.kind = 1 ∧ 6 ≤ own.pc ∧ own.pc ≤ 9 then own.c2 else cC cs
theorem new_out {cs : List Int} {own : DOp} (h : own.kind ≠ 1 ∨ own.pc < 6 ∨ 9 < own.pc) : newA cs own = cA cs ∧ newC cs own = cC cs := ⟨if_neg (by omega), if_neg (by omega)⟩
theorem new_inn {cs : List Int} {own : DOp} (k : own.kind = 1) (h : 6 ≤ own.pc) (h2 : own.pc ≤ 9) : newA cs own = own.a2 ∧ newC cs own = own.c2 := ⟨if_pos ⟨k, h, h2⟩, if_pos ⟨k, h, h2⟩⟩
def BI (low most : Int) (p : PS) : Prop := BOK low most p.m.lg ∧ bsN low most p.m.lg p.m.lg.length = (newA p.m.cs (p.act 0).1, newC p.m.cs (p.act 0).1)

/-- The cell 2 and the next machine, behind an access that is no Store there. -/
theorem cA_same {s : AS} {r : Rq} {v : Int} {cs' : List Int} {e : Acc} (a : AccE s r v cs' e) (h : ∀ b x, r = .st b x → 0 ≤ b ∧ b ≠ 2) (h2 : ∀ b x y, r = .cas b x y → b = 0) : cA cs' = cA s.cs := by
  cases r with
  | ld b => obtain ⟨_, _, rfl⟩ := a; rfl
  | st b x =>
    obtain ⟨_, rfl⟩ := a
    obtain ⟨h1, h2⟩ := h b x rfl
    exact gt_set_ne h1 (by decide) (Ne.symm h2)
  | cas b x y =>
    obtain ⟨_, _, rfl⟩ := a
    have := h2 b x y rfl
    subst this
    show gt _ 2 = gt _ 2
    split
    · exact gt_set_ne (Int.le_refl _) (by decide) (by decide)
    · rfl
  | rs n => obtain ⟨_, _, rfl⟩ := a; exact gt_app _ _ _

theorem BI.go {low most : Int} {q : PS} (h : BI low most q) {k : Nat} {w : Nat} (hw : w < q.acts.length) (hr : 0 ≤ (q.act w).2) {N : Int} (pi : PI most q N) (nn : N ≤ 900000000) {v : Int} {m' : AS} {x : DOp} (r : GoR most q (k : Int) w v m' x N) : BI low most (q.go (k : Int) w) := by
  obtain ⟨b1, b2⟩ := h
  obtain ⟨e1, e2⟩ := r.act hw
  obtain ⟨e, l1, l2, l3⟩ := r.log pi.wt
  have pc : (q.act w).1.pc ≠ 0 := fun z => by have := (pi.run w hw).2 z; omega
  have base := (pi.mach w hw pc).1
  have hnn := newer_nn pi.os pi.dg.c1 pi.dg.cm
  have hxe := r.ex
  have hcc := r.cc
  obtain ⟨g1, g2, g3, g4, g5, g6, g7, g8, g9, g10, g11, g12, g13⟩ := pi.dg
  generalize hlg : q.m.lg = lg at *
  generalize hs : bsN low most lg lg.length = s at *
  have sl : (lg ++ [e]).length = lg.length + 1 := by simp
  have ss : bsN low most (lg ++ [e]) (lg ++ [e]).length = bstep most s e := by rw [sl, bsN_snoc, hs]
  have ea : ((q.go (k : Int) w).act 0).1 = if 0 = w then x else (q.act 0).1 := e2 0
  -- the goal, by what is to be shown
  have fin : bok most s e → bstep most s e = (newA m'.cs (if 0 = w then x else (q.act 0).1), newC m'.cs (if 0 = w then x else (q.act 0).1)) → BI low most (q.go (k : Int) w) := fun ho hb => by
    unfold BI
    rw [e1, l1, ea]
    exact ⟨b1.snoc (by rw [hs]; exact ho), by rw [ss]; exact hb⟩
  have place : ∀ {a c i : Int}, 3 ≤ a → a ≤ 1048576 → 1 ≤ c → c ≤ 4096 → 0 ≤ i → a + 1 ≤ placeD a c i ∧ placeD a c i ≤ a + c := fun {a c i} h1 h2 h3 h4 h5 => by
    rw [placeD_pl (by omega) (by omega) h3 (by omega) h5]
    exact pl_range (a := a) (c := c) (i := i) h3
  by_cases w0 : w = 0
  · subst w0
    rw [if_pos rfl] at fin
    have os := pi.os
    have os' : OwnS most m'.cs x := by
      have := r.pi.os
      rw [e1, ea, if_pos rfl] at this
      exact this
    have wz : ((0 : Nat) : Int) = 0 := rfl
    simp only [true_and] at hcc
    -- out of growing
    have out : ∀ (hk : (q.act 0).1.kind ≠ 1 ∨ (q.act 0).1.pc < 6 ∨ 9 < (q.act 0).1.pc) (hx : x.kind ≠ 1 ∨ x.pc < 6 ∨ 9 < x.pc) (ho : (3 ≤ cA q.m.cs ∧ cA q.m.cs ≤ 1048576 ∧ 1 ≤ cC q.m.cs ∧ cC q.m.cs ≤ 4096) → aKind e ≠ 4 ∧ (aKind e = 0 ∨ (aKind e = 2 ∧ aAddr e = 0) ∨ (aKind e = 1 ∧ 1 ≤ aAddr e ∧ aAddr e ≠ 2 ∧ (2 < aAddr e → cA q.m.cs < aAddr e ∧ aAddr e ≤ cA q.m.cs + cC q.m.cs)))) (hA : cA m'.cs = cA q.m.cs), BI low most (q.go (k : Int) 0) := fun hk hx ho hA => by
      obtain ⟨o1, o2⟩ := new_out (cs := q.m.cs) hk
      obtain ⟨o3, o4⟩ := new_out (cs := m'.cs) hx
      rw [o1, o2] at b2
      have hb : 3 ≤ cA q.m.cs ∧ cA q.m.cs ≤ 1048576 ∧ 1 ≤ cC q.m.cs ∧ cC q.m.cs ≤ 4096 := by omega
      obtain ⟨k4, ho⟩ := ho hb
      refine fin ⟨by rw [b2]; exact hb, fun z => absurd (l2.trans wz) z, ?_⟩ ?_
      · rw [b2]
        rcases ho with z | z | ⟨z1, z2, z3, z4⟩
        · exact .inl z
        · exact .inr (.inl z)
        · exact .inr (.inr (.inr ⟨z1, z2, fun z => absurd z z3, fun z => ⟨by have := z4 z; show cA q.m.cs ≤ _; omega, (z4 z).2, fun y => absurd y (by have := z4 z; show ¬ aAddr e = cA q.m.cs; omega)⟩⟩))
      · unfold bstep
        rw [if_neg k4, b2, o3, o4, hA, hcc, if_neg (by omega)]
    have nst : ∀ {r : Rq}, (q.act 0).1.req = r → (∀ b x, r = .st b x → 0 ≤ b ∧ b ≠ 2) → (∀ b x y, r = .cas b x y → b = 0) → cA m'.cs = cA q.m.cs := fun {r'} er h1 h2 => cA_same (s := { q.m with who := ((0 : Nat) : Int) }) l3 (fun b x z => h1 b x (er.symm.trans z)) (fun b x y z => h2 b x y (er.symm.trans z))
    have acl : ∀ {a : Int}, (q.act 0).1.req = .ld a → aKind e = 0 := fun {a} er => by rw [er] at l3; rw [l3.1]; rfl
    have acs : ∀ {a y : Int}, (q.act 0).1.req = .st a y → aKind e = 1 ∧ aAddr e = a ∧ aX e = y := fun {a y} er => by rw [er] at l3; rw [l3.1]; exact ⟨rfl, rfl, rfl⟩
    have kx : x.kind = (q.act 0).1.kind := by rw [hxe]; exact ((q.act 0).1.after_same v).1
    have oLd : ∀ {a : Int}, (q.act 0).1.req = .ld a → ((q.act 0).1.kind ≠ 1 ∨ (q.act 0).1.pc < 6 ∨ 9 < (q.act 0).1.pc) → (x.kind ≠ 1 ∨ x.pc < 6 ∨ 9 < x.pc) → BI low most (q.go (k : Int) 0) := fun {a} er hk hx =>
      out hk hx (fun _ => ⟨by rw [acl er]; decide, .inl (acl er)⟩) (nst er (fun b x z => (by cases z)) (fun b x y z => (by cases z)))
    have oSt : ∀ {a y : Int}, (q.act 0).1.req = .st a y → ((q.act 0).1.kind ≠ 1 ∨ (q.act 0).1.pc < 6 ∨ 9 < (q.act 0).1.pc) → (x.kind ≠ 1 ∨ x.pc < 6 ∨ 9 < x.pc) → (a = 1 ∨ cA q.m.cs < a ∧ a ≤ cA q.m.cs + cC q.m.cs) → BI low most (q.go (k : Int) 0) := fun {a y} er hk hx ha => by
      obtain ⟨z1, z2, z3⟩ := acs er
      exact out hk hx (fun _ => ⟨by omega, .inr (.inr ⟨z1, by omega, by omega, fun _ => by omega⟩)⟩) (nst er (fun b x z => (by cases z; omega)) (fun b x y z => (by cases z)))
    -- while it grows
    have grow : (q.act 0).1.kind = 1 → 6 ≤ (q.act 0).1.pc → (q.act 0).1.pc ≤ 8 → ∀ {a y : Int}, (q.act 0).1.req = .st a y ∨ (q.act 0).1.req = .ld a → x.a2 = (q.act 0).1.a2 ∧ x.c2 = (q.act 0).1.c2 ∧ 6 ≤ x.pc ∧ x.pc ≤ 9 → (3 ≤ (q.act 0).1.a2 ∧ (q.act 0).1.a2 ≤ 1048576 ∧ 1 ≤ (q.act 0).1.c2 ∧ (q.act 0).1.c2 ≤ 4096) → ((q.act 0).1.req = .st a y → (q.act 0).1.a2 ≤ a ∧ a ≤ (q.act 0).1.a2 + (q.act 0).1.c2 ∧ (a = (q.act 0).1.a2 → y = (q.act 0).1.c2)) → BI low most (q.go (k : Int) 0) := fun k1 p6 p8 {a y} er hx hb ha => by
      obtain ⟨o1, o2⟩ := new_inn (cs := q.m.cs) k1 p6 (by omega)
      obtain ⟨o3, o4⟩ := new_inn (cs := m'.cs) (own := x) (by omega) hx.2.2.1 hx.2.2.2
      rw [o1, o2] at b2
      refine fin ⟨by rw [b2]; exact hb, fun z => absurd (l2.trans wz) z, ?_⟩ ?_
      · rw [b2]
        rcases er with er | er
        · obtain ⟨z1, z2, z3⟩ := acs er
          have := ha er
          refine .inr (.inr (.inr ⟨z1, by omega, fun z => absurd z (by omega), fun _ => ⟨?_, ?_, fun z => ?_⟩⟩))
          · show (q.act 0).1.a2 ≤ _; omega
          · show _ ≤ (q.act 0).1.a2 + (q.act 0).1.c2; omega
          · have z : aAddr e = (q.act 0).1.a2 := z
            show _ = (q.act 0).1.c2
            rw [z3]; exact this.2.2 (by omega)
        · exact .inl (acl er)
      · have k4 : aKind e ≠ 4 := by
          rcases er with er | er
          · rw [(acs er).1]; decide
          · rw [acl er]; decide
        unfold bstep
        rw [if_neg k4, b2, o3, o4, hx.1, hx.2.1]
    have hA6 : cA q.m.cs ≤ 1048576 := by omega
    cases os with
    | idle p => exact absurd p pc
    | pu1 k p => exact oLd (req1 base p) (by omega) (by rw [hxe]; simp [DOp.after, DOp.pushed, k, p])
    | pu2 k p => exact oLd (req2 base p) (by omega) (by rw [hxe]; simp [DOp.after, DOp.pushed, k, p])
    | pu3 k p => exact oLd (req3 base p) (by omega) (by rw [hxe]; simp [DOp.after, DOp.pushed, k, p])
    | pu4 k p b t0 t f a =>
      refine oLd (req4 base p) (by omega) ?_
      rw [hxe]
      unfold DOp.after
      rw [if_pos k]
      unfold DOp.pushed
      rw [if_neg (by omega), if_neg (by omega), if_neg (by omega), if_pos p]
      refine pif (P := fun x : DOp => x.kind ≠ 1 ∨ x.pc < 6 ∨ 9 < x.pc) (fun _ => .inr (.inl (by show (0 : Int) < 6; decide))) fun _ => pif (P := fun x : DOp => x.kind ≠ 1 ∨ x.pc < 6 ∨ 9 < x.pc) (fun _ => .inr (.inr (by show (9 : Int) < 10; decide))) fun _ => pif (P := fun x : DOp => x.kind ≠ 1 ∨ x.pc < 6 ∨ 9 < x.pc) (fun _ => .inr (.inl (by show (0 : Int) < 6; decide))) fun _ => .inr (.inl (by show (5 : Int) < 6; decide))
    | pu5 k p b t0 t f a c lt c2 =>
      have h3 : 1 ≤ (q.act 0).1.c2 ∧ (q.act 0).1.c2 ≤ 4096 := by rw [c2]; split <;> omega
      obtain ⟨o1, o2⟩ := new_out (cs := q.m.cs) (own := (q.act 0).1) (by omega)
      rw [o1, o2] at b2
      have ex : x = { (q.act 0).1 with a2 := v, pc := 6 } := by rw [hxe]; simp [DOp.after, DOp.pushed, k, p]
      obtain ⟨o3, o4⟩ := new_inn (cs := m'.cs) (own := x) (by omega) (by rw [ex]; exact Int.le_refl _) (by rw [ex]; show (6 : Int) ≤ 9; decide)
      rw [req5 base p] at l3
      obtain ⟨z1, z2, z3⟩ := l3
      have z2 : v = (q.m.cs.length : Int) := z2
      have n0 : newer (q.act 0).1 = 0 := new0 (by omega)
      have k4 : aKind e = 4 := by rw [z1]; rfl
      have k5 : aAddr e = (q.m.cs.length : Int) := by rw [z1]; rfl
      have k6 : aX e = w64 (1 + (q.act 0).1.c2) := by rw [z1]; rfl
      have k7 : w64 (1 + (q.act 0).1.c2) = 1 + (q.act 0).1.c2 := by rw [w64_of] <;> omega
      refine fin ⟨by rw [b2]; exact ⟨g7, hA6, g8, by show cC q.m.cs ≤ 4096; omega⟩, fun z => absurd (l2.trans wz) z, .inr (.inr (.inl ⟨k4, ?_, ?_, ?_⟩))⟩ ?_
      · rw [b2]; exact lt
      · rw [b2]; show aAddr e = cA q.m.cs + 1 + cC q.m.cs; omega
      · rw [b2, k6, k7, c2]
      · unfold bstep
        rw [if_pos k4, b2, o3, o4, ex, k5, z2]
        show ((q.m.cs.length : Int), _) = ((q.m.cs.length : Int), (q.act 0).1.c2)
        rw [c2]
    | pu6 k p b t0 t f a c lt c2 a2 =>
      have h3 : 1 ≤ (q.act 0).1.c2 ∧ (q.act 0).1.c2 ≤ 4096 := by rw [c2]; split <;> omega
      have ex : x = { (q.act 0).1 with i := (q.act 0).1.t, pc := 7 } := by rw [hxe]; simp [DOp.after, DOp.pushed, k, p]
      exact grow k (by omega) (by omega) (.inl (req6 base p)) (by rw [ex]; exact ⟨rfl, rfl, by show (6 : Int) ≤ 7; decide, by show (7 : Int) ≤ 9; decide⟩) ⟨by omega, by omega, h3.1, h3.2⟩ (fun _ => ⟨by omega, by omega, fun _ => rfl⟩)
    | pu7 k p b t0 t f a c lt c2 a2 hd i1 i2 =>
      have h3 : 1 ≤ (q.act 0).1.c2 ∧ (q.act 0).1.c2 ≤ 4096 := by rw [c2]; split <;> omega
      have ex : x = { (q.act 0).1 with x := v, pc := 8 } := by rw [hxe]; simp [DOp.after, DOp.pushed, k, p]
      exact grow k (by omega) (by omega) (y := 0) (.inr (req7 base p)) (by rw [ex]; exact ⟨rfl, rfl, by show (6 : Int) ≤ 8; decide, by show (8 : Int) ≤ 9; decide⟩) ⟨by omega, by omega, h3.1, h3.2⟩ (fun z => by rw [req7 base p] at z; cases z)
    | pu8 k p b t0 t f a c lt c2 a2 hd i1 i2 =>
      have h3 : 1 ≤ (q.act 0).1.c2 ∧ (q.act 0).1.c2 ≤ 4096 := by rw [c2]; split <;> omega
      have hp := place (a := (q.act 0).1.a2) (c := (q.act 0).1.c2) (i := (q.act 0).1.i) (by omega) (by omega) h3.1 h3.2 (by omega)
      refine grow k (by omega) (by omega) (.inl (req8 base p)) ?_ ⟨by omega, by omega, h3.1, h3.2⟩ (fun _ => ⟨by omega, by omega, fun z => by omega⟩)
      rw [hxe]
      unfold DOp.after
      rw [if_pos k]
      unfold DOp.pushed
      rw [if_neg (by omega), if_neg (by omega), if_neg (by omega), if_neg (by omega), if_neg (by omega), if_neg (by omega), if_neg (by omega), if_pos p]
      exact pif (P := fun x : DOp => x.a2 = (q.act 0).1.a2 ∧ x.c2 = (q.act 0).1.c2 ∧ 6 ≤ x.pc ∧ x.pc ≤ 9) (fun _ => ⟨rfl, rfl, by show (6 : Int) ≤ 9; decide, by show (9 : Int) ≤ 9; decide⟩) (fun _ => ⟨rfl, rfl, by show (6 : Int) ≤ 7; decide, by show (7 : Int) ≤ 9; decide⟩)
    | pu9 k p b t0 t f a c lt c2 a2 =>
      have h3 : 1 ≤ (q.act 0).1.c2 ∧ (q.act 0).1.c2 ≤ 4096 := by rw [c2]; split <;> omega
      obtain ⟨o1, o2⟩ := new_inn (cs := q.m.cs) (own := (q.act 0).1) k (by omega) (by omega)
      rw [o1, o2] at b2
      have ex : x.pc = 10 := by rw [hxe]; simp [DOp.after, DOp.pushed, k, p]
      obtain ⟨o3, o4⟩ := new_out (cs := m'.cs) (own := x) (by omega)
      obtain ⟨z1, z2, z3⟩ := acs (req9 base p)
      rw [req9 base p] at l3
      have hcs : m'.cs = q.m.cs.set 2 (q.act 0).1.a2 := l3.2
      have hl2 : (2 : Int) < (q.m.cs.length : Int) := by omega
      have hA : cA m'.cs = (q.act 0).1.a2 := by rw [hcs]; exact (gt_set (x := 2) (v := (q.act 0).1.a2) (y := 2) (by decide) hl2 (by decide)).trans (if_pos rfl)
      refine fin ⟨by rw [b2]; exact ⟨by show 3 ≤ (q.act 0).1.a2; omega, by show (q.act 0).1.a2 ≤ 1048576; omega, h3.1, h3.2⟩, fun z => absurd (l2.trans wz) z, .inr (.inr (.inr ⟨z1, by omega, fun _ => by rw [b2, z3], fun z => by omega⟩))⟩ ?_
      unfold bstep
      rw [if_neg (by omega), b2, o3, o4, hA, hcc, if_pos ⟨k, p⟩]
    | pu10 k p b t0 t f a c =>
      have hp := place (a := (q.act 0).1.a) (c := (q.act 0).1.c) (i := (q.act 0).1.b) (by omega) (by omega) (by omega) (by omega) (by rw [Bl_up (low1 k)] at g3; omega)
      exact oSt (req10 base p) (by omega) (by rw [hxe]; simp [DOp.after, DOp.pushed, k, p]) (.inr (by omega))
    | pu11 k p => exact oSt (req11 base p) (by omega) (by rw [hxe]; simp [DOp.after, DOp.pushed, k, p, DOp.over]) (.inl rfl)
    | po1 k p => exact oLd (req1 base p) (by omega) (by omega)
    | po3 k p => exact oLd (req3 base p) (by omega) (by omega)
    | po11 k p => exact oSt (req11 base p) (by omega) (by omega) (.inl rfl)
    | po2 k p => exact oLd (req2 base p) (by omega) (by omega)
    | po4 k p => exact oLd (req4 base p) (by omega) (by omega)
    | po12 k p => exact oLd (req12 base p) (by omega) (by omega)
    | po13 k p =>
      have er := req13 base p
      exact out (by omega) (by omega) (fun _ => by rw [er] at l3; rw [l3.1]; exact ⟨by show (2 : Int) ≠ 4; decide, .inr (.inl ⟨rfl, rfl⟩)⟩) (nst er (fun b x z => (by cases z)) (fun b x y z => (by cases z; rfl)))
    | pe k p => exact oSt (req11 base p) (by omega) (by omega) (.inl rfl)
    | pf k p => exact oSt (req11 base p) (by omega) (by omega) (.inl rfl)
  · rw [if_neg (fun z => w0 z.symm)] at fin
    have k3 := pi.kind w (by omega) hw pc
    have hcc : cC m'.cs = cC q.m.cs := by rw [hcc, if_neg (fun z => w0 z.1)]
    have hb : 3 ≤ s.1 ∧ s.1 ≤ 1048576 ∧ 1 ≤ s.2 ∧ s.2 ≤ 4096 := by
      rw [b2]
      by_cases z : (q.act 0).1.kind = 1 ∧ 6 ≤ (q.act 0).1.pc ∧ (q.act 0).1.pc ≤ 9
      · obtain ⟨o1, o2⟩ := new_inn (cs := q.m.cs) z.1 z.2.1 z.2.2
        rw [o1, o2]
        show 3 ≤ (q.act 0).1.a2 ∧ (q.act 0).1.a2 ≤ 1048576 ∧ 1 ≤ (q.act 0).1.c2 ∧ (q.act 0).1.c2 ≤ 4096
        have hc2 : ∀ {c2 : Int}, (c2 = if most < 2 * cC q.m.cs then most else 2 * cC q.m.cs) → 1 ≤ c2 ∧ c2 ≤ 4096 := fun {c2} h => by rw [h]; split <;> omega
        cases pi.os with
        | idle p => omega
        | pu1 k p | pu2 k p | pu3 k p | pu4 k p | pu5 k p | pu10 k p | pu11 k p => omega
        | pu6 k p b t0 t f a c lt c2 a2 => have := hc2 c2; omega
        | pu7 k p b t0 t f a c lt c2 a2 => have := hc2 c2; omega
        | pu8 k p b t0 t f a c lt c2 a2 => have := hc2 c2; omega
        | pu9 k p b t0 t f a c lt c2 a2 => have := hc2 c2; omega
        | po1 k' | po3 k' | po11 k' | po2 k' | po4 k' | po12 k' | po13 k' | pe k' | pf k' => omega
      · obtain ⟨o1, o2⟩ := new_out (cs := q.m.cs) (own := (q.act 0).1) (by omega)
        rw [o1, o2]
        show 3 ≤ cA q.m.cs ∧ cA q.m.cs ≤ 1048576 ∧ 1 ≤ cC q.m.cs ∧ cC q.m.cs ≤ 4096
        omega
    have done' : cA m'.cs = cA q.m.cs → (aKind e = 0 ∨ aKind e = 2 ∧ aAddr e = 0) → BI low most (q.go (k : Int) w) := fun hA hk => by
      refine fin ⟨hb, fun _ => hk.imp id (·.1), hk.elim .inl fun z => .inr (.inl z)⟩ ?_
      unfold bstep
      rw [if_neg (by omega), b2]
      unfold newA newC
      rw [hA, hcc]
    have ld : ∀ {a : Int}, (q.act w).1.req = .ld a → BI low most (q.go (k : Int) w) := fun {a} er => by
      rw [er] at l3
      refine done' (cA_same (s := { q.m with who := (w : Int) }) l3 (fun b x z => (by cases z)) (fun b x y z => (by cases z))) (.inl ?_)
      rw [l3.1]; rfl
    cases pi.th w (by omega) hw with
    | idle p => exact absurd p pc
    | st2 _ p => exact ld (req2 base p)
    | st1 _ p => exact ld (req1 base p)
    | st3 _ p => exact ld (req3 base p)
    | st4 _ p => exact ld (req4 base p)
    | st12 _ p => exact ld (req12 base p)
    | st13 _ p =>
      rw [req13 base p] at l3
      refine done' (cA_same (s := { q.m with who := (w : Int) }) l3 (fun b x z => (by cases z)) (fun b x y z => (by cases z; rfl))) (.inr ?_)
      rw [l3.1]; exact ⟨rfl, rfl⟩
    | lk2 k' => omega
    | lk1 k' => omega

theorem BI.pre {low most : Int} {p : PS} (h : BI low most p) {k : Nat} {w : Nat} (hw : w < p.acts.length) {N : Int} (pi : PI most p N) {q : PS} (e : p.pre most (k : Int) w = some q) : BI low most q := by
  obtain ⟨b1, b2⟩ := h
  have m1 : 1 ≤ most := by have := pi.dg.c1; have := pi.dg.cm; omega
  have m2 := pi.dg.mx
  have h0 := pi.pos
  have own : ∀ (x : DOp) (y : DCl) (ts : List DTd), (p.act 0).2 < 0 → x.pc < 6 → BI low most { p with todos := ts, acts := p.acts.set 0 (x, (p.calls.length : Int)), calls := p.calls ++ [y] } := fun x y ts e0 hx => by
    have pc0 := (pi.run 0 h0).1 e0
    have ea : ({ p with todos := ts, acts := p.acts.set 0 (x, (p.calls.length : Int)), calls := p.calls ++ [y] } : PS).act 0 = (x, (p.calls.length : Int)) := (act_set (p := p) (j := 0) h0).trans (if_pos rfl)
    refine ⟨b1, ?_⟩
    rw [ea]
    obtain ⟨o1, o2⟩ := new_out (cs := p.m.cs) (own := (p.act 0).1) (by omega)
    obtain ⟨o3, o4⟩ := new_out (cs := p.m.cs) (own := x) (by omega)
    rw [o1, o2] at b2
    show bsN low most p.m.lg p.m.lg.length = (newA p.m.cs x, newC p.m.cs x)
    rw [o3, o4]; exact b2
  cases pre_cases e with
  | on _ eq => subst eq; exact ⟨b1, b2⟩
  | push w0 h1 t ts et k1 eq => subst eq; exact own _ _ ts h1 (by unfold DOp.push; rw [begin_eq m1 m2]; show (1 : Int) < 6; decide)
  | pop w0 h1 t ts et k1 eq => subst eq; exact own _ _ ts h1 (by unfold DOp.pop; rw [begin_eq m1 m2]; show (1 : Int) < 6; decide)
  | steal w0 h1 eq =>
    subst eq
    have ea : ({ p with acts := p.acts.set w (DOp.steal 0 most, (p.calls.length : Int)), calls := p.calls ++ [newCall (w : Int) 2 0 (k : Int)] } : PS).act 0 = p.act 0 := (act_set (p := p) (j := 0) hw).trans (if_neg (fun z => w0 z.symm))
    refine ⟨b1, ?_⟩
    rw [ea]
    exact b2
theorem laid_cells {low : Int} (h : 1 ≤ low) : cA (laid low []) = 3 ∧ cC (laid low []) = low := by
  have hl : (([] : List Int) ++ List.replicate (4 + low).toNat 0).length = (4 + low).toNat := by simp
  have s2 : ∀ y, 0 ≤ y → gt (laid low []) y = if y = 3 then low else if y = 2 then 3 else 0 := fun y hy => by
    unfold laid
    show gt ((((([] : List Int) ++ List.replicate (4 + low).toNat 0).set (0 + 2) (0 + 3)).set (0 + 3) low)) y = _
    have a := gt_set (cs := (([] : List Int) ++ List.replicate (4 + low).toNat 0).set (2 : Int).toNat 3) (x := 3) (v := low) (y := y) (by omega) (by rw [List.length_set, hl]; omega) hy
    have b := gt_set (cs := (([] : List Int) ++ List.replicate (4 + low).toNat 0)) (x := 2) (v := 3) (y := y) (by omega) (by rw [hl]; omega) hy
    rw [gt_app] at b
    have z : gt ([] : List Int) y = 0 := rfl
    rw [z] at b
    rw [b] at a
    exact a
  have g0 : gt (laid low []) 0 = 0 := by rw [s2 0 (by omega)]; rfl
  have g1 : gt (laid low []) 1 = 0 := by rw [s2 1 (by omega)]; rfl
  have gA : cA (laid low []) = 3 := by show gt _ 2 = 3; rw [s2 2 (by omega)]; rfl
  have gC : cC (laid low []) = low := by show gt _ (cA _) = low; rw [gA, s2 3 (by omega)]; rfl
  exact ⟨gA, gC⟩
theorem stN_bi {low most thieves : Int} {todos : List DTd} {picks : List Int} (hj : judgeE low most todos thieves picks = 0) {k : Nat} (hk : k ≤ picks.length) : BI low most (stN low most todos thieves picks k) := by
  obtain ⟨j1, j2, j3, j4, j5, j6⟩ := judge_ok hj
  refine stN_ind hj (P := fun k p => BI low most p) ?_ (fun k w a h _ _ => h) (fun k w q v m' x a h aq r _ => ?_) hk
  · refine ⟨fun i e h => (by cases h), ?_⟩
    have ea : ((ps0 low most todos thieves).act 0).1 = DOp.zero := by
      show ((List.replicate (1 + thieves).toNat (DOp.zero, (-1 : Int)))[0]?.getD (DOp.zero, -1)).1 = _
      rw [List.getElem?_replicate]
      split <;> rfl
    obtain ⟨o3, o4⟩ := new_out (cs := (ps0 low most todos thieves).m.cs) (own := DOp.zero) (.inl (by decide))
    obtain ⟨l1, l2⟩ := laid_cells j3.1
    rw [ea, o3, o4]
    show ((3 : Int), low) = (cA (laid low []), cC (laid low []))
    rw [l1, l2]
  · exact (h.pre (by rw [a.al]; exact a.wl) a.pi aq.pre).go (aq.wl a) aq.run aq.pi (by have := a.lt; omega) r
end Go.Mx
