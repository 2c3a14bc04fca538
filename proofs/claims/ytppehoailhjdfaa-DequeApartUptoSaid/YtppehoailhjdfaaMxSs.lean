/-
  DequeApart: the law.
-/
import Derived.Test.YtppehoailhjdfaaMxSr
set_option linter.unusedVariables false
set_option linter.unusedSimpArgs false
set_option linter.unusedSectionVars false
namespace Go.Mx

def AptS (l m l' m' N : Int) (J A B : AS) (i0 i1 i2 i3 b0 b1 b2 b3 : DOp) : Prop := ∃ f bl g bl', AptI m (cellsOf l m) 0 m' (cellsOf l' m') (4 + l) N J A B f bl g bl' b0 b1 b2 b3 ∧ MO 0 f b0 i0 ∧ MO 0 f b1 i1 ∧ MO (4 + l) g b2 i2 ∧ MO (4 + l) g b3 i3
section
variable {l m l' m' N : Int} {J A B : AS} {i0 i1 i2 i3 b0 b1 b2 b3 : DOp} (H : AptS l m l' m' N J A B i0 i1 i2 i3 b0 b1 b2 b3) (nn : N + 1 ≤ 1000000000) (pop : Bool) (v : Int)
include H nn
theorem AptS.t0 : AptS l m l' m' (N + 1) (stepD arenaI J (turnB 0 m false pop v i0)).1 (stepD arenaI A (turnB 0 m false pop v b0)).1 B (stepD arenaI J (turnB 0 m false pop v i0)).2 i1 i2 i3 (stepD arenaI A (turnB 0 m false pop v b0)).2 b1 b2 b3 ∧
    (stepD arenaI J (turnB 0 m false pop v i0)).2.answer = (stepD arenaI A (turnB 0 m false pop v b0)).2.answer ∧ (stepD arenaI A (turnB 0 m false pop v b0)).2.answer.1 ≠ 1 := by
  obtain ⟨f, bl, g, bl', I, m0, m1, m2, m3⟩ := H
  obtain ⟨f1, bl1, I1, h0, h1, h2⟩ := I.own nn m0 m1 pop v
  exact ⟨⟨f1, bl1, g, bl', I1, h0, h1, m2, m3⟩, h0.answer, h2⟩
theorem AptS.t1 : AptS l m l' m' (N + 1) (stepD arenaI J (turnB 0 m true pop v i1)).1 (stepD arenaI A (turnB 0 m true pop v b1)).1 B i0 (stepD arenaI J (turnB 0 m true pop v i1)).2 i2 i3 b0 (stepD arenaI A (turnB 0 m true pop v b1)).2 b2 b3 ∧
    (stepD arenaI J (turnB 0 m true pop v i1)).2.answer = (stepD arenaI A (turnB 0 m true pop v b1)).2.answer ∧ (stepD arenaI A (turnB 0 m true pop v b1)).2.answer.1 ≠ 1 := by
  obtain ⟨f, bl, g, bl', I, m0, m1, m2, m3⟩ := H
  obtain ⟨I1, h1, h2⟩ := I.thief nn m0 m1 pop v
  exact ⟨⟨f, bl, g, bl', I1, m0, h1, m2, m3⟩, h1.answer, h2⟩
theorem AptS.t2 : AptS l m l' m' (N + 1) (stepD arenaI J (turnB (4 + l) m' false pop v i2)).1 A (stepD arenaI B (turnB 0 m' false pop v b2)).1 i0 i1 (stepD arenaI J (turnB (4 + l) m' false pop v i2)).2 i3 b0 b1 (stepD arenaI B (turnB 0 m' false pop v b2)).2 b3 ∧
    (stepD arenaI J (turnB (4 + l) m' false pop v i2)).2.answer = (stepD arenaI B (turnB 0 m' false pop v b2)).2.answer ∧ (stepD arenaI B (turnB 0 m' false pop v b2)).2.answer.1 ≠ 1 := by
  obtain ⟨f, bl, g, bl', I, m0, m1, m2, m3⟩ := H
  obtain ⟨f1, bl1, I1, h0, h1, h2⟩ := I.swap.own nn m2 m3 pop v
  exact ⟨⟨f, bl, f1, bl1, I1.swap, m0, m1, h0, h1⟩, h0.answer, h2⟩
theorem AptS.t3 : AptS l m l' m' (N + 1) (stepD arenaI J (turnB (4 + l) m' true pop v i3)).1 A (stepD arenaI B (turnB 0 m' true pop v b3)).1 i0 i1 i2 (stepD arenaI J (turnB (4 + l) m' true pop v i3)).2 b0 b1 b2 (stepD arenaI B (turnB 0 m' true pop v b3)).2 ∧
    (stepD arenaI J (turnB (4 + l) m' true pop v i3)).2.answer = (stepD arenaI B (turnB 0 m' true pop v b3)).2.answer ∧ (stepD arenaI B (turnB 0 m' true pop v b3)).2.answer.1 ≠ 1 := by
  obtain ⟨f, bl, g, bl', I, m0, m1, m2, m3⟩ := H
  obtain ⟨I1, h1, h2⟩ := I.swap.thief nn m2 m3 pop v
  exact ⟨⟨f, bl, g, bl', I1.swap, m0, m1, m2, h1⟩, h1.answer, h2⟩
end
def OkM (o : DOp) : Prop := o.Ok ∧ o.most ≤ 4096
theorem OkM.turn {s : AS} {base most : Int} {th pop : Bool} {v : Int} {o : DOp} (k : OkM o) (m1 : 1 ≤ most) (m2 : most ≤ 4096) : OkM (stepD arenaI s (turnB base most th pop v o)).2 := by
  obtain ⟨a, b⟩ := turnB_ok (base := base) (th := th) (pop := pop) (v := v) k.1 k.2 m1 m2
  obtain ⟨c, d⟩ := stepD_ok arenaI s a b
  exact ⟨c, by rw [d.2.2.1]; exact b⟩
def v4 (a b c d : DOp) : Fin 4 → Den KOp := fun i => if i.val = 0 then a.den else if i.val = 1 then b.den else if i.val = 2 then c.den else d.den
theorem v4s0 (a b c d x : DOp) : aset (n := 4) (a := KOp) (v4 a b c d) 0 x.den = v4 x b c d := by
  funext ⟨i, hi⟩
  unfold aset v4
  dsimp only
  split <;> simp_all
theorem v4s1 (a b c d x : DOp) : aset (n := 4) (a := KOp) (v4 a b c d) 1 x.den = v4 a x c d := by
  funext ⟨i, hi⟩
  unfold aset v4
  dsimp only
  split <;> simp_all
theorem v4s2 (a b c d x : DOp) : aset (n := 4) (a := KOp) (v4 a b c d) 2 x.den = v4 a b x d := by
  funext ⟨i, hi⟩
  unfold aset v4
  dsimp only
  split <;> simp_all
theorem v4s3 (a b c d x : DOp) : aset (n := 4) (a := KOp) (v4 a b c d) 3 x.den = v4 a b c x := by
  funext ⟨i, hi⟩
  unfold aset v4
  dsimp only
  split
  · rename_i e; subst e; rfl
  · have h3 : i < 3 := by omega
    by_cases e0 : i = 0
    · rw [if_pos e0, if_pos e0]
    rw [if_neg e0, if_neg e0]
    by_cases e1 : i = 1
    · rw [if_pos e1, if_pos e1]
    rw [if_neg e1, if_neg e1, if_pos (by omega), if_pos (by omega)]
/-- What stands at each turn. -/
structure TurI (l m l' m' N : Int) (h0 : Heap) (b b1 b2 : Nat) (J A B : AS) (i0 i1 i2 i3 b0 b1' b2' b3 : DOp) (h : Heap) : Prop where
  ap : AptS l m l' m' N J A B i0 i1 i2 i3 b0 b1' b2' b3
  tri : Tri h0 b b1 b2 J A B h
  qj : Qt J
  qa : Qt A
  qb : Qt B
  k0 : OkM i0
  k1 : OkM i1
  k2 : OkM i2
  k3 : OkM i3
  c0 : OkM b0
  c1 : OkM b1'
  c2 : OkM b2'
  c3 : OkM b3
section
variable {l m l' m' : Int} (hc : CapE l m) (hc' : CapE l' m') {cT : Option Addr → Den KP2 → Den KOp → Den KTrn → Heap → (Den KOp → Heap → Prop) → Prop} {cA : Den KOp → Heap → (Den KP2 → Heap → Prop) → Prop} (iT : TurnedJ cT) (iA : AnswJ cA) {h0 : Heap} {b b1 b2 : Nat}
include hc hc' iT iA
/-- A turn. -/
theorem turn_spec {N : Int} {J A B : AS} {i0 i1 i2 i3 b0 b1' b2' b3 : DOp} {h : Heap} (H : TurI l m l' m' N h0 b b1 b2 J A B i0 i1 i2 i3 b0 b1' b2' b3 h) (nn : N + 1 ≤ 1000000000) {Q : Bool → Heap → Prop} {td : Sl} {go} {n : Int} {wh v : Int} {th pop : Bool} {s : Int} (hs : 0 ≤ s ∧ s < 4) (ht : th = true ↔ (s = 1 ∨ s = 3))
    (hgo : ∀ J' A' B' j0 j1 j2 j3 a0 a1 a2 a3 h', TurI l m l' m' (N + 1) h0 b b1 b2 J' A' B' j0 j1 j2 j3 a0 a1 a2 a3 h' → go (w64 (n + 1), (v4 j0 j1 j2 j3, ()), (v4 a0 a1 a2 a3, ()), ()) h') :
    law3_DequeApart.j4 cT cA Q (td, some (ptr b), some (ptr b1), some (ptr b2), (0, (m, ())), (4 + l, (m', ())), (0, (m, ())), (0, (m', ())), ()) go (n, (v4 i0 i1 i2 i3, ()), (v4 b0 b1' b2' b3, ()), ()) (wh, (th, (pop, (v, ())))) (s, ()) h := by
  obtain ⟨ap, tri, qj, qa, qb, k0, k1, k2, k3, c0, c1, c2, c3⟩ := H
  obtain ⟨l1, l2, l3⟩ := hc
  obtain ⟨l1', l2', l3'⟩ := hc'
  have m1 : 1 ≤ m := by omega
  have m1' : 1 ≤ m' := by omega
  have fin : ∀ (x y : DOp) (ia ba : Fin 4 → Den KOp) (k : Heap), aget (n := 4) (a := KOp) ia s.toNat = x.den → aget (n := 4) (a := KOp) ba s.toNat = y.den → x.answer = y.answer → y.answer.1 ≠ 1 → go (w64 (n + 1), (ia, ()), (ba, ()), ()) k → law3_DequeApart.j3 cA Q go (n, (v4 i0 i1 i2 i3, ()), (v4 b0 b1' b2' b3, ()), ()) (s, ()) ((ia, ()), (ba, ()), ()) k := by
    intro x y ia ba k e1 e2 e3 e4 g
    refine ⟨hs, ?_⟩
    show cA (aget (n := 4) (a := KOp) ia s.toNat) k _
    rw [e1]
    refine iA (o := x) ⟨hs, ?_⟩
    show cA (aget (n := 4) (a := KOp) ba s.toNat) k _
    rw [e2]
    refine iA (o := y) ⟨fun e => absurd (congrArg Prod.fst e3) (of_decide_eq_true e), fun _ => ⟨fun e => absurd (congrArg Prod.snd e3) (of_decide_eq_true e), fun _ => ⟨fun e => ?_, fun _ => g⟩⟩⟩
    have e : x.answer.1 = 1 := of_decide_eq_true e
    rw [e3] at e
    exact absurd e e4
  rcases (by omega : s = 0 ∨ s = 1 ∨ s = 2 ∨ s = 3) with rfl | rfl | rfl | rfl
  · have ht : th = false := by cases th with | false => rfl | true => exact absurd (ht.1 rfl) (by decide)
    subst ht
    refine ⟨fun _ => ⟨hs, ?_⟩, fun e => (by cases e)⟩
    obtain ⟨S, ra, put⟩ := tri.act
    refine iT (o := i0) ra qj k0.1 k0.2 m1 l3 fun S' g R st => ⟨hs, hs, ?_⟩
    have tri := (put R st).rot
    obtain ⟨S, ra, put⟩ := tri.act
    refine iT (o := b0) ra qa c0.1 c0.2 m1 l3 fun S' g R st => ⟨hs, ?_⟩
    have tri := (put R st).rot.rot
    obtain ⟨ap', e3, e4⟩ := ap.t0 nn pop v
    refine fin _ _ _ _ _ rfl rfl e3 e4 ?_
    show go (w64 (n + 1), (aset (n := 4) (a := KOp) (v4 i0 i1 i2 i3) 0 _, ()), (aset (n := 4) (a := KOp) (v4 b0 b1' b2' b3) 0 _, ()), ()) g
    rw [v4s0, v4s0]
    exact hgo _ _ _ _ _ _ _ _ _ _ _ _ ⟨ap', tri, qj.step _, qa.step _, qb, k0.turn m1 l3, k1, k2, k3, c0.turn m1 l3, c1, c2, c3⟩
  · have ht : th = true := ht.2 (.inl rfl)
    subst ht
    refine ⟨fun _ => ⟨hs, ?_⟩, fun e => (by cases e)⟩
    obtain ⟨S, ra, put⟩ := tri.act
    refine iT (o := i1) ra qj k1.1 k1.2 m1 l3 fun S' g R st => ⟨hs, hs, ?_⟩
    have tri := (put R st).rot
    obtain ⟨S, ra, put⟩ := tri.act
    refine iT (o := b1') ra qa c1.1 c1.2 m1 l3 fun S' g R st => ⟨hs, ?_⟩
    have tri := (put R st).rot.rot
    obtain ⟨ap', e3, e4⟩ := ap.t1 nn pop v
    refine fin _ _ _ _ _ rfl rfl e3 e4 ?_
    show go (w64 (n + 1), (aset (n := 4) (a := KOp) (v4 i0 i1 i2 i3) 1 _, ()), (aset (n := 4) (a := KOp) (v4 b0 b1' b2' b3) 1 _, ()), ()) g
    rw [v4s1, v4s1]
    exact hgo _ _ _ _ _ _ _ _ _ _ _ _ ⟨ap', tri, qj.step _, qa.step _, qb, k0, k1.turn m1 l3, k2, k3, c0, c1.turn m1 l3, c2, c3⟩
  · have ht : th = false := by cases th with | false => rfl | true => exact absurd (ht.1 rfl) (by decide)
    subst ht
    refine ⟨fun e => (by cases e), fun _ => ⟨hs, ?_⟩⟩
    obtain ⟨S, ra, put⟩ := tri.act
    refine iT (o := i2) ra qj k2.1 k2.2 m1' l3' fun S' g R st => ⟨hs, hs, ?_⟩
    have tri := (put R st).rot.rot
    obtain ⟨S, ra, put⟩ := tri.act
    refine iT (o := b2') ra qb c2.1 c2.2 m1' l3' fun S' g R st => ⟨hs, ?_⟩
    have tri := (put R st).rot
    obtain ⟨ap', e3, e4⟩ := ap.t2 nn pop v
    refine fin _ _ _ _ _ rfl rfl e3 e4 ?_
    show go (w64 (n + 1), (aset (n := 4) (a := KOp) (v4 i0 i1 i2 i3) 2 _, ()), (aset (n := 4) (a := KOp) (v4 b0 b1' b2' b3) 2 _, ()), ()) g
    rw [v4s2, v4s2]
    exact hgo _ _ _ _ _ _ _ _ _ _ _ _ ⟨ap', tri, qj.step _, qa, qb.step _, k0, k1, k2.turn m1' l3', k3, c0, c1, c2.turn m1' l3', c3⟩
  · have ht : th = true := ht.2 (.inr rfl)
    subst ht
    refine ⟨fun e => (by cases e), fun _ => ⟨hs, ?_⟩⟩
    obtain ⟨S, ra, put⟩ := tri.act
    refine iT (o := i3) ra qj k3.1 k3.2 m1' l3' fun S' g R st => ⟨hs, hs, ?_⟩
    have tri := (put R st).rot.rot
    obtain ⟨S, ra, put⟩ := tri.act
    refine iT (o := b3) ra qb c3.1 c3.2 m1' l3' fun S' g R st => ⟨hs, ?_⟩
    have tri := (put R st).rot
    obtain ⟨ap', e3, e4⟩ := ap.t3 nn pop v
    refine fin _ _ _ _ _ rfl rfl e3 e4 ?_
    show go (w64 (n + 1), (aset (n := 4) (a := KOp) (v4 i0 i1 i2 i3) 3 _, ()), (aset (n := 4) (a := KOp) (v4 b0 b1' b2' b3) 3 _, ()), ()) g
    rw [v4s3, v4s3]
    exact hgo _ _ _ _ _ _ _ _ _ _ _ _ ⟨ap', tri, qj.step _, qa, qb.step _, k0, k1, k2, k3.turn m1' l3', c0, c1, c2, c3.turn m1' l3'⟩
end
abbrev ModR (c : Int → Int → Heap → (Int → Heap → Prop) → Prop) : Prop := ∀ {x n : Int} {h : Heap} {Q : Int → Heap → Prop}, 0 < n → n ≤ 1000000 → (∀ r : Int, 0 ≤ r → r < n → Q r h) → c x n h Q
/-- The law. -/
theorem apart_spec {cK cC cN cD cW cM cT cA} (iK : ∀ {a b : Int} {h : Heap} {Q : Bool → Heap → Prop}, (CapE a b → Q true h) → (¬ CapE a b → Q false h) → cK a b h Q)
    (iC : ∀ {a b : Int} {h : Heap} {Q : Int → Heap → Prop}, (CapE a b → Q (cellsOf a b) h) → (¬ CapE a b → Q 0 h) → cC a b h Q)
    (iN : ∀ {size : Int} {h : Heap} {Q : (Option Addr × (Int × Unit)) → Heap → Prop}, (¬ (0 ≤ size ∧ size ≤ 1048576) → Q (none, (3, ())) h) → (0 ≤ size ∧ size ≤ 1048576 → ∀ b h', Ar h h' b ⟨none, 0, 0⟩ ⟨none, 0, 0⟩ size [] [] 0 false → Q (some (ptr b), (0, ())) h') → cN size h Q)
    (iD : LayJ 24 cD) (iW : WorksJ cW) (iM : ModR cM) (iT : TurnedJ cT) (iA : AnswJ cA)
    {l m l' m' : Int} {td : Sl} {h : Heap} {ts : List (Den KTrn)} (ht : Arr h KTrn td ts) (hn : ts.length ≤ 1048576) {Q : Bool → Heap → Prop} (hQ : ∀ h', Go.Mx.le h h' → Q true h') :
    law3_DequeApart.M cK cC cN cD cW cM cT cA l m l' m' td h Q := by
  refine iK (fun hc => ⟨fun e => (by cases e), fun _ => iK (fun hc' => ⟨fun e => (by cases e), fun _ => ?_⟩) (fun hc' => ⟨fun _ => hQ h (.refl _), fun e => (by cases e)⟩)⟩) (fun hc => ⟨fun _ => ⟨fun _ => hQ h (.refl _), fun e => (by cases e)⟩, fun e => (by cases e)⟩)
  have hb := cellsOf_bound hc
  have hb' := cellsOf_bound hc'
  have hsum := joint_sum hc hc'
  have c1 := hc.1
  have c1' := hc'.1
  refine iC (fun _ => iC (fun _ => ?_) (fun q => absurd hc' q)) (fun q => absurd hc q)
  rw [w64_of (x := cellsOf l m + cellsOf l' m') (by omega) (by omega)]
  refine iN (fun q => absurd ⟨by omega, by omega⟩ q) fun _ b h1 o0 => ?_
  show cN (cellsOf l m) h1 _
  refine iN (fun q => absurd ⟨by omega, by omega⟩ q) fun _ b1 h2 o1 => ?_
  show cN (cellsOf l' m') h2 _
  refine iN (fun q => absurd ⟨by omega, by omega⟩ q) fun _ b2 h3 o2 => ⟨fun e => absurd rfl (of_decide_eq_true e), fun _ => ⟨fun e => absurd rfl (of_decide_eq_true e), fun _ => ⟨fun e => absurd rfl (of_decide_eq_true (p := (0 : Int) ≠ 0) e), fun _ => ?_⟩⟩⟩
  -- the three arenas
  have le1 := o0.le
  have le2 := o1.le
  have le3 := o2.le
  have fresh : ∀ {h0 h : Heap} {b sz x}, Ar h0 h b ⟨none, 0, 0⟩ ⟨none, 0, 0⟩ sz [] [] 0 false → fpA b ⟨none, 0, 0⟩ ⟨none, 0, 0⟩ x → h0 x = none := fun o hx => o.fresh hx
  have live : ∀ {h0 h : Heap} {b sz x}, Ar h0 h b ⟨none, 0, 0⟩ ⟨none, 0, 0⟩ sz [] [] 0 false → fpA b ⟨none, 0, 0⟩ ⟨none, 0, 0⟩ x → h x ≠ none := fun o hx => o.live hx
  have more : ∀ {h0 h h' : Heap} {b sz S}, RA h0 b ⟨sz, [], [], 0, false⟩ S h → Go.Mx.le h h' → RA h0 b ⟨sz, [], [], 0, false⟩ S h' := by
    rintro h0 h h' b sz S ⟨c, l, rfl, o⟩ e
    exact ⟨c, l, rfl, o.ext (S := fun _ => False) e.toExt (fun _ _ => id) (fun _ q => q.elim)⟩
  have T0 : Tri h b b1 b2 ⟨cellsOf l m + cellsOf l' m', [], [], 0, false⟩ ⟨cellsOf l m, [], [], 0, false⟩ ⟨cellsOf l' m', [], [], 0, false⟩ h3 := by
    refine ⟨_, _, _, more (more ⟨_, _, rfl, o0⟩ le2) le3, more (RA.baseT ⟨_, _, rfl, o1⟩ le1) le3, RA.baseT ⟨_, _, rfl, o2⟩ (le1.trans le2), ?_, ?_, ?_⟩
    · exact fun x p q => live o0 p (fresh o1 q)
    · exact fun x p q => live o1 p (fresh o2 q)
    · exact fun x p q => live o0 q (le2.none (fresh o2 p))
  clear more live fresh
  -- laid
  obtain ⟨S, ra, put⟩ := T0.act
  refine iD (low := l) (most := m) ra hc (by show (0 : Int) + (4 + l) ≤ cellsOf l m + cellsOf l' m'; omega) hsum fun S' k1 R st => ?_
  have T1 := put R st
  obtain ⟨S, ra, put⟩ := T1.act
  have eb : ((laid l []).length : Int) = 4 + l := laid_len l c1
  refine iD (low := l') (most := m') ra hc' (by rw [eb]; omega) hsum fun S' k2 R st => ?_
  rw [eb]
  have T2 := (put R st).rot
  obtain ⟨S, ra, put⟩ := T2.act
  refine iD (low := l) (most := m) ra hc (by show (0 : Int) + (4 + l) ≤ cellsOf l m; omega) (by omega) fun S' k3 R st => ?_
  have T3 := (put R st).rot
  obtain ⟨S, ra, put⟩ := T3.act
  refine iD (low := l') (most := m') ra hc' (by show (0 : Int) + (4 + l') ≤ cellsOf l' m'; omega) (by omega) fun S' k4 R st => ⟨fun e => absurd rfl (of_decide_eq_true e), fun _ => ⟨fun e => absurd rfl (of_decide_eq_true e), fun _ => ⟨fun e => absurd rfl (of_decide_eq_true e), fun _ => ⟨fun e => absurd rfl (of_decide_eq_true e), fun _ => ?_⟩⟩⟩⟩
  have T4 : Tri h b b1 b2 (joint0 l m l' m') (alone0 l m) (alone0 l' m') k4 := (put R st).rot
  clear T0 T1 T2 T3 put R st ra
  have q0 := joint0_qt hc hc'
  have qa := alone0_qt hc
  have qb := alone0_qt hc'
  have m1 : 1 ≤ m := by have := hc.2.1; omega
  have m1' : 1 ≤ m' := by have := hc'.2.1; omega
  -- they work
  obtain ⟨S, ra, put⟩ := T4.act
  refine iW (base := 0) (a := 3) (cc := l) (most := m) ra q0 m1 hc.2.2 (by decide) (by decide) (by rw [joint0_len hc hc']; omega) (by rw [joint0_gt hc hc' (by decide), if_neg (by omega), if_neg (by omega)]; rfl) (by rw [joint0_gt hc hc' (by decide), if_neg (by omega), if_neg (by omega)]; rfl) (by rw [joint0_gt hc hc' (by decide), if_neg (by omega), if_neg (by omega)]; rfl) (by rw [joint0_gt hc hc' (by decide), if_neg (by omega), if_neg (by omega)]; rfl) c1 fun S' g1 R st => ⟨fun e => (by cases e), fun _ => ?_⟩
  have T5 := put R st
  obtain ⟨S, ra, put⟩ := T5.act
  refine iW (base := 4 + l) (a := 4 + l + 3) (cc := l') (most := m') ra (q0.work 0 3) m1' hc'.2.2 (by omega) (by omega) (by rw [work_len, joint0_len hc hc']; omega) ?_ ?_ ?_ ?_ c1' fun S' g2 R st => ⟨fun e => (by cases e), fun _ => ?_⟩
  · rw [jointM_gt hc hc' (by omega), if_neg (by omega), if_neg (by omega)]
    by_cases e : 4 + l = 4
    · omega
    rw [if_neg e, if_neg (by omega), if_neg (by omega), if_neg (by omega), if_neg (by omega)]
  · rw [jointM_gt hc hc' (by omega), if_neg (by omega), if_neg (by omega), if_neg (by omega), if_neg (by omega), if_neg (by omega), if_neg (by omega), if_neg (by omega)]
  · rw [jointM_gt hc hc' (by omega), if_neg (by omega), if_neg (by omega), if_neg (by omega), if_neg (by omega), if_pos (by omega)]
  · rw [jointM_gt hc hc' (by omega), if_neg (by omega), if_neg (by omega), if_neg (by omega), if_pos (by omega)]
  have T6 := (put R st).rot
  have wa : ∀ {l m : Int}, CapE l m → 3 + 1 < ((alone0 l m).cs.length : Int) ∧ gt (alone0 l m).cs 0 = 0 ∧ gt (alone0 l m).cs (0 + 1) = 0 ∧ gt (alone0 l m).cs (0 + 2) = 3 ∧ gt (alone0 l m).cs 3 = l := fun {l m} hc => by
    have c1 := hc.1
    refine ⟨by show 3 + 1 < ((laid l []).length : Int); rw [laid_len l c1]; omega, by rw [alone0_gt hc (by decide)]; rfl, by rw [alone0_gt hc (by decide)]; rfl, by rw [alone0_gt hc (by decide)]; rfl, by rw [alone0_gt hc (by decide)]; rfl⟩
  obtain ⟨S, ra, put⟩ := T6.act
  obtain ⟨a1, a2, a3, a4, a5⟩ := wa hc
  refine iW (base := 0) (a := 3) (cc := l) (most := m) ra qa m1 hc.2.2 (by decide) (by decide) a1 a2 a3 a4 a5 c1 fun S' g3 R st => ⟨fun e => (by cases e), fun _ => ?_⟩
  have T7 := (put R st).rot
  obtain ⟨S, ra, put⟩ := T7.act
  obtain ⟨a1, a2, a3, a4, a5⟩ := wa hc'
  refine iW (base := 0) (a := 3) (cc := l') (most := m') ra qb m1' hc'.2.2 (by decide) (by decide) a1 a2 a3 a4 a5 c1' fun S' g4 R st => ⟨fun e => (by cases e), fun _ => ?_⟩
  have T8 : Tri h b b1 b2 (jointW l m l' m') (aloneW l m) (aloneW l' m') g4 := (put R st).rot
  clear T4 T5 T6 T7 put R st ra
  have st0 : ∀ N : Int, N = 1 → AptS l m l' m' N (jointW l m l' m') (aloneW l m) (aloneW l' m') DOp.zero DOp.zero DOp.zero DOp.zero DOp.zero DOp.zero DOp.zero DOp.zero := fun N e => by
    subst e
    exact ⟨_, _, _, _, startApt hc hc', .inl ⟨rfl, rfl⟩, .inl ⟨rfl, rfl⟩, .inl ⟨rfl, rfl⟩, .inl ⟨rfl, rfl⟩⟩
  have kz : OkM DOp.zero := ⟨.zero, by decide⟩
  have tl := ht.1
  have hle := T8.le
  refine Loop.up ts.length (fun s => s.1) (fun i s g => Go.Mx.le h g ∧ ∃ J A B i0 i1 i2 i3 b0 b1' b2' b3, s.2 = ((v4 i0 i1 i2 i3, ()), (v4 b0 b1' b2' b3, ()), ()) ∧ TurI l m l' m' (1 + (i : Int)) h b b1 b2 J A B i0 i1 i2 i3 b0 b1' b2' b3 g) rfl
    ⟨hle, _, _, _, DOp.zero, DOp.zero, DOp.zero, DOp.zero, DOp.zero, DOp.zero, DOp.zero, DOp.zero, ?_, ⟨st0 _ rfl, T8, (q0.work 0 3).work _ _, qa.work 0 3, qb.work 0 3, kz, kz, kz, kz, kz, kz, kz, kz⟩⟩ ?_
  · have e : v4 DOp.zero DOp.zero DOp.zero DOp.zero = fun _ => DOp.zero.den := by
      funext i
      unfold v4
      split
      · rfl
      · split
        · rfl
        · split <;> rfl
    rw [e]; rfl
  rintro i ⟨i', x⟩ g go hi hcn ⟨hl, J, A, B, i0, i1, i2, i3, b0, b1', b2', b3, hx, I⟩ hgo
  dsimp only at hcn hx; subst hcn; subst hx
  refine ⟨fun d => ?_, fun d => hQ g hl⟩
  have hlt : (i : Int) < (td.len : Int) := of_decide_eq_true d
  clear d
  have hil : i < ts.length := by omega
  have hb' : 0 ≤ (i : Int) ∧ (i : Int) < (td.len : Int) := ⟨by omega, hlt⟩
  refine ⟨hb', (ht.le hl).at (i := (i : Int)) hb'.1 hb'.2 rfl fun t _ => ?_⟩
  obtain ⟨wh, th, pop, v, tu⟩ := t
  change Int at wh v
  change Bool at th pop
  refine iM (by decide) (by decide) fun r r0 r2 => ?_
  have next : ∀ {s : Int}, 0 ≤ s ∧ s < 4 → (th = true ↔ (s = 1 ∨ s = 3)) → law3_DequeApart.j4 cT cA Q (td, some (ptr b), some (ptr b1), some (ptr b2), (0, (m, ())), (4 + l, (m', ())), (0, (m, ())), (0, (m', ())), ()) go ((i : Int), (v4 i0 i1 i2 i3, ()), (v4 b0 b1' b2' b3, ()), ()) (wh, (th, (pop, (v, ())))) (s, ()) g := fun {s} hs ht =>
    turn_spec hc hc' iT iA I (by omega) hs ht fun J' A' B' j0 j1 j2 j3 a0 a1 a2 a3 h' I' => hgo hil _ _ (by show w64 ((i : Int) + 1) = _; rw [w64_of] <;> omega) ⟨I'.tri.le, J', A', B', j0, j1, j2, j3, a0, a1, a2, a3, rfl, by
      rw [show (1 : Int) + ((i + 1 : Nat) : Int) = 1 + (i : Int) + 1 by omega]; exact I'⟩
  refine ⟨fun e => ?_, fun e => ?_⟩
  · have e : th = true := e
    have hw : w64 (w64 (2 * r) + 1) = 2 * r + 1 := by rw [w64_of (x := 2 * r) (by omega) (by omega), w64_of] <;> omega
    have := next (s := 2 * r + 1) ⟨by omega, by omega⟩ ⟨fun _ => by omega, fun _ => e⟩
    rw [← hw] at this
    exact this
  · have e : th = false := e
    have hw : w64 (2 * r) = 2 * r := by rw [w64_of] <;> omega
    have := next (s := 2 * r) ⟨by omega, by omega⟩ ⟨fun q => (by rw [e] at q; cases q), fun q => (by omega)⟩
    rw [← hw] at this
    exact this
theorem modR_spec : ModR fun x n h Q => law3_mod.M x n h Q := by
  intro x n h Q h0 h1 hQ
  have a := Int.lt_tmod_of_pos x h0
  have b := Int.tmod_lt_of_pos x h0
  refine ⟨by omega, fun e => ?_, fun e => ?_⟩
  · have e : Int.tmod x n < 0 := of_decide_eq_true e
    show Q (w64 (Int.tmod x n + n)) h
    rw [w64_of (by omega) (by omega)]
    exact hQ _ (by omega) (by omega)
  · have e : ¬ Int.tmod x n < 0 := of_decide_eq_false e
    exact hQ _ (by omega) (by omega)
end Go.Mx
