/-
  DequeApart: the walk.
-/
import Derived.Test.YtppehoailhjdfaaMxSo
set_option linter.unusedVariables false
set_option linter.unusedSimpArgs false
set_option linter.unusedSectionVars false
namespace Go.Mx

/-! ### the calls -/
def LayJ (T : TypeId) (c : Value → Int → Int → Heap → ((Den KP2 × (Int × Unit)) → Heap → Prop) → Prop) : Prop := ∀ {h0 h : Heap} {b : Nat} {sz : Int} {cs : List Int} {S : Nat → Prop} {low most : Int} {Q : (Den KP2 × (Int × Unit)) → Heap → Prop}, RA h0 b ⟨sz, cs, [], 0, false⟩ S h → CapE low most → (cs.length : Int) + (4 + low) ≤ sz → sz ≤ 1048576 →
  (∀ S' h', RA h0 b ⟨sz, laid low cs, [], 0, false⟩ S' h' → Step S S' h h' → Q (((cs.length : Int), (most, ())), (0, ())) h') → c (.iface T (.pointer (some (ptr b)))) low most h Q
/-- New over an arena that is not watched and has room. -/
theorem dnewG_spec {T : TypeId} {cL cR cS cC cN} (k : ∀ b, ArC cL cR cS cC cN (.iface T (.pointer (some (ptr b)))) b) {c1 : Int → Int → Heap → (Bool → Heap → Prop) → Prop} (i1 : ∀ {a b h Q}, deque_capsOK.M a b h Q → c1 a b h Q) : LayJ T (deque_New.M c1 cR cS) := by
  intro h0 h b sz cs S low most Q R hc hs hz hQ
  obtain ⟨c, l, rfl, o⟩ := R
  dsimp only at o
  obtain ⟨q1, q2, q3⟩ := hc
  refine ⟨(k b).iface, fun e => (by rw [(k b).some'] at e; cases e), fun _ => i1 (caps_spec (fun q => ⟨fun e => (by cases e), fun _ => ?_⟩) (fun q => absurd ⟨q1, q2, q3⟩ q))⟩
  have w1 : w64 (4 + low) = 4 + low := by rw [w64_of] <;> omega
  rw [w1]
  refine (k b).reserve o (Nat.zero_le _) (by omega) hz (fun e => absurd e (by omega)) (fun _ e => absurd e (by omega)) fun c' l' h2 _ _ o2 s2 => ⟨fun e => absurd rfl (of_decide_eq_true e), fun _ => ?_⟩
  have w2 : w64 ((cs.length : Int) + 2) = (cs.length : Int) + 2 := by rw [w64_of] <;> omega
  have w3 : w64 ((cs.length : Int) + 3) = (cs.length : Int) + 3 := by rw [w64_of] <;> omega
  have hlen : ((cs ++ List.replicate (4 + low).toNat (0 : Int)).length : Int) = (cs.length : Int) + (4 + low) := by rw [List.length_append, List.length_replicate]; omega
  dsimp only
  rw [w2, w3]
  refine (k b).store o2 (Nat.zero_le _) (fun e => absurd ⟨by omega, by rw [hlen]; omega⟩ e) fun l3 h3 _ o3 s3 => ⟨fun e => absurd rfl (of_decide_eq_true e), fun _ => ?_⟩
  refine (k b).store o3 (Nat.zero_le _) (fun e => absurd ⟨by omega, by rw [List.length_set, hlen]; omega⟩ e) fun l4 h4 _ o4 s4 => ⟨fun e => absurd rfl (of_decide_eq_true e), fun _ => ?_⟩
  have e1 : ((cs.length : Int) + 2).toNat = cs.length + 2 := by omega
  have e2 : ((cs.length : Int) + 3).toNat = cs.length + 3 := by omega
  rw [e1, e2] at o4
  exact hQ _ h4 ⟨c', l4, rfl, o4⟩ ((s2.trans s3).trans s4)
def WorksJ (c : Option Addr → Den KP2 → Heap → (Bool → Heap → Prop) → Prop) : Prop := ∀ {h0 h : Heap} {b : Nat} {s : AS} {S : Nat → Prop} {base a cc most : Int} {Q : Bool → Heap → Prop}, RA h0 b s S h → Qt s → 1 ≤ most → most ≤ 4096 → 0 ≤ base → base + 2 < a → a + 1 < (s.cs.length : Int) → gt s.cs base = 0 → gt s.cs (base + 1) = 0 → gt s.cs (base + 2) = a → gt s.cs a = cc → 1 ≤ cc →
  (∀ S' h', RA h0 b (workM s base a) S' h' → Step S S' h h' → Q true h') → c (some (ptr b)) (base, (most, ())) h Q
theorem okB {k p base most v : Int} (h : p = 1 ∨ p = 2) (m1 : 1 ≤ most) (m2 : most ≤ 4096) : (DOp.begin k p base most v).Ok ∧ (DOp.begin k p base most v).most ≤ 4096 := by
  refine ⟨DOp.Ok.begin h, ?_⟩
  rw [begin_eq m1 m2]; exact m2
theorem works_spec {cP cW cS cL} (iP : OpJ1 cP) (iW : WholeJ cW) (iS : OpJ DOp.steal cS) (iL : OpJ DOp.look cL) : WorksJ (law3_works.M cP cW cS cL) := by
  intro h0 h b s S base a cc most Q R q m1 m2 b0 ba al h1 h2 h3 h4 c1 hQ
  obtain ⟨w1, w2, w3, w4⟩ := works_run q m1 m2 b0 ba al h1 h2 h3 h4 c1
  have ok1 := okB (k := 1) (p := 1) (base := base) (v := 7) (.inl rfl) m1 m2
  have ok2 := okB (k := 3) (p := 2) (base := base) (v := 0) (.inr rfl) m1 m2
  have ok3 := okB (k := 4) (p := 2) (base := base) (v := 0) (.inr rfl) m1 m2
  refine iP (iW (x := DOp.push base most 7) (n := 6) R q ok1.1 ok1.2 (by decide) fun S1 g1 R1 s1 => iS (iW (x := DOp.steal base most) (n := 6) R1 (q.run 6 _) ok2.1 ok2.2 (by decide) fun S2 g2 R2 s2 => iL (iW (x := DOp.look base most) (n := 2) R2 ((q.run 6 _).run 6 _) ok3.1 ok3.2 (by decide) fun S3 g3 R3 s3 => ?_)))
  rw [w1, w2]
  have e3 : (runD 2 (runD 6 (runD 6 s (DOp.push base most 7)).1 (DOp.steal base most)).1 (DOp.look base most)).2.answer.1 = 8 := w3
  rw [e3]
  rw [w4] at R3
  refine ⟨fun _ => ⟨fun _ => ⟨fun _ => ⟨fun _ => ⟨fun _ => ⟨fun _ => ?_, fun e => absurd rfl (of_decide_eq_false e)⟩, fun e => absurd rfl (of_decide_eq_false e)⟩, fun e => absurd rfl (of_decide_eq_false e)⟩, fun e => (by cases e)⟩, fun e => (by cases e)⟩, fun e => (by cases e)⟩
  exact hQ S3 g3 R3 ((s1.trans s2).trans s3)
theorem turnB_ok {base most : Int} {th pop : Bool} {v : Int} {o : DOp} (ok : o.Ok) (hm : o.most ≤ 4096) (m1 : 1 ≤ most) (m2 : most ≤ 4096) : (turnB base most th pop v o).Ok ∧ (turnB base most th pop v o).most ≤ 4096 := by
  unfold turnB
  by_cases h : o.answer.1 ≠ 0
  · rw [if_pos h]
    cases th with
    | true => exact okB (.inr rfl) m1 m2
    | false =>
      cases pop with
      | true => exact okB (.inl rfl) m1 m2
      | false => exact okB (.inl rfl) m1 m2
  · rw [if_neg h]; exact ⟨ok, hm⟩
abbrev KTrn : Kd := .pair ki (.pair .bool (.pair .bool (.pair ki .nil)))
def TurnedJ (c : Option Addr → Den KP2 → Den KOp → Den KTrn → Heap → (Den KOp → Heap → Prop) → Prop) : Prop := ∀ {h0 h : Heap} {b : Nat} {s : AS} {S : Nat → Prop} {base most wh v : Int} {th pop : Bool} {o : DOp} {Q : Den KOp → Heap → Prop}, RA h0 b s S h → Qt s → o.Ok → o.most ≤ 4096 → 1 ≤ most → most ≤ 4096 →
  (∀ S' h', RA h0 b (stepD arenaI s (turnB base most th pop v o)).1 S' h' → Step S S' h h' → Q (stepD arenaI s (turnB base most th pop v o)).2.den h') → c (some (ptr b)) (base, (most, ())) o.den (wh, (th, (pop, (v, ())))) h Q
theorem turned_spec {cA cP cS cO cT} (iA : AnswJ cA) (iP : OpJ1 cP) (iS : OpJ DOp.steal cS) (iO : OpJ DOp.pop cO) (iT : StepJ 24 cT) : TurnedJ (law3_turned.M cA cP cS cO cT) := by
  intro h0 h b s S base most wh v th pop o Q R q ok hm m1 m2 hQ
  have go : ∀ x : DOp, x = turnB base most th pop v o → law3_turned.j1 cT (some (ptr b)) Q (x.flat, ()) h := fun x e => by
    have okx : x.Ok := by rw [e]; exact (turnB_ok ok hm m1 m2).1
    refine iT (x := x) R (by rw [q.lg]; exact Nat.zero_le _) q.cs q.sz okx fun S' h' R' s' => ?_
    rw [e] at R' ⊢
    exact hQ S' h' R' s'
  refine iA (o := o) ⟨fun e => iP ⟨fun e2 => iS ?_, fun e2 => ⟨fun e3 => iO ?_, fun e3 => ?_⟩⟩, fun e => ?_⟩
  · exact go (DOp.steal base most) (by
      have e : o.answer.1 ≠ 0 := of_decide_eq_true e
      have e2 : th = true := e2
      unfold turnB; rw [if_pos e, if_pos e2])
  · exact go (DOp.pop base most) (by
      have e : o.answer.1 ≠ 0 := of_decide_eq_true e
      have e2 : th = false := e2
      have e3 : pop = true := e3
      unfold turnB; rw [if_pos e, if_neg (by rw [e2]; decide), if_pos e3])
  · exact go (DOp.push base most v) (by
      have e : o.answer.1 ≠ 0 := of_decide_eq_true e
      have e2 : th = false := e2
      have e3 : pop = false := e3
      unfold turnB; rw [if_pos e, if_neg (by rw [e2]; decide), if_neg (by rw [e3]; decide)])
  · exact go o (by
      have e : ¬ o.answer.1 ≠ 0 := of_decide_eq_false e
      unfold turnB; rw [if_neg e])
/-! ### three arenas -/
theorem RA.baseT {h0 h1 b s S h} (R : RA h1 b s S h) (l : Go.Mx.le h0 h1) : RA h0 b s S h := by
  obtain ⟨c, l', rfl, o⟩ := R
  exact ⟨c, l', rfl, ⟨o.obj, o.cell.base l, o.log.base l, l.none o.nb, o.b1, o.b2, o.ap⟩⟩
def Tri (h0 : Heap) (b b1 b2 : Nat) (m m1 m2 : AS) (h : Heap) : Prop := ∃ S S1 S2, RA h0 b m S h ∧ RA h0 b1 m1 S1 h ∧ RA h0 b2 m2 S2 h ∧ (∀ x, S x → ¬ S1 x) ∧ (∀ x, S1 x → ¬ S2 x) ∧ (∀ x, S2 x → ¬ S x)
theorem Tri.rot {h0 b b1 b2 m m1 m2 h} (T : Tri h0 b b1 b2 m m1 m2 h) : Tri h0 b1 b2 b m1 m2 m h := by
  obtain ⟨S, S1, S2, a, b, c, d, e, f⟩ := T
  exact ⟨S1, S2, S, b, c, a, e, f, d⟩
theorem Tri.act {h0 b b1 b2 m m1 m2 h} (T : Tri h0 b b1 b2 m m1 m2 h) : ∃ S, RA h0 b m S h ∧ ∀ {m' S' h'}, RA h0 b m' S' h' → Step S S' h h' → Tri h0 b b1 b2 m' m1 m2 h' := by
  obtain ⟨S, S1, S2, ra, ra1, ra2, d1, d2, d3⟩ := T
  refine ⟨S, ra, fun {m' S' h'} r st => ?_⟩
  have live : ∀ {b m S}, RA h0 b m S h → ∀ x, S x → h x ≠ none := by
    rintro b m S ⟨c, l, rfl, o⟩ x hx
    exact o.live hx
  have fresh : ∀ x, S x → h0 x = none := by
    obtain ⟨c, l, rfl, o⟩ := ra
    exact fun x hx => o.fresh hx
  have ext : ∀ {b m T}, RA h0 b m T h → (∀ x, T x → ¬ S x) → RA h0 b m T h' := by
    rintro b m T ⟨c, l, rfl, o⟩ n
    exact ⟨c, l, rfl, o.ext st.1 n fresh⟩
  refine ⟨S', S1, S2, r, ext ra1 (fun x p q => d1 x q p), ext ra2 d3, ?_, d2, ?_⟩
  · exact fun x p q => st.off (T := S1) (fun x q r => d1 x r q) (live ra1) x q p
  · exact st.off (T := S2) d3 (live ra2)
theorem Tri.le {h0 b b1 b2 m m1 m2 h} (T : Tri h0 b b1 b2 m m1 m2 h) : Go.Mx.le h0 h := by
  obtain ⟨S, S1, S2, ⟨c, l, _, o⟩, _⟩ := T
  exact o.le
end Go.Mx
