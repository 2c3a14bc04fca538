/-
  A play of one deque: what begin and step come to.
-/
import Derived.Test.YtppehoailhjdfaaMxQh
import Derived.Test.YtppehoailhjdfaaMxPt
set_option linter.unusedVariables false
set_option linter.unusedSimpArgs false
set_option linter.unusedSectionVars false
namespace Go.Mx

abbrev KGm : Kd := .pair .ptr (.pair KP2 (.pair .sl (.pair .sl (.pair .sl .nil))))
abbrev KAc : Kd := .pair KOp (.pair ki .nil)
def actDen (a : DOp × Int) : Den KAc := (a.1.den, (a.2, ()))
/-- A game in memory. -/
structure Gm (h0 h : Heap) (g b : Nat) (most : Int) (td ac ca c l : Sl) (p : PS) : Prop where
  obj : Obj h g KGm (some (ptr b), ((0, (most, ())), (td, (ac, (ca, ())))))
  ar : Ar h0 h b c l p.m.sz p.m.cs p.m.lg p.m.who p.m.wt
  tds : Arr h0 KTd td p.todos
  acts : New h0 h KAc ac (p.acts.map actDen)
  calls : New h0 h KCl ca p.calls
  ng : h0 g = none
  g1 : ¬ fpA b c l g
  g2 : ¬ blkOf ac g
  g3 : ¬ blkOf ca g
  s1 : ∀ x, blkOf ac x → ¬ fpA b c l x
  s2 : ∀ x, blkOf ca x → ¬ fpA b c l x
  s3 : Apart ac ca
def fpG (g b : Nat) (ac ca c l : Sl) : Nat → Prop := fun x => x = g ∨ fpA b c l x ∨ blkOf ac x ∨ blkOf ca x

section
variable {h0 h : Heap} {g b : Nat} {most : Int} {td ac ca c l : Sl} {p : PS} (o : Gm h0 h g b most td ac ca c l p)
include o
theorem Gm.le : le h0 h := o.ar.le
theorem Gm.ldm {K : Option Addr → Prop} (hK : K (some (ptr b))) : ld .ptr h ((ptr g).add 0) K := o.obj.ld (kf := .ptr) ⟨[], _, rfl, rfl⟩ hK
theorem Gm.ldd {K : Den KP2 → Prop} (hK : K (0, (most, ()))) : ld KP2 h ((ptr g).add 1) K := o.obj.ld (kf := KP2) (y := ((0 : Int), (most, ()))) ⟨[.pointer (some (ptr b))], [td.val, ac.val, ca.val], rfl, rfl⟩ hK
theorem Gm.ldb {K : Int → Prop} (hK : K 0) : ld ki h (((ptr g).add 1).add 0) K := by
  rw [add_add']
  exact o.obj.ld (kf := ki) (y := (0 : Int)) ⟨[.pointer (some (ptr b))], [.int .i64 most, td.val, ac.val, ca.val], rfl, rfl⟩ hK
theorem Gm.ldt {K : Sl → Prop} (hK : K td) : ld .sl h ((ptr g).add 3) K := o.obj.ld (kf := .sl) ⟨[.pointer (some (ptr b)), .int .i64 0, .int .i64 most], [ac.val, ca.val], rfl, rfl⟩ hK
theorem Gm.lda {K : Sl → Prop} (hK : K ac) : ld .sl h ((ptr g).add 4) K := o.obj.ld (kf := .sl) ⟨[.pointer (some (ptr b)), .int .i64 0, .int .i64 most, td.val], [ca.val], rfl, rfl⟩ hK
theorem Gm.ldc {K : Sl → Prop} (hK : K ca) : ld .sl h ((ptr g).add 5) K := o.obj.ld (kf := .sl) ⟨[.pointer (some (ptr b)), .int .i64 0, .int .i64 most, td.val, ac.val], [], rfl, rfl⟩ hK
theorem Gm.sc : sees h (some ((ptr g).add 5)) .sl ca := o.obj.sees (kf := .sl) (y := ca) ⟨[.pointer (some (ptr b)), .int .i64 0, .int .i64 most, td.val, ac.val], [], rfl, rfl⟩
/-- The arena has changed. -/
theorem Gm.arena {h' : Heap} {m' : AS} {c' l' : Sl} (a : Ar h0 h' b c' l' m'.sz m'.cs m'.lg m'.who m'.wt) (s : Step (fpA b c l) (fpA b c' l') h h') : Gm h0 h' g b most td ac ca c' l' { p with m := m' } ∧ Step (fpG g b ac ca c l) (fpG g b ac ca c' l') h h' := by
  have f : ∀ x, fpA b c l x → h0 x = none := fun x hx => o.ar.fresh hx
  refine ⟨⟨o.obj.ext s.1 o.g1, a, o.tds, o.acts.ext s.1 (fun x q => o.s1 x q) f, o.calls.ext s.1 (fun x q => o.s2 x q) f, o.ng, ?_, o.g2, o.g3, ?_, ?_, o.s3⟩, s.1.mono (fun x q => .inr (.inl q)), fun x q => ?_⟩
  · exact s.off (T := (· = g)) (fun x e q => by subst e; exact o.g1 q) (fun x e => by subst e; exact o.obj.live) g rfl
  · exact fun x q => s.off (T := blkOf ac) o.s1 (fun x q => o.acts.own.live x q) x q
  · exact fun x q => s.off (T := blkOf ca) o.s2 (fun x q => o.calls.own.live x q) x q
  · rcases q with q | q | q | q
    · exact .inl (.inl q)
    · rcases s.2 x q with e | e
      · exact .inl (.inr (.inl e))
      · exact .inr e
    · exact .inl (.inr (.inr (.inl q)))
    · exact .inl (.inr (.inr (.inr q)))
/-- The actors have changed. -/
theorem Gm.putA {h' : Heap} {acts' : List (DOp × Int)} (a : New h0 h' KAc ac (acts'.map actDen)) (e : Ext (blkOf ac) h h') : Gm h0 h' g b most td ac ca c l { p with acts := acts' } ∧ Step (fpG g b ac ca c l) (fpG g b ac ca c l) h h' :=
  ⟨⟨o.obj.ext e o.g2, o.ar.ext e (fun x q r => o.s1 x r q) o.acts.new, o.tds, a, o.calls.ext e (fun x q r => o.s3 x r q) o.acts.new, o.ng, o.g1, o.g2, o.g3, o.s1, o.s2, o.s3⟩, e.mono (fun x q => .inr (.inr (.inl q))), fun x q => .inl q⟩
/-- The calls have changed, where they stand. -/
theorem Gm.putC {h' : Heap} {calls' : List DCl} (a : New h0 h' KCl ca calls') (e : Ext (blkOf ca) h h') : Gm h0 h' g b most td ac ca c l { p with calls := calls' } ∧ Step (fpG g b ac ca c l) (fpG g b ac ca c l) h h' :=
  ⟨⟨o.obj.ext e o.g3, o.ar.ext e (fun x q r => o.s2 x r q) o.calls.new, o.tds, o.acts.ext e (fun x q r => o.s3 x q r) o.calls.new, a, o.ng, o.g1, o.g2, o.g3, o.s1, o.s2, o.s3⟩, e.mono (fun x q => .inr (.inr (.inr q))), fun x q => .inl q⟩
/-- The todos have changed. -/
theorem Gm.putT {h' : Heap} {td' : Sl} {todos' : List DTd} (ob : Obj h' g KGm (some (ptr b), ((0, (most, ())), (td', (ac, (ca, ())))))) (t : Arr h0 KTd td' todos') (e : Ext (· = g) h h') : Gm h0 h' g b most td' ac ca c l { p with todos := todos' } ∧ Step (fpG g b ac ca c l) (fpG g b ac ca c l) h h' := by
  have f : ∀ x, x = g → h0 x = none := fun x hx => by subst hx; exact o.ng
  exact ⟨⟨ob, o.ar.ext e (fun x q r => by subst r; exact o.g1 q) f, t, o.acts.ext e (fun x q r => by subst r; exact o.g2 q) f, o.calls.ext e (fun x q r => by subst r; exact o.g3 q) f, o.ng, o.g1, o.g2, o.g3, o.s1, o.s2, o.s3⟩, e.mono (fun x q => .inl q), fun x q => .inl q⟩
/-- A call joins. -/
theorem Gm.addC {h1 h' : Heap} {ca' : Sl} {calls' : List DCl} (n : New h0 h1 KCl ca' calls') (e : Ext (blkOf ca) h h1) (nb : ∀ x, blkOf ca' x → blkOf ca x ∨ h x = none) (ob : Obj h' g KGm (some (ptr b), ((0, (most, ())), (td, (ac, (ca', ())))))) (e2 : Ext (· = g) h1 h') :
    Gm h0 h' g b most td ac ca' c l { p with calls := calls' } ∧ Step (fpG g b ac ca c l) (fpG g b ac ca' c l) h h' := by
  have f : ∀ x, x = g → h0 x = none := fun x hx => by subst hx; exact o.ng
  have st : Step (blkOf ca) (blkOf ca') h h1 := ⟨e, nb⟩
  have g3' : ¬ blkOf ca' g := st.off (T := (· = g)) (fun x e q => by subst e; exact o.g3 q) (fun x e => by subst e; exact o.obj.live) g rfl
  have s2' : ∀ x, blkOf ca' x → ¬ fpA b c l x := fun x q r => st.off (T := fpA b c l) (fun x q r => o.s2 x r q) (fun x q => o.ar.live q) x r q
  have s3' : Apart ac ca' := fun x q r => st.off (T := blkOf ac) o.s3 (fun x q => o.acts.own.live x q) x q r
  refine ⟨⟨ob, (o.ar.ext e (fun x q r => o.s2 x r q) o.calls.new).ext e2 (fun x q r => by subst r; exact o.g1 q) f, o.tds, (o.acts.ext e (fun x q r => o.s3 x q r) o.calls.new).ext e2 (fun x q r => by subst r; exact o.g2 q) f, n.ext e2 (fun x q r => by subst r; exact g3' q) f, o.ng, o.g1, o.g2, g3', o.s1, s2', s3'⟩,
    (e.mono (fun x q => .inr (.inr (.inr q)))).trans (e2.mono (fun x q => .inl q)), fun x q => ?_⟩
  rcases q with q | q | q | q
  · exact .inl (.inl q)
  · exact .inl (.inr (.inl q))
  · exact .inl (.inr (.inr (.inl q)))
  · rcases nb x q with r | r
    · exact .inl (.inr (.inr (.inr r)))
    · exact .inr r
end

theorem act_get {p : PS} {who : Nat} (h : who < p.acts.length) : p.acts[who]? = some (p.act who) := by
  unfold PS.act
  rw [List.getElem?_eq_getElem h]; rfl
theorem map_set {α β : Type} (f : α → β) (l : List α) (i : Nat) (x : α) : (l.set i x).map f = (l.map f).set i (f x) := List.map_set



theorem set_set' {α : Type} (l : List α) (i : Nat) (x y : α) : (l.set i x).set i y = l.set i y := List.set_set ..

end Go.Mx
