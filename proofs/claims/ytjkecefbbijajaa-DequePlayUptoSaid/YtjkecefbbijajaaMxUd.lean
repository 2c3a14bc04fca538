/-
  The reference's play: begin and pick.
-/
import Derived.Test.YtjkecefbbijajaaMxUc
import Derived.Test.YtjkecefbbijajaaMxQk
set_option linter.unusedVariables false
set_option linter.unusedSimpArgs false
set_option linter.unusedSectionVars false
namespace Go.Mx

/-- The reference's memory is as large as can be. -/
def AS.big (m : AS) : AS := { m with sz := 1048576 }
theorem big_who (m : AS) (w : Int) : AS.big { m with who := w } = { m.big with who := w } := rfl
theorem big_acc {m m' : AS} {r : Rq} {v : Int} (h : arenaI m r = (some v, m')) (hz : m.sz ≤ 1048576) : arenaI m.big r = (some v, m'.big) := by
  obtain ⟨sz, cs, lg, who, wt⟩ := m
  dsimp only at hz
  cases r with
  | ld a =>
    by_cases e : 0 ≤ a ∧ a < (cs.length : Int)
    · have h1 : arenaI ⟨sz, cs, lg, who, wt⟩ (.ld a) = (some (AS.at' ⟨sz, cs, lg, who, wt⟩ a), AS.log ⟨sz, cs, lg, who, wt⟩ (who, (0, (a, (AS.at' ⟨sz, cs, lg, who, wt⟩ a, (0, (true, ()))))))) := if_pos e
      have h2 : arenaI (AS.big ⟨sz, cs, lg, who, wt⟩) (.ld a) = (some (AS.at' ⟨sz, cs, lg, who, wt⟩ a), AS.big (AS.log ⟨sz, cs, lg, who, wt⟩ (who, (0, (a, (AS.at' ⟨sz, cs, lg, who, wt⟩ a, (0, (true, ())))))))) := if_pos e
      rw [h1] at h; rw [h2]; cases h; rfl
    · have h1 : arenaI ⟨sz, cs, lg, who, wt⟩ (.ld a) = (none, ⟨sz, cs, lg, who, wt⟩) := if_neg e
      rw [h1] at h; cases h
  | st a x =>
    by_cases e : 0 ≤ a ∧ a < (cs.length : Int)
    · have h1 : arenaI ⟨sz, cs, lg, who, wt⟩ (.st a x) = (some 0, AS.log ⟨sz, cs.set a.toNat x, lg, who, wt⟩ (who, (1, (a, (x, (0, (true, ()))))))) := if_pos e
      have h2 : arenaI (AS.big ⟨sz, cs, lg, who, wt⟩) (.st a x) = (some 0, AS.big (AS.log ⟨sz, cs.set a.toNat x, lg, who, wt⟩ (who, (1, (a, (x, (0, (true, ())))))))) := if_pos e
      rw [h1] at h; rw [h2]; cases h; rfl
    · have h1 : arenaI ⟨sz, cs, lg, who, wt⟩ (.st a x) = (none, ⟨sz, cs, lg, who, wt⟩) := if_neg e
      rw [h1] at h; cases h
  | cas a x y =>
    by_cases e : 0 ≤ a ∧ a < (cs.length : Int)
    · have h1 : arenaI ⟨sz, cs, lg, who, wt⟩ (.cas a x y) = (some (if AS.at' ⟨sz, cs, lg, who, wt⟩ a = x then 1 else 0), AS.log ⟨sz, if AS.at' ⟨sz, cs, lg, who, wt⟩ a = x then cs.set a.toNat y else cs, lg, who, wt⟩ (who, (2, (a, (x, (y, (decide (AS.at' ⟨sz, cs, lg, who, wt⟩ a = x), ()))))))) := if_pos e
      have h2 : arenaI (AS.big ⟨sz, cs, lg, who, wt⟩) (.cas a x y) = (some (if AS.at' ⟨sz, cs, lg, who, wt⟩ a = x then 1 else 0), AS.big (AS.log ⟨sz, if AS.at' ⟨sz, cs, lg, who, wt⟩ a = x then cs.set a.toNat y else cs, lg, who, wt⟩ (who, (2, (a, (x, (y, (decide (AS.at' ⟨sz, cs, lg, who, wt⟩ a = x), ())))))))) := if_pos e
      rw [h1] at h; rw [h2]; cases h; rfl
    · have h1 : arenaI ⟨sz, cs, lg, who, wt⟩ (.cas a x y) = (none, ⟨sz, cs, lg, who, wt⟩) := if_neg e
      rw [h1] at h; cases h
  | rs n =>
    have h1 : arenaI ⟨sz, cs, lg, who, wt⟩ (.rs n) = if n < 1 then (none, ⟨sz, cs, lg, who, wt⟩) else if sz - (cs.length : Int) < n then (none, ⟨sz, cs, lg, who, wt⟩) else (some (cs.length : Int), AS.log ⟨sz, cs ++ List.replicate n.toNat 0, lg, who, wt⟩ (who, (4, ((cs.length : Int), (n, (0, (true, ()))))))) := rfl
    have h2 : arenaI (AS.big ⟨sz, cs, lg, who, wt⟩) (.rs n) = if n < 1 then (none, AS.big ⟨sz, cs, lg, who, wt⟩) else if 1048576 - (cs.length : Int) < n then (none, AS.big ⟨sz, cs, lg, who, wt⟩) else (some (cs.length : Int), AS.big (AS.log ⟨sz, cs ++ List.replicate n.toNat 0, lg, who, wt⟩ (who, (4, ((cs.length : Int), (n, (0, (true, ())))))))) := rfl
    rw [h1] at h; rw [h2]
    by_cases e : n < 1
    · rw [if_pos e] at h; cases h
    rw [if_neg e] at h ⊢
    by_cases f : sz - (cs.length : Int) < n
    · rw [if_pos f] at h; cases h
    rw [if_neg f] at h
    rw [if_neg (by omega)]
    cases h; rfl

abbrev KRu : Kd := .pair .sl (.pair .sl (.pair .sl .nil))
abbrev KSt : Kd := .pair .ptr (.pair KP2 (.pair .sl (.pair ki (.pair .sl (.pair KRu .nil)))))
abbrev KRa : Kd := .pair ki (.pair KRo .nil)
def stV (b : Nat) (most : Int) (td : Sl) (nx : Nat) (ac ca : Sl) : Den KSt := (some (ptr b), ((0, (most, ())), (td, ((nx : Int), (ac, ((ca, (Sl.none, (Sl.none, ()))), ()))))))
/-- An actor of the reference's. -/
def ElS (h0 h : Heap) (most : Int) (F : Nat → Prop) (N : Nat) (e : Den KRa) (a : DOp × Int) : Prop :=
  ∃ kind bs ms v s dead hs, e = (a.2, (ropD kind bs ms v s dead, ())) ∧ (0 ≤ a.2 → bs = 0 ∧ ms = most ∧ RelO kind 0 most v hs dead a.1) ∧ Arr h ki s hs ∧ (∀ x, blkOf s x → h x ≠ none ∧ h0 x = none ∧ ¬ F x) ∧ hs.length ≤ N
theorem ElS.step {h0 h h' most F F' N e a} (E : ElS h0 h most F N e a) (s : Step F F' h h') : ElS h0 h' most F' N e a := by
  obtain ⟨kind, bs, ms, v, sl, dead, hs, q1, q2, q3, q4, q5⟩ := E
  refine ⟨kind, bs, ms, v, sl, dead, hs, q1, q2, Arr.ext s.1 q3 (fun x p => (q4 x p).2.2), fun x p => ⟨fun c => (q4 x p).1 (s.1.2 x c), (q4 x p).2.1, ?_⟩, q5⟩
  exact s.off (T := blkOf sl) (fun x p => (q4 x p).2.2) (fun x p => (q4 x p).1) x p
theorem ElS.mono {h0 h most F N N' e a} (E : ElS h0 h most F N e a) (hN : N ≤ N') : ElS h0 h most F N' e a := by
  obtain ⟨kind, bs, ms, v, sl, dead, hs, q1, q2, q3, q4, q5⟩ := E
  exact ⟨kind, bs, ms, v, sl, dead, hs, q1, q2, q3, q4, by omega⟩
def fpS3 (g : Nat) (ac ca : Sl) (S : Nat → Prop) : Nat → Prop := fun x => x = g ∨ S x ∨ blkOf ac x ∨ blkOf ca x
structure RG (h0 h : Heap) (g b : Nat) (most : Int) (td ac ca : Sl) (tds : List DTd) (nx : Nat) (es : List (Den KRa)) (S : Nat → Prop) (N : Nat) (p : PS) : Prop where
  obj : Obj h g KSt (stV b most td nx ac ca)
  mem : RMem h0 b p.m.big S h
  tda : Arr h0 KTd td tds
  nxl : nx ≤ tds.length
  tdp : p.todos = tds.drop nx
  acts : New h0 h KRa ac es
  elen : es.length = p.acts.length
  el : ∀ i e, es[i]? = some e → ElS h0 h most (fpS3 g ac ca S) N e (p.act i)
  calls : New h0 h KCl ca p.calls
  ng : h0 g = none
  g1 : ¬ S g
  g2 : ¬ blkOf ac g
  g3 : ¬ blkOf ca g
  s1 : ∀ x, blkOf ac x → ¬ S x
  s2 : ∀ x, blkOf ca x → ¬ S x
  s3 : Apart ac ca
section
variable {h0 h : Heap} {g b : Nat} {most : Int} {td ac ca : Sl} {tds : List DTd} {nx : Nat} {es : List (Den KRa)} {S : Nat → Prop} {N : Nat} {p : PS} (o : RG h0 h g b most td ac ca tds nx es S N p)
include o
theorem RG.le : le h0 h := o.calls.le
theorem RG.ld0 {K : Option Addr → Prop} (hK : K (some (ptr b))) : ld .ptr h ((ptr g).add 0) K := o.obj.ld (k := KSt) (kf := .ptr) (y := some (ptr b)) ⟨[], _, rfl, rfl⟩ hK
theorem RG.ld1 {K : Den KP2 → Prop} (hK : K (0, (most, ()))) : ld KP2 h ((ptr g).add 1) K := o.obj.ld (k := KSt) (kf := KP2) (y := ((0 : Int), (most, ()))) ⟨[_], [td.val, .int .i64 nx, ac.val, ca.val, Sl.none.val, Sl.none.val], rfl, rfl⟩ hK
theorem RG.ld3 {K : Sl → Prop} (hK : K td) : ld .sl h ((ptr g).add 3) K := o.obj.ld (k := KSt) (kf := .sl) (y := td) ⟨[_, _, _], _, rfl, rfl⟩ hK
theorem RG.ld4 {K : Int → Prop} (hK : K (nx : Int)) : ld ki h ((ptr g).add 4) K := o.obj.ld (k := KSt) (kf := ki) (y := (nx : Int)) ⟨[_, _, _, _], _, rfl, rfl⟩ hK
theorem RG.ld5 {K : Sl → Prop} (hK : K ac) : ld .sl h ((ptr g).add 5) K := o.obj.ld (k := KSt) (kf := .sl) (y := ac) ⟨[_, _, _, _, _], _, rfl, rfl⟩ hK
theorem RG.ld6 {K : Sl → Prop} (hK : K ca) : ld .sl h (((ptr g).add 6).add 0) K := by
  rw [add_add']
  exact o.obj.ld (k := KSt) (kf := .sl) (y := ca) ⟨[_, _, _, _, _, _], _, rfl, rfl⟩ hK
theorem RG.mono {N' : Nat} (hN : N ≤ N') : RG h0 h g b most td ac ca tds nx es S N' p := { o with el := fun i e q => (o.el i e q).mono hN }
/-- The memory has changed. -/
theorem RG.memo {h' : Heap} {m' : AS} {S' : Nat → Prop} (a : RMem h0 b m'.big S' h') (s : Step S S' h h') : RG h0 h' g b most td ac ca tds nx es S' N { p with m := m' } ∧ Step (fpS3 g ac ca S) (fpS3 g ac ca S') h h' := by
  have f : ∀ x, S x → h0 x = none := fun x hx => o.mem.fresh hx
  have st : Step (fpS3 g ac ca S) (fpS3 g ac ca S') h h' := ⟨s.1.mono fun x q => .inr (.inl q), fun x q => by
    rcases q with q | q | q | q
    · exact .inl (.inl q)
    · rcases s.2 x q with r | r
      · exact .inl (.inr (.inl r))
      · exact .inr r
    · exact .inl (.inr (.inr (.inl q)))
    · exact .inl (.inr (.inr (.inr q)))⟩
  refine ⟨⟨o.obj.ext s.1 o.g1, a, o.tda, o.nxl, o.tdp, o.acts.ext s.1 (fun x q => o.s1 x q) f, o.elen, fun i e q => (o.el i e q).step st, o.calls.ext s.1 (fun x q => o.s2 x q) f, o.ng, ?_, o.g2, o.g3, ?_, ?_, o.s3⟩, st⟩
  · exact s.off (T := (· = g)) (fun x e q => by subst e; exact o.g1 q) (fun x e => by subst e; exact o.obj.live) g rfl
  · exact s.off (T := blkOf ac) o.s1 (fun x q => o.acts.own.live x q)
  · exact s.off (T := blkOf ca) o.s2 (fun x q => o.calls.own.live x q)
/-- An actor has changed. -/
theorem RG.putA {h' : Heap} {who : Nat} {e' : Den KRa} {a' : DOp × Int} (hw : who < p.acts.length) (a : New h0 h' KRa ac (es.set who e')) (x : Ext (blkOf ac) h h') (E : ElS h0 h most (fpS3 g ac ca S) N e' a') : RG h0 h' g b most td ac ca tds nx (es.set who e') S N { p with acts := p.acts.set who a' } ∧ Step (fpS3 g ac ca S) (fpS3 g ac ca S) h h' := by
  have st : Step (fpS3 g ac ca S) (fpS3 g ac ca S) h h' := ⟨x.mono fun x q => .inr (.inr (.inl q)), fun x q => .inl q⟩
  refine ⟨⟨o.obj.ext x o.g2, o.mem.ext x (fun x q r => o.s1 x r q) o.acts.new, o.tda, o.nxl, o.tdp, a, by rw [List.length_set]; show es.length = (p.acts.set _ _).length; rw [List.length_set]; exact o.elen, fun i e q => ?_, o.calls.ext x (fun x q r => o.s3 x r q) o.acts.new, o.ng, o.g1, o.g2, o.g3, o.s1, o.s2, o.s3⟩, st⟩
  rw [act_set hw]
  by_cases c : i = who
  · subst c
    rw [if_pos rfl]
    rw [List.getElem?_set_self (by rw [o.elen]; exact hw)] at q
    cases q
    exact E.step st
  · rw [if_neg c]
    rw [List.getElem?_set_ne (fun z => c z.symm)] at q
    exact (o.el i e q).step st
/-- The calls have changed, where they stand. -/
theorem RG.putC {h' : Heap} {calls' : List DCl} (a : New h0 h' KCl ca calls') (x : Ext (blkOf ca) h h') : RG h0 h' g b most td ac ca tds nx es S N { p with calls := calls' } ∧ Step (fpS3 g ac ca S) (fpS3 g ac ca S) h h' := by
  have st : Step (fpS3 g ac ca S) (fpS3 g ac ca S) h h' := ⟨x.mono fun x q => .inr (.inr (.inr q)), fun x q => .inl q⟩
  exact ⟨⟨o.obj.ext x o.g3, o.mem.ext x (fun x q r => o.s2 x r q) o.calls.new, o.tda, o.nxl, o.tdp, o.acts.ext x (fun x q r => o.s3 x q r) o.calls.new, o.elen, fun i e q => (o.el i e q).step st, a, o.ng, o.g1, o.g2, o.g3, o.s1, o.s2, o.s3⟩, st⟩
/-- The next todo. -/
theorem RG.putN {h' : Heap} {nx' : Nat} (ob : Obj h' g KSt (stV b most td nx' ac ca)) (hn : nx' ≤ tds.length) (x : Ext (· = g) h h') : RG h0 h' g b most td ac ca tds nx' es S N { p with todos := tds.drop nx' } ∧ Step (fpS3 g ac ca S) (fpS3 g ac ca S) h h' := by
  have st : Step (fpS3 g ac ca S) (fpS3 g ac ca S) h h' := ⟨x.mono fun x q => .inl q, fun x q => .inl q⟩
  have f : ∀ x, x = g → h0 x = none := fun x hx => by subst hx; exact o.ng
  exact ⟨⟨ob, o.mem.ext x (fun x q r => by subst r; exact o.g1 q) f, o.tda, hn, rfl, o.acts.ext x (fun x q r => by subst r; exact o.g2 q) f, o.elen, fun i e q => (o.el i e q).step st, o.calls.ext x (fun x q r => by subst r; exact o.g3 q) f, o.ng, o.g1, o.g2, o.g3, o.s1, o.s2, o.s3⟩, st⟩
/-- A call joins. -/
theorem RG.addC {h1 h' : Heap} {ca' : Sl} {calls' : List DCl} (n : New h0 h1 KCl ca' calls') (x : Ext (blkOf ca) h h1) (nb : ∀ x, blkOf ca' x → blkOf ca x ∨ h x = none) (ob : Obj h' g KSt (stV b most td nx ac ca')) (x2 : Ext (· = g) h1 h') :
    RG h0 h' g b most td ac ca' tds nx es S N { p with calls := calls' } ∧ Step (fpS3 g ac ca S) (fpS3 g ac ca' S) h h' := by
  have f : ∀ x, x = g → h0 x = none := fun x hx => by subst hx; exact o.ng
  have st0 : Step (blkOf ca) (blkOf ca') h h1 := ⟨x, nb⟩
  have st : Step (fpS3 g ac ca S) (fpS3 g ac ca' S) h h' := ⟨(x.mono fun x q => .inr (.inr (.inr q))).trans (x2.mono fun x q => .inl q), fun x q => by
    rcases q with q | q | q | q
    · exact .inl (.inl q)
    · exact .inl (.inr (.inl q))
    · exact .inl (.inr (.inr (.inl q)))
    · rcases nb x q with r | r
      · exact .inl (.inr (.inr (.inr r)))
      · exact .inr r⟩
  have g3' : ¬ blkOf ca' g := st0.off (T := (· = g)) (fun x e q => by subst e; exact o.g3 q) (fun x e => by subst e; exact o.obj.live) g rfl
  have s2' : ∀ x, blkOf ca' x → ¬ S x := fun x q r => st0.off (T := S) (fun x q r => o.s2 x r q) (fun x q => o.mem.live q) x r q
  have s3' : Apart ac ca' := fun x q r => st0.off (T := blkOf ac) o.s3 (fun x q => o.acts.own.live x q) x q r
  exact ⟨⟨ob, (o.mem.ext x (fun x q r => o.s2 x r q) o.calls.new).ext x2 (fun x q r => by subst r; exact o.g1 q) f, o.tda, o.nxl, o.tdp, (o.acts.ext x (fun x q r => o.s3 x q r) o.calls.new).ext x2 (fun x q r => by subst r; exact o.g2 q) f, o.elen, fun i e q => (o.el i e q).step st, n.ext x2 (fun x q r => by subst r; exact g3' q) f, o.ng, o.g1, o.g2, g3', o.s1, s2', s3'⟩, st⟩
end
end Go.Mx
