/-
  The reference's memory: what its accesses come to.
-/
import Derived.Test.YtndhbkhhehleaaaMxAs
set_option linter.unusedVariables false
set_option linter.unusedSimpArgs false
set_option linter.unusedSectionVars false
namespace Go.Mx

abbrev KMem : Kd := .pair .sl (.pair ki (.pair ki (.pair .sl .nil)))
structure MmS (h0 h : Heap) (b : Nat) (c l : Sl) (sz : Int) (cs : List Int) (lg : List Acc) (who : Int) : Prop where
  obj : Obj h b KMem (c, (sz, (who, (l, ()))))
  cell : New h0 h ki c cs
  log : New h0 h KAcc l lg
  nb : h0 b = none
  b1 : ¬ blkOf c b
  b2 : ¬ blkOf l b
  ap : Apart c l
theorem MmS.le {h0 h b c l sz cs lg who} (o : MmS h0 h b c l sz cs lg who) : le h0 h := o.cell.le
theorem MmS.live {h0 h b c l sz cs lg who} (o : MmS h0 h b c l sz cs lg who) {x : Nat} (hx : fpA b c l x) : h x ≠ none := by
  rcases hx with rfl | hx | hx
  · exact o.obj.live
  · exact o.cell.own.live x hx
  · exact o.log.own.live x hx
theorem MmS.fresh {h0 h b c l sz cs lg who} (o : MmS h0 h b c l sz cs lg who) {x : Nat} (hx : fpA b c l x) : h0 x = none := by
  rcases hx with rfl | hx | hx
  · exact o.nb
  · exact o.cell.new x hx
  · exact o.log.new x hx
theorem MmS.ext {h0 h h' b c l sz cs lg who} (o : MmS h0 h b c l sz cs lg who) {S : Nat → Prop} (e : Ext S h h') (n : ∀ x, fpA b c l x → ¬ S x) (f : ∀ x, S x → h0 x = none) : MmS h0 h' b c l sz cs lg who :=
  ⟨o.obj.ext e (n b (.inl rfl)), o.cell.ext e (fun x hx => n x (.inr (.inl hx))) f, o.log.ext e (fun x hx => n x (.inr (.inr hx))) f, o.nb, o.b1, o.b2, o.ap⟩
theorem MmS.more {h0 h h' b c l sz cs lg who} (o : MmS h0 h b c l sz cs lg who) (e : Go.Mx.le h h') : MmS h0 h' b c l sz cs lg who :=
  ⟨o.obj.le e, o.cell.more e, o.log.more e, o.nb, o.b1, o.b2, o.ap⟩

section
variable {h0 h : Heap} {b : Nat} {c l : Sl} {sz : Int} {cs : List Int} {lg : List Acc} {who : Int} (o : MmS h0 h b c l sz cs lg who)
include o
theorem MmS.ld0 {K : Sl → Prop} (hK : K c) : ld .sl h ((ptr b).add 0) K := o.obj.ld (kf := .sl) (y := c) ⟨[], _, rfl, rfl⟩ hK
theorem MmS.ld1 {K : Int → Prop} (hK : K sz) : ld ki h ((ptr b).add 1) K := o.obj.ld (kf := ki) (y := sz) ⟨[c.val], _, rfl, rfl⟩ hK
theorem MmS.ld2 {K : Int → Prop} (hK : K who) : ld ki h ((ptr b).add 2) K := o.obj.ld (kf := ki) (y := who) ⟨[c.val, .int .i64 sz], _, rfl, rfl⟩ hK
theorem MmS.ld3 {K : Sl → Prop} (hK : K l) : ld .sl h ((ptr b).add 3) K := o.obj.ld (kf := .sl) (y := l) ⟨[c.val, .int .i64 sz, .int .i64 who], _, rfl, rfl⟩ hK

/-- One access more in the log. -/
theorem MmS.logged (hl : lg.length ≤ 1000000000) {a : Acc} {Q : Heap → Prop} (hQ : ∀ l' h', MmS h0 h' b c l' sz cs (lg ++ [a]) who → Step (fpA b c l) (fpA b c l') h h' → Q h') :
    ld .sl h ((ptr b).add 3) fun t => new h ([a].flatMap (Kd.cells KAcc)) fun p h1 => appendM 6 48 h1 t ⟨some p, 1, 1⟩ fun t2 h2 => st .sl h2 ((ptr b).add 3) t2 Q := by
  have hll := o.log.len
  refine o.ld3 (o.log.app3 rfl rfl (by omega) fun t h2 n2 x2 b2 => ?_)
  have o2 : Obj h2 b KMem (c, (sz, (who, (l, ())))) := o.obj.ext x2 o.b2
  refine o2.st (kf := .sl) (v := t) (off := 3) (x' := (c, (sz, (who, (t, ()))))) rfl (by decide) rfl fun h3 o3 x3 => ?_
  have bt : ¬ blkOf t b := fun q => by
    rcases b2 b q with c | c
    · exact o.b2 c
    · exact o.obj.live c
  have f : ∀ x, x = b → h0 x = none := fun x hx => by subst hx; exact o.nb
  refine hQ t h3 ⟨o3, (o.cell.ext x2 (fun x p q => o.ap x p q) o.log.new).ext x3 (fun x p q => by subst q; exact o.b1 p) f, n2.ext x3 (fun x p q => by subst q; exact bt p) f, o.nb, o.b1, bt, fun x p q => ?_⟩
    ⟨(x2.mono (fun x q => .inr (.inr q))).trans (x3.mono (fun x q => .inl q)), fun x q => ?_⟩
  · rcases b2 x q with c | c
    · exact o.ap x p c
    · exact o.cell.own.live x p c
  · rcases q with q | q | q
    · exact .inl (.inl q)
    · exact .inl (.inr (.inl q))
    · rcases b2 x q with c | c
      · exact .inl (.inr (.inr c))
      · exact .inr c
/-- One cell more. -/
theorem MmS.grown (hn : cs.length ≤ 1000000000) {v : Int} {Q : Heap → Prop} (hQ : ∀ c' h', MmS h0 h' b c' l sz (cs ++ [v]) lg who → Step (fpA b c l) (fpA b c' l) h h' → Q h') :
    ld .sl h ((ptr b).add 0) fun t => new h ([v].flatMap (Kd.cells ki)) fun p h1 => appendM 1 8 h1 t ⟨some p, 1, 1⟩ fun t2 h2 => st .sl h2 ((ptr b).add 0) t2 Q := by
  have hll := o.cell.len
  refine o.ld0 (o.cell.app3 rfl rfl (by omega) fun t h2 n2 x2 b2 => ?_)
  have o2 : Obj h2 b KMem (c, (sz, (who, (l, ())))) := o.obj.ext x2 o.b1
  refine o2.st (kf := .sl) (v := t) (off := 0) (x' := (t, (sz, (who, (l, ()))))) rfl (by decide) rfl fun h3 o3 x3 => ?_
  have bt : ¬ blkOf t b := fun q => by
    rcases b2 b q with c | c
    · exact o.b1 c
    · exact o.obj.live c
  have f : ∀ x, x = b → h0 x = none := fun x hx => by subst hx; exact o.nb
  refine hQ t h3 ⟨o3, n2.ext x3 (fun x p q => by subst q; exact bt p) f, (o.log.ext x2 (fun x p q => o.ap x q p) o.cell.new).ext x3 (fun x p q => by subst q; exact o.b2 p) f, o.nb, bt, o.b2, fun x p q => ?_⟩
    ⟨(x2.mono (fun x q => .inr (.inl q))).trans (x3.mono (fun x q => .inl q)), fun x q => ?_⟩
  · rcases b2 x p with c | c
    · exact o.ap x c q
    · exact o.log.own.live x q c
  · rcases q with q | q | q
    · exact .inl (.inl q)
    · rcases b2 x q with c | c
      · exact .inl (.inr (.inl c))
      · exact .inr c
    · exact .inl (.inr (.inr q))
/-- A cell is written. -/
theorem MmS.wrote {addr v : Int} (q0 : 0 ≤ addr) (q1 : addr < (cs.length : Int)) {Q : Heap → Prop} (hQ : ∀ h', MmS h0 h' b c l sz (cs.set addr.toNat v) lg who → Step (fpA b c l) (fpA b c l) h h' → Q h') :
    deref c.a fun a => st ki h (a.add (addr.toNat * 1)) v Q := by
  have hc := o.cell.len
  refine o.cell.set q0 (by omega) rfl rfl fun h1 n1 x1 => ?_
  exact hQ h1 ⟨o.obj.ext x1 o.b1, n1, o.log.ext x1 (fun x p q => o.ap x q p) o.cell.new, o.nb, o.b1, o.b2, o.ap⟩ ⟨x1.mono (fun x q => .inr (.inl q)), fun x q => .inl q⟩
end

abbrev Wt := Den (.pair ki (.pair ki (.pair ki (.pair ki (.pair ki (.pair ki .nil))))))

section
variable {h0 h : Heap} {b : Nat} {c l : Sl} {sz : Int} {cs : List Int} {lg : List Acc} {who : Int} (o : MmS h0 h b c l sz cs lg who) (hl : lg.length ≤ 1000000000) (hf : (cs.length : Int) ≤ sz) (hz : sz ≤ 1048576)
include o hl hf hz

end

end Go.Mx
