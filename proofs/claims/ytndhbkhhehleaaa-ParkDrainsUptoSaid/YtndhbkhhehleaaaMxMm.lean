/-
  The reference's memory: what its accesses come to.
-/
import Derived.Test.YtndhbkhhehleaaaMxAs
set_option linter.unusedVariables false
set_option linter.unusedSimpArgs false
set_option linter.unusedSectionVars false
namespace Go.Mx

abbrev KMem : Kd := .pair .sl (.pair ki (.pair ki (.pair .sl .nil)))
structure MmS (h0 h : Heap) (b : Nat) (c l : Sl) (sz : Int) (cs : List Int) (lg : List Acc) (who : Int) : Prop where
  obj : Obj h b KMem (c, (sz, (who, (l, ()))))
  cell : New h0 h ki c cs
  log : New h0 h KAcc l lg
  nb : h0 b = none
  b1 : ¬ blkOf c b
  b2 : ¬ blkOf l b
  ap : Apart c l
theorem MmS.fresh {h0 h b c l sz cs lg who} (o : MmS h0 h b c l sz cs lg who) {x : Nat} (hx : fpA b c l x) : h0 x = none := by
  rcases hx with rfl | hx | hx
  · exact o.nb
  · exact o.cell.new x hx
  · exact o.log.new x hx
section
variable {h0 h : Heap} {b : Nat} {c l : Sl} {sz : Int} {cs : List Int} {lg : List Acc} {who : Int} (o : MmS h0 h b c l sz cs lg who)
include o
theorem MmS.ld0 {K : Sl → Prop} (hK : K c) : ld .sl h ((ptr b).add 0) K := o.obj.ld (kf := .sl) (y := c) ⟨[], _, rfl, rfl⟩ hK
theorem MmS.grown (hn : cs.length ≤ 1000000000) {v : Int} {Q : Heap → Prop} (hQ : ∀ c' h', MmS h0 h' b c' l sz (cs ++ [v]) lg who → Step (fpA b c l) (fpA b c' l) h h' → Q h') :
    ld .sl h ((ptr b).add 0) fun t => new h ([v].flatMap (Kd.cells ki)) fun p h1 => appendM 1 8 h1 t ⟨some p, 1, 1⟩ fun t2 h2 => st .sl h2 ((ptr b).add 0) t2 Q := by
  have hll := o.cell.len
  refine o.ld0 (o.cell.app3 rfl rfl (by omega) fun t h2 n2 x2 b2 => ?_)
  have o2 : Obj h2 b KMem (c, (sz, (who, (l, ())))) := o.obj.ext x2 o.b1
  refine o2.st (kf := .sl) (v := t) (off := 0) (x' := (t, (sz, (who, (l, ()))))) rfl (by decide) rfl fun h3 o3 x3 => ?_
  have bt : ¬ blkOf t b := fun q => by
    rcases b2 b q with c | c
    · exact o.b1 c
    · exact o.obj.live c
  have f : ∀ x, x = b → h0 x = none := fun x hx => by subst hx; exact o.nb
  refine hQ t h3 ⟨o3, n2.ext x3 (fun x p q => by subst q; exact bt p) f, (o.log.ext x2 (fun x p q => o.ap x q p) o.cell.new).ext x3 (fun x p q => by subst q; exact o.b2 p) f, o.nb, bt, o.b2, fun x p q => ?_⟩
    ⟨(x2.mono (fun x q => .inr (.inl q))).trans (x3.mono (fun x q => .inl q)), fun x q => ?_⟩
  · rcases b2 x p with c | c
    · exact o.ap x c q
    · exact o.log.own.live x q c
  · rcases q with q | q | q
    · exact .inl (.inl q)
    · rcases b2 x q with c | c
      · exact .inl (.inr (.inl c))
      · exact .inr c
    · exact .inl (.inr (.inr q))
end

section
variable {h0 h : Heap} {b : Nat} {c l : Sl} {sz : Int} {cs : List Int} {lg : List Acc} {who : Int} (o : MmS h0 h b c l sz cs lg who) (hl : lg.length ≤ 1000000000) (hf : (cs.length : Int) ≤ sz) (hz : sz ≤ 1048576)
include o hl hf hz

end

end Go.Mx
