/-
  cells.Arena, and the reference's memory: what their calls come to.
-/
import Derived.Test.YtndhbkhhehleaaaMxOb
import Derived.Test.YtndhbkhhehleaaaMd
set_option linter.unusedVariables false
set_option linter.unusedSimpArgs false
set_option linter.unusedSectionVars false
namespace Go.Mx

abbrev K2 : Kd := .pair ki (.pair ki .nil)
abbrev KAr : Kd := .pair K2 (.pair .sl (.pair .sl (.pair ki (.pair .bool .nil))))
abbrev KAcc : Kd := .pair ki (.pair ki (.pair ki (.pair ki (.pair ki (.pair .bool .nil)))))
abbrev Acc := Den KAcc

structure ArS (h0 h : Heap) (b : Nat) (c l : Sl) (sz mk : Int) (cs : List Int) (lg : List Acc) (who : Int) (wt : Bool) : Prop where
  obj : Obj h b KAr ((sz, (mk, ())), (c, (l, (who, (wt, ())))))
  cell : New h0 h ki c cs
  log : New h0 h KAcc l lg
  nb : h0 b = none
  b1 : ¬ blkOf c b
  b2 : ¬ blkOf l b
  ap : Apart c l
def fpA (b : Nat) (c l : Sl) : Nat → Prop := fun x => x = b ∨ blkOf c x ∨ blkOf l x

theorem ArS.le {h0 h b c l sz mk cs lg who wt} (o : ArS h0 h b c l sz mk cs lg who wt) : le h0 h := o.cell.le
theorem ArS.live {h0 h b c l sz mk cs lg who wt} (o : ArS h0 h b c l sz mk cs lg who wt) {x : Nat} (hx : fpA b c l x) : h x ≠ none := by
  rcases hx with rfl | hx | hx
  · exact o.obj.live
  · exact o.cell.own.live x hx
  · exact o.log.own.live x hx
theorem ArS.fresh {h0 h b c l sz mk cs lg who wt} (o : ArS h0 h b c l sz mk cs lg who wt) {x : Nat} (hx : fpA b c l x) : h0 x = none := by
  rcases hx with rfl | hx | hx
  · exact o.nb
  · exact o.cell.new x hx
  · exact o.log.new x hx
theorem ArS.ext {h0 h h' b c l sz mk cs lg who wt} (o : ArS h0 h b c l sz mk cs lg who wt) {S : Nat → Prop} (e : Ext S h h') (n : ∀ x, fpA b c l x → ¬ S x) (f : ∀ x, S x → h0 x = none) : ArS h0 h' b c l sz mk cs lg who wt :=
  ⟨o.obj.ext e (n b (.inl rfl)), o.cell.ext e (fun x hx => n x (.inr (.inl hx))) f, o.log.ext e (fun x hx => n x (.inr (.inr hx))) f, o.nb, o.b1, o.b2, o.ap⟩
theorem ArS.more {h0 h h' b c l sz mk cs lg who wt} (o : ArS h0 h b c l sz mk cs lg who wt) (e : Go.Mx.le h h') : ArS h0 h' b c l sz mk cs lg who wt :=
  ⟨o.obj.le e, o.cell.more e, o.log.more e, o.nb, o.b1, o.b2, o.ap⟩
theorem ArS.put {h0 h b c l sz mk cs lg who wt} (o : ArS h0 h b c l sz mk cs lg who wt) {h' : Heap} {sz' mk' who' : Int} {wt' : Bool} (q : Obj h' b KAr ((sz', (mk', ())), (c, (l, (who', (wt', ())))))) (e : Ext (· = b) h h') :
    ArS h0 h' b c l sz' mk' cs lg who' wt' ∧ Step (fpA b c l) (fpA b c l) h h' := by
  have f : ∀ x, x = b → h0 x = none := fun x hx => by subst hx; exact o.nb
  exact ⟨⟨q, o.cell.ext e (fun x hx c => by subst c; exact o.b1 hx) f, o.log.ext e (fun x hx c => by subst c; exact o.b2 hx) f, o.nb, o.b1, o.b2, o.ap⟩, e.mono (fun x hx => .inl hx), fun _ hx => .inl hx⟩

section
variable {h0 h : Heap} {b : Nat} {c l : Sl} {sz mk : Int} {cs : List Int} {lg : List Acc} {who : Int} {wt : Bool} (o : ArS h0 h b c l sz mk cs lg who wt)
include o
theorem ArS.ld0 {K : Int → Prop} (hK : K sz) : ld ki h ((ptr b).add 0) K := o.obj.ld ⟨[], _, rfl, rfl⟩ hK
theorem ArS.ld1 {K : Int → Prop} (hK : K mk) : ld ki h ((ptr b).add 1) K := o.obj.ld (kf := ki) (y := mk) ⟨[.int .i64 sz], _, rfl, rfl⟩ hK
theorem ArS.ld2 {K : Sl → Prop} (hK : K c) : ld .sl h ((ptr b).add 2) K := o.obj.ld (kf := .sl) ⟨[.int .i64 sz, .int .i64 mk], _, rfl, rfl⟩ hK
theorem ArS.ld3 {K : Sl → Prop} (hK : K l) : ld .sl h ((ptr b).add 3) K := o.obj.ld (kf := .sl) ⟨[.int .i64 sz, .int .i64 mk, c.val], _, rfl, rfl⟩ hK
theorem ArS.ld4 {K : Int → Prop} (hK : K who) : ld ki h ((ptr b).add 4) K := o.obj.ld ⟨[.int .i64 sz, .int .i64 mk, c.val, l.val], _, rfl, rfl⟩ hK
theorem ArS.ld5 {K : Bool → Prop} (hK : K wt) : ld .bool h ((ptr b).add 5) K := o.obj.ld (kf := .bool) ⟨[.int .i64 sz, .int .i64 mk, c.val, l.val, .int .i64 who], _, rfl, rfl⟩ hK

theorem note_spec (hl : lg.length ≤ 1000000000) {kind addr x y : Int} {ok : Bool} {Q : Unit → Heap → Prop}
    (hQ : ∀ l' h', ArS h0 h' b c l' sz mk cs (if wt then lg ++ [(who, (kind, (addr, (x, (y, (ok, ()))))))] else lg) who wt → Step (fpA b c l) (fpA b c l') h h' → Q () h') : cells_Arena_note.M (some (ptr b)) kind addr x y ok h Q := by
  refine o.ld5 ⟨fun e => ?_, fun e => ?_⟩
  · subst e
    have hll := o.log.len
    refine o.ld3 (o.ld4 (o.log.app3 rfl rfl (by omega) fun t h2 n2 x2 b2 => ?_))
    have o2 : Obj h2 b KAr ((sz, (mk, ())), (c, (l, (who, (true, ()))))) := o.obj.ext x2 o.b2
    refine o2.st (kf := .sl) (x' := ((sz, (mk, ())), (c, (t, (who, (true, ())))))) rfl (by decide) rfl fun h3 o3 x3 => ?_
    have bt : ¬ blkOf t b := fun q => by
      rcases b2 b q with c | c
      · exact o.b2 c
      · exact o.obj.live c
    have f : ∀ x, x = b → h0 x = none := fun x hx => by subst hx; exact o.nb
    refine hQ t h3 ⟨o3, (o.cell.ext x2 (fun x p q => o.ap x p q) o.log.new).ext x3 (fun x p q => by subst q; exact o.b1 p) f, n2.ext x3 (fun x p q => by subst q; exact bt p) f, o.nb, o.b1, bt, fun x p q => ?_⟩
      ⟨(x2.mono (fun x q => .inr (.inr q))).trans (x3.mono (fun x q => .inl q)), fun x q => ?_⟩
    · rcases b2 x q with c | c
      · exact o.ap x p c
      · exact o.cell.own.live x p c
    · rcases q with q | q | q
      · exact .inl (.inl q)
      · exact .inl (.inr (.inl q))
      · rcases b2 x q with c | c
        · exact .inl (.inr (.inr c))
        · exact .inr c
  · subst e
    exact hQ l h o (.refl _ _)

theorem outside_spec {addr : Int} {c1 : Option Addr → Int → Heap → (Bool → Heap → Prop) → Prop} (i1 : ∀ {a x h Q}, cells_ledger_has.M a x h Q → c1 a x h Q) {Q : Bool → Heap → Prop}
    (hQ : Q (!(decide (0 ≤ addr ∧ addr < mk))) h) : cells_Arena_outside.M c1 (some (ptr b)) addr h Q := by
  refine ⟨fun e => (by cases e), fun _ => i1 ⟨fun e => ?_, fun e => ?_⟩⟩
  · have e : (0 : Int) ≤ addr := of_decide_eq_true e
    refine o.ld1 ?_
    have : decide (addr < mk) = decide (0 ≤ addr ∧ addr < mk) := by simp [e]
    rw [this]
    exact hQ
  · have e : ¬ (0 : Int) ≤ addr := of_decide_eq_false e
    rw [decide_eq_false (fun q => e q.1)] at hQ
    exact hQ
end

abbrev Ar (h0 h : Heap) (b : Nat) (c l : Sl) (sz : Int) (cs : List Int) (lg : List Acc) (who : Int) (wt : Bool) : Prop := ArS h0 h b c l sz (cs.length : Int) cs lg who wt
def wl (wt : Bool) (lg : List Acc) (a : Acc) : List Acc := if wt then lg ++ [a] else lg

section
variable {h0 h : Heap} {b : Nat} {c l : Sl} {sz : Int} {cs : List Int} {lg : List Acc} {who : Int} {wt : Bool} (o : Ar h0 h b c l sz cs lg who wt) (hl : lg.length ≤ 1000000000)
  {co : Option Addr → Int → Heap → (Bool → Heap → Prop) → Prop} {cn : Option Addr → Int → Int → Int → Int → Bool → Heap → (Unit → Heap → Prop) → Prop} {ch : Option Addr → Int → Heap → (Bool → Heap → Prop) → Prop}
  (i0 : ∀ {a x h Q}, cells_ledger_has.M a x h Q → ch a x h Q) (i1 : ∀ {a x h Q}, cells_Arena_outside.M ch a x h Q → co a x h Q) (i2 : ∀ {a x y z u v h Q}, cells_Arena_note.M a x y z u v h Q → cn a x y z u v h Q)
include o hl i0 i1 i2
theorem load_spec {addr : Int} {Q : Den K2 → Heap → Prop} (hE : ¬ (0 ≤ addr ∧ addr < (cs.length : Int)) → Q (0, (20, ())) h)
    (hQ : ∀ v l' h', cs[addr.toNat]? = some v → 0 ≤ addr ∧ addr < (cs.length : Int) → Ar h0 h' b c l' sz cs (wl wt lg (who, (0, (addr, (v, (0, (true, ()))))))) who wt → Step (fpA b c l) (fpA b c l') h h' → Q (v, (0, ())) h') : cells_Arena_Load.M co cn (some (ptr b)) addr h Q := by
  have hc := o.cell.len
  refine i1 (outside_spec o i0 ⟨fun e => ?_, fun e => ?_⟩)
  · exact hE (fun q => by rw [decide_eq_true q] at e; cases e)
  · have e : 0 ≤ addr ∧ addr < (cs.length : Int) := by simpa using e
    refine o.ld2 ⟨⟨e.1, by omega⟩, o.cell.arr.at e.1 (by omega) rfl fun v hv => ?_⟩
    exact i2 (note_spec o hl fun l' h' o' s => hQ v l' h' hv e o' s)
theorem store_spec {addr v : Int} {Q : Int → Heap → Prop} (hE : ¬ (0 ≤ addr ∧ addr < (cs.length : Int)) → Q 20 h)
    (hQ : ∀ l' h', 0 ≤ addr ∧ addr < (cs.length : Int) → Ar h0 h' b c l' sz (cs.set addr.toNat v) (wl wt lg (who, (1, (addr, (v, (0, (true, ()))))))) who wt → Step (fpA b c l) (fpA b c l') h h' → Q 0 h') : cells_Arena_Store.M co cn (some (ptr b)) addr v h Q := by
  have hc := o.cell.len
  refine i1 (outside_spec o i0 ⟨fun e => ?_, fun e => ?_⟩)
  · exact hE (fun q => by rw [decide_eq_true q] at e; cases e)
  · have e : 0 ≤ addr ∧ addr < (cs.length : Int) := by simpa using e
    refine o.ld2 ⟨⟨e.1, by omega⟩, o.cell.set e.1 (by omega) rfl rfl fun h1 n1 x1 => ?_⟩
    have o1 : ArS h0 h1 b c l sz ((cs.set addr.toNat v).length : Int) (cs.set addr.toNat v) lg who wt := by
      rw [List.length_set]
      exact ⟨o.obj.ext x1 o.b1, n1, o.log.ext x1 (fun x p q => o.ap x q p) o.cell.new, o.nb, o.b1, o.b2, o.ap⟩
    have s1 : Step (fpA b c l) (fpA b c l) h h1 := ⟨x1.mono (fun x q => .inr (.inl q)), fun x q => .inl q⟩
    exact i2 (note_spec o1 hl fun l' h' o' s => hQ l' h' e o' (s1.trans s))
end

section
variable {h0 h : Heap} {b : Nat} {c l : Sl} {sz : Int} {cs : List Int} {lg : List Acc} {who : Int} {wt : Bool} (o : Ar h0 h b c l sz cs lg who wt) (hl : lg.length ≤ 1000000000)
  {co : Option Addr → Int → Heap → (Bool → Heap → Prop) → Prop} {cn : Option Addr → Int → Int → Int → Int → Bool → Heap → (Unit → Heap → Prop) → Prop} {ch : Option Addr → Int → Heap → (Bool → Heap → Prop) → Prop}
  (i0 : ∀ {a x h Q}, cells_ledger_has.M a x h Q → ch a x h Q) (i1 : ∀ {a x h Q}, cells_Arena_outside.M ch a x h Q → co a x h Q) (i2 : ∀ {a x y z u v h Q}, cells_Arena_note.M a x y z u v h Q → cn a x y z u v h Q)
include o hl i0 i1 i2
theorem cas_spec {addr old nxt : Int} {Q : (Bool × (Int × Unit)) → Heap → Prop} (hE : ¬ (0 ≤ addr ∧ addr < (cs.length : Int)) → Q (false, (20, ())) h)
    (hQ : ∀ v l' h', cs[addr.toNat]? = some v → 0 ≤ addr ∧ addr < (cs.length : Int) → Ar h0 h' b c l' sz (if v = old then cs.set addr.toNat nxt else cs) (wl wt lg (who, (2, (addr, (old, (nxt, (decide (v = old), ()))))))) who wt → Step (fpA b c l) (fpA b c l') h h' → Q (decide (v = old), (0, ())) h') : cells_Arena_CAS.M co cn (some (ptr b)) addr old nxt h Q := by
  have hc := o.cell.len
  refine i1 (outside_spec o i0 ⟨fun e => ?_, fun e => ?_⟩)
  · exact hE (fun q => by rw [decide_eq_true q] at e; cases e)
  · have e : 0 ≤ addr ∧ addr < (cs.length : Int) := by simpa using e
    refine o.ld2 ⟨⟨e.1, by omega⟩, o.cell.arr.at e.1 (by omega) rfl fun v hv => ⟨fun d => ?_, fun d => ?_⟩⟩
    · have d' : v = old := of_decide_eq_true d
      refine o.ld2 ⟨⟨e.1, by omega⟩, o.cell.set e.1 (by omega) rfl rfl fun h1 n1 x1 => ?_⟩
      have o1 : ArS h0 h1 b c l sz ((cs.set addr.toNat nxt).length : Int) (cs.set addr.toNat nxt) lg who wt := by
        rw [List.length_set]
        exact ⟨o.obj.ext x1 o.b1, n1, o.log.ext x1 (fun x p q => o.ap x q p) o.cell.new, o.nb, o.b1, o.b2, o.ap⟩
      have s1 : Step (fpA b c l) (fpA b c l) h h1 := ⟨x1.mono (fun x q => .inr (.inl q)), fun x q => .inl q⟩
      refine i2 (note_spec o1 hl fun l' h' o' s => hQ v l' h' hv e ?_ (s1.trans s))
      rw [if_pos d']
      exact o'
    · have d' : ¬ v = old := of_decide_eq_false d
      refine i2 (note_spec o hl fun l' h' o' s => hQ v l' h' hv e ?_ s)
      rw [if_neg d']
      exact o'
theorem add_spec {addr d : Int} {Q : Den K2 → Heap → Prop} (hE : ¬ (0 ≤ addr ∧ addr < (cs.length : Int)) → Q (0, (20, ())) h)
    (hQ : ∀ v l' h', cs[addr.toNat]? = some v → 0 ≤ addr ∧ addr < (cs.length : Int) → Ar h0 h' b c l' sz (cs.set addr.toNat (w64 (v + d))) (wl wt lg (who, (3, (addr, (d, (w64 (v + d), (true, ()))))))) who wt → Step (fpA b c l) (fpA b c l') h h' → Q (w64 (v + d), (0, ())) h') : cells_Arena_Add.M co cn (some (ptr b)) addr d h Q := by
  have hc := o.cell.len
  refine i1 (outside_spec o i0 ⟨fun e => ?_, fun e => ?_⟩)
  · exact hE (fun q => by rw [decide_eq_true q] at e; cases e)
  · have e : 0 ≤ addr ∧ addr < (cs.length : Int) := by simpa using e
    have hlt : addr.toNat < cs.length := by omega
    refine o.ld2 ⟨⟨e.1, by omega⟩, o.cell.arr.at e.1 (by omega) rfl fun v hv => ?_⟩
    refine ⟨⟨e.1, by omega⟩, o.cell.set e.1 (by omega) rfl rfl fun h1 n1 x1 => ?_⟩
    have o1 : ArS h0 h1 b c l sz ((cs.set addr.toNat (w64 (v + d))).length : Int) (cs.set addr.toNat (w64 (v + d))) lg who wt := by
      rw [List.length_set]
      exact ⟨o.obj.ext x1 o.b1, n1, o.log.ext x1 (fun x p q => o.ap x q p) o.cell.new, o.nb, o.b1, o.b2, o.ap⟩
    have s1 : Step (fpA b c l) (fpA b c l) h h1 := ⟨x1.mono (fun x q => .inr (.inl q)), fun x q => .inl q⟩
    have hg : (cs.set addr.toNat (w64 (v + d)))[addr.toNat]? = some (w64 (v + d)) := List.getElem?_set_self hlt
    refine o1.ld2 ⟨⟨e.1, by omega⟩, o1.cell.arr.at e.1 (by omega) rfl fun y hy => ?_⟩
    rw [hg] at hy; cases hy
    refine i2 (note_spec o1 hl fun l' h' o' s => ?_)
    refine o'.ld2 ⟨⟨e.1, by omega⟩, o'.cell.arr.at e.1 (by omega) rfl fun y hy => ?_⟩
    rw [hg] at hy; cases hy
    exact hQ v l' h' hv e o' (s1.trans s)
end

section
variable {h0 h : Heap} {b : Nat} {c l : Sl} {sz : Int} {cs : List Int} {lg : List Acc} {who : Int} {wt : Bool} (o : Ar h0 h b c l sz cs lg who wt) (hl : lg.length ≤ 1000000000) (hf : (cs.length : Int) ≤ sz) (hz : sz ≤ 1048576)
  {cr ct : Option Addr → Int → Heap → (Int → Heap → Prop) → Prop} {cn : Option Addr → Int → Int → Int → Int → Bool → Heap → (Unit → Heap → Prop) → Prop}
  (i0 : ∀ {a x h Q}, cells_ledger_refuse.M a x h Q → cr a x h Q) (i1 : ∀ {a x h Q}, cells_ledger_take.M a x h Q → ct a x h Q) (i2 : ∀ {a x y z u v h Q}, cells_Arena_note.M a x y z u v h Q → cn a x y z u v h Q)
include o hl hf hz i0 i1 i2
theorem reserve_spec {n : Int} {Q : Den K2 → Heap → Prop} (hC : n < 1 → Q (0, (21, ())) h) (hR : 1 ≤ n → sz - (cs.length : Int) < n → Q (0, (22, ())) h)
    (hQ : ∀ c' l' h', 1 ≤ n → n ≤ sz - (cs.length : Int) → Ar h0 h' b c' l' sz (cs ++ List.replicate n.toNat 0) (wl wt lg (who, (4, ((cs.length : Int), (n, (0, (true, ()))))))) who wt → Step (fpA b c l) (fpA b c' l') h h' → Q ((cs.length : Int), (0, ())) h') :
    cells_Arena_Reserve.M cr ct cn (some (ptr b)) n h Q := by
  have hc := o.cell.len
  refine ⟨fun _ => ?_, fun e => (by cases e)⟩
  have hw : w64 (sz - (cs.length : Int)) = sz - (cs.length : Int) := by rw [w64_of] <;> omega
  refine i0 ⟨fun e => ⟨fun _ => hC (of_decide_eq_true e), fun e => (by cases e)⟩, fun e => ⟨fun e => (by cases e), fun _ => ?_⟩⟩
  have e : ¬ n < 1 := of_decide_eq_false e
  refine o.ld0 (o.ld1 ?_)
  rw [hw]
  refine ⟨fun f => ⟨fun _ => ?_, fun e => (by cases e)⟩, fun f => ⟨fun e => (by cases e), fun _ => ?_⟩⟩
  · exact hR (by omega) (of_decide_eq_true f)
  · have f : ¬ sz - (cs.length : Int) < n := of_decide_eq_false f
    have hw2 : w64 ((cs.length : Int) + n) = (cs.length : Int) + n := by rw [w64_of] <;> omega
    refine i1 (o.ld1 (o.ld1 ?_))
    show deref (some (ptr b)) _
    refine o.obj.st (kf := ki) (off := 1) (x' := ((sz, ((cs.length : Int) + n, ())), (c, (l, (who, (wt, ())))))) (by rw [hw2]; rfl) (by decide) rfl fun h1 q1 x1 => ?_
    obtain ⟨o1, s1⟩ := o.put q1 x1
    refine o1.ld2 (o1.cell.appz (by omega) rfl (by omega) fun t h2 n2 x2 b2 => ?_)
    have q2 : Obj h2 b KAr ((sz, ((cs.length : Int) + n, ())), (c, (l, (who, (wt, ()))))) := o1.obj.ext x2 o.b1
    simp only [deref]
    refine q2.st (kf := .sl) (off := 2) (v := t) (x' := ((sz, ((cs.length : Int) + n, ())), (t, (l, (who, (wt, ())))))) rfl (by decide) rfl fun h3 q3 x3 => ?_
    have bt : ¬ blkOf t b := fun q => by
      rcases b2 b q with d | d
      · exact o.b1 d
      · exact o1.obj.live d
    have f0 : ∀ x, x = b → h0 x = none := fun x hx => by subst hx; exact o.nb
    have hlen : ((cs ++ List.replicate n.toNat ki.zero).length : Int) = (cs.length : Int) + n := by
      rw [List.length_append, List.length_replicate]; omega
    have o3 : ArS h0 h3 b t l sz ((cs ++ List.replicate n.toNat (0 : Int)).length : Int) (cs ++ List.replicate n.toNat (0 : Int)) lg who wt := by
      refine ⟨?_, n2.ext x3 (fun x p q => by subst q; exact bt p) f0, (o1.log.ext x2 (fun x p q => o.ap x q p) o.cell.new).ext x3 (fun x p q => by subst q; exact o.b2 p) f0, o.nb, bt, o.b2, fun x p q => ?_⟩
      · have : ((cs ++ List.replicate n.toNat (0 : Int)).length : Int) = (cs.length : Int) + n := hlen
        rw [this]; exact q3
      · rcases b2 x p with d | d
        · exact o.ap x d q
        · exact o1.log.own.live x q d
    have s3 : Step (fpA b c l) (fpA b t l) h1 h3 := ⟨(x2.mono (fun x q => .inr (.inl q))).trans (x3.mono (fun x q => .inl q)), fun x q => by
      rcases q with q | q | q
      · exact .inl (.inl q)
      · rcases b2 x q with d | d
        · exact .inl (.inr (.inl d))
        · exact .inr d
      · exact .inl (.inr (.inr q))⟩
    exact i2 (note_spec o3 hl fun l' h' o' s => hQ t l' h' (by omega) (by omega) o' ((s1.trans s3).trans s))
end

theorem dup_spec {h : Heap} {k : Kd} {s : Sl} {xs : List (Den k)} (ha : Arr h k s xs) (hone : k.flat = true) {sz bytes : Nat} (hsz : sz = k.size) (hb : bytes * s.len ≤ 281474976710656) (hn : s.len ≤ 1000000000) {K : Sl → Heap → Prop}
    (hK : ∀ t h', New h h' k t xs → K t h') {D : Sl → Heap → Prop} (hD : ∀ t h1, Go.Mx.le h h1 → (copyM sz h1 t s fun _ h2 => K t h2) → D t h1) :
    makeM k bytes h (s.len : Int) (s.len : Int) D := by
  refine make_new (by omega) (Int.le_refl _) (by rw [← Int.natCast_mul]; omega) (by omega) fun t h1 n1 l1 c1 a1 => hD t h1 n1.le ?_
  rw [Int.toNat_natCast] at l1
  refine n1.own.copy (by rw [List.length_replicate, Int.toNat_natCast, l1]) (ha.le n1.le) l1.symm hone hsz fun m h2 o2 x2 => ?_
  exact hK t h2 ⟨o2, by rw [ha.1, l1], le_ext n1.le x2 n1.new, n1.new⟩
theorem cells_spec {h0 h : Heap} {b : Nat} {c l : Sl} {sz mk : Int} {cs : List Int} {lg : List Acc} {who : Int} {wt : Bool} (o : ArS h0 h b c l sz mk cs lg who wt) (hn : cs.length ≤ 1048576) {Q : Sl → Heap → Prop}
    (hQ : ∀ s h', New h h' ki s cs → Q s h') : cells_Arena_Cells.M (some (ptr b)) h Q := by
  have hc := o.cell.len
  refine ⟨fun e => (by cases e), fun _ => o.ld2 ?_⟩
  refine dup_spec (sz := 1) o.cell.arr rfl rfl (by omega) (by omega) hQ fun t h1 l1 hcp => ?_
  exact (o.more l1).ld2 hcp
theorem cgood_spec {size : Int} {h : Heap} {Q : Bool → Heap → Prop} (hQ : Q (decide (0 ≤ size ∧ size ≤ 1048576)) h) : cells_good.M size h Q := by
  refine ⟨fun d => ?_, fun d => ?_⟩
  · have d : (0 : Int) ≤ size := of_decide_eq_true d
    have : decide (size ≤ 1048576) = decide (0 ≤ size ∧ size ≤ 1048576) := by simp [d]
    rw [this]; exact hQ
  · have d : ¬ (0 : Int) ≤ size := of_decide_eq_false d
    rw [decide_eq_false (fun q => d q.1)] at hQ
    exact hQ
theorem cnew_spec {size : Int} {h : Heap} {c1 : Int → Heap → (Bool → Heap → Prop) → Prop} (i1 : ∀ {a h Q}, cells_good.M a h Q → c1 a h Q) {Q : (Option Addr × (Int × Unit)) → Heap → Prop} (hE : ¬ (0 ≤ size ∧ size ≤ 1048576) → Q (none, (3, ())) h)
    (hQ : 0 ≤ size ∧ size ≤ 1048576 → ∀ b h', Ar h h' b ⟨none, 0, 0⟩ ⟨none, 0, 0⟩ size [] [] 0 false → Q (some (ptr b), (0, ())) h') : cells_New.M c1 size h Q := by
  refine i1 (cgood_spec ⟨fun d => hE (fun q => by rw [decide_eq_true q] at d; cases d), fun d => ?_⟩)
  refine Obj.new fun b h' hb ob l => ?_
  have nn : ∀ {k : Kd}, New h h' k ⟨none, 0, 0⟩ ([] : List (Den k)) := ⟨Own.nil _ _, rfl, l, fun x hx => by obtain ⟨a, e, _⟩ := hx; cases e⟩
  exact hQ (by simpa using d) b h' ⟨ob, nn, nn, hb, fun hx => (by obtain ⟨a, e, _⟩ := hx; cases e), fun hx => (by obtain ⟨a, e, _⟩ := hx; cases e), fun x hx => by obtain ⟨a, e, _⟩ := hx; cases e⟩

end Go.Mx
