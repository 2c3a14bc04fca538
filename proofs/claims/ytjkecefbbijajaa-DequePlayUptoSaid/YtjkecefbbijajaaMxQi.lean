/-
  A play of one deque: what begin and step come to.
-/
import Derived.Test.YtjkecefbbijajaaMxQh
import Derived.Test.YtjkecefbbijajaaMxPt
set_option linter.unusedVariables false
set_option linter.unusedSimpArgs false
set_option linter.unusedSectionVars false
namespace Go.Mx

abbrev KGm : Kd := .pair .ptr (.pair KP2 (.pair .sl (.pair .sl (.pair .sl .nil))))
abbrev KAc : Kd := .pair KOp (.pair ki .nil)
def actDen (a : DOp × Int) : Den KAc := (a.1.den, (a.2, ()))
/-- A game in memory. -/
structure Gm (h0 h : Heap) (g b : Nat) (most : Int) (td ac ca c l : Sl) (p : PS) : Prop where
  obj : Obj h g KGm (some (ptr b), ((0, (most, ())), (td, (ac, (ca, ())))))
  ar : Ar h0 h b c l p.m.sz p.m.cs p.m.lg p.m.who p.m.wt
  tds : Arr h0 KTd td p.todos
  acts : New h0 h KAc ac (p.acts.map actDen)
  calls : New h0 h KCl ca p.calls
  ng : h0 g = none
  g1 : ¬ fpA b c l g
  g2 : ¬ blkOf ac g
  g3 : ¬ blkOf ca g
  s1 : ∀ x, blkOf ac x → ¬ fpA b c l x
  s2 : ∀ x, blkOf ca x → ¬ fpA b c l x
  s3 : Apart ac ca
def fpG (g b : Nat) (ac ca c l : Sl) : Nat → Prop := fun x => x = g ∨ fpA b c l x ∨ blkOf ac x ∨ blkOf ca x

section
variable {h0 h : Heap} {g b : Nat} {most : Int} {td ac ca c l : Sl} {p : PS} (o : Gm h0 h g b most td ac ca c l p)
include o
theorem Gm.le : le h0 h := o.ar.le
theorem Gm.ldm {K : Option Addr → Prop} (hK : K (some (ptr b))) : ld .ptr h ((ptr g).add 0) K := o.obj.ld (kf := .ptr) ⟨[], _, rfl, rfl⟩ hK
theorem Gm.ldd {K : Den KP2 → Prop} (hK : K (0, (most, ()))) : ld KP2 h ((ptr g).add 1) K := o.obj.ld (kf := KP2) (y := ((0 : Int), (most, ()))) ⟨[.pointer (some (ptr b))], [td.val, ac.val, ca.val], rfl, rfl⟩ hK
theorem Gm.ldb {K : Int → Prop} (hK : K 0) : ld ki h (((ptr g).add 1).add 0) K := by
  rw [add_add']
  exact o.obj.ld (kf := ki) (y := (0 : Int)) ⟨[.pointer (some (ptr b))], [.int .i64 most, td.val, ac.val, ca.val], rfl, rfl⟩ hK
theorem Gm.ldt {K : Sl → Prop} (hK : K td) : ld .sl h ((ptr g).add 3) K := o.obj.ld (kf := .sl) ⟨[.pointer (some (ptr b)), .int .i64 0, .int .i64 most], [ac.val, ca.val], rfl, rfl⟩ hK
theorem Gm.lda {K : Sl → Prop} (hK : K ac) : ld .sl h ((ptr g).add 4) K := o.obj.ld (kf := .sl) ⟨[.pointer (some (ptr b)), .int .i64 0, .int .i64 most, td.val], [ca.val], rfl, rfl⟩ hK
theorem Gm.ldc {K : Sl → Prop} (hK : K ca) : ld .sl h ((ptr g).add 5) K := o.obj.ld (kf := .sl) ⟨[.pointer (some (ptr b)), .int .i64 0, .int .i64 most, td.val, ac.val], [], rfl, rfl⟩ hK
theorem Gm.sc : sees h (some ((ptr g).add 5)) .sl ca := o.obj.sees (kf := .sl) (y := ca) ⟨[.pointer (some (ptr b)), .int .i64 0, .int .i64 most, td.val, ac.val], [], rfl, rfl⟩
/-- The arena has changed. -/
theorem Gm.arena {h' : Heap} {m' : AS} {c' l' : Sl} (a : Ar h0 h' b c' l' m'.sz m'.cs m'.lg m'.who m'.wt) (s : Step (fpA b c l) (fpA b c' l') h h') : Gm h0 h' g b most td ac ca c' l' { p with m := m' } ∧ Step (fpG g b ac ca c l) (fpG g b ac ca c' l') h h' := by
  have f : ∀ x, fpA b c l x → h0 x = none := fun x hx => o.ar.fresh hx
  refine ⟨⟨o.obj.ext s.1 o.g1, a, o.tds, o.acts.ext s.1 (fun x q => o.s1 x q) f, o.calls.ext s.1 (fun x q => o.s2 x q) f, o.ng, ?_, o.g2, o.g3, ?_, ?_, o.s3⟩, s.1.mono (fun x q => .inr (.inl q)), fun x q => ?_⟩
  · exact s.off (T := (· = g)) (fun x e q => by subst e; exact o.g1 q) (fun x e => by subst e; exact o.obj.live) g rfl
  · exact fun x q => s.off (T := blkOf ac) o.s1 (fun x q => o.acts.own.live x q) x q
  · exact fun x q => s.off (T := blkOf ca) o.s2 (fun x q => o.calls.own.live x q) x q
  · rcases q with q | q | q | q
    · exact .inl (.inl q)
    · rcases s.2 x q with e | e
      · exact .inl (.inr (.inl e))
      · exact .inr e
    · exact .inl (.inr (.inr (.inl q)))
    · exact .inl (.inr (.inr (.inr q)))
/-- The actors have changed. -/
theorem Gm.putA {h' : Heap} {acts' : List (DOp × Int)} (a : New h0 h' KAc ac (acts'.map actDen)) (e : Ext (blkOf ac) h h') : Gm h0 h' g b most td ac ca c l { p with acts := acts' } ∧ Step (fpG g b ac ca c l) (fpG g b ac ca c l) h h' :=
  ⟨⟨o.obj.ext e o.g2, o.ar.ext e (fun x q r => o.s1 x r q) o.acts.new, o.tds, a, o.calls.ext e (fun x q r => o.s3 x r q) o.acts.new, o.ng, o.g1, o.g2, o.g3, o.s1, o.s2, o.s3⟩, e.mono (fun x q => .inr (.inr (.inl q))), fun x q => .inl q⟩
/-- The calls have changed, where they stand. -/
theorem Gm.putC {h' : Heap} {calls' : List DCl} (a : New h0 h' KCl ca calls') (e : Ext (blkOf ca) h h') : Gm h0 h' g b most td ac ca c l { p with calls := calls' } ∧ Step (fpG g b ac ca c l) (fpG g b ac ca c l) h h' :=
  ⟨⟨o.obj.ext e o.g3, o.ar.ext e (fun x q r => o.s2 x r q) o.calls.new, o.tds, o.acts.ext e (fun x q r => o.s3 x q r) o.calls.new, a, o.ng, o.g1, o.g2, o.g3, o.s1, o.s2, o.s3⟩, e.mono (fun x q => .inr (.inr (.inr q))), fun x q => .inl q⟩
/-- The todos have changed. -/
theorem Gm.putT {h' : Heap} {td' : Sl} {todos' : List DTd} (ob : Obj h' g KGm (some (ptr b), ((0, (most, ())), (td', (ac, (ca, ())))))) (t : Arr h0 KTd td' todos') (e : Ext (· = g) h h') : Gm h0 h' g b most td' ac ca c l { p with todos := todos' } ∧ Step (fpG g b ac ca c l) (fpG g b ac ca c l) h h' := by
  have f : ∀ x, x = g → h0 x = none := fun x hx => by subst hx; exact o.ng
  exact ⟨⟨ob, o.ar.ext e (fun x q r => by subst r; exact o.g1 q) f, t, o.acts.ext e (fun x q r => by subst r; exact o.g2 q) f, o.calls.ext e (fun x q r => by subst r; exact o.g3 q) f, o.ng, o.g1, o.g2, o.g3, o.s1, o.s2, o.s3⟩, e.mono (fun x q => .inl q), fun x q => .inl q⟩
/-- A call joins. -/
theorem Gm.addC {h1 h' : Heap} {ca' : Sl} {calls' : List DCl} (n : New h0 h1 KCl ca' calls') (e : Ext (blkOf ca) h h1) (nb : ∀ x, blkOf ca' x → blkOf ca x ∨ h x = none) (ob : Obj h' g KGm (some (ptr b), ((0, (most, ())), (td, (ac, (ca', ())))))) (e2 : Ext (· = g) h1 h') :
    Gm h0 h' g b most td ac ca' c l { p with calls := calls' } ∧ Step (fpG g b ac ca c l) (fpG g b ac ca' c l) h h' := by
  have f : ∀ x, x = g → h0 x = none := fun x hx => by subst hx; exact o.ng
  have st : Step (blkOf ca) (blkOf ca') h h1 := ⟨e, nb⟩
  have g3' : ¬ blkOf ca' g := st.off (T := (· = g)) (fun x e q => by subst e; exact o.g3 q) (fun x e => by subst e; exact o.obj.live) g rfl
  have s2' : ∀ x, blkOf ca' x → ¬ fpA b c l x := fun x q r => st.off (T := fpA b c l) (fun x q r => o.s2 x r q) (fun x q => o.ar.live q) x r q
  have s3' : Apart ac ca' := fun x q r => st.off (T := blkOf ac) o.s3 (fun x q => o.acts.own.live x q) x q r
  refine ⟨⟨ob, (o.ar.ext e (fun x q r => o.s2 x r q) o.calls.new).ext e2 (fun x q r => by subst r; exact o.g1 q) f, o.tds, (o.acts.ext e (fun x q r => o.s3 x q r) o.calls.new).ext e2 (fun x q r => by subst r; exact o.g2 q) f, n.ext e2 (fun x q r => by subst r; exact g3' q) f, o.ng, o.g1, o.g2, g3', o.s1, s2', s3'⟩,
    (e.mono (fun x q => .inr (.inr (.inr q)))).trans (e2.mono (fun x q => .inl q)), fun x q => ?_⟩
  rcases q with q | q | q | q
  · exact .inl (.inl q)
  · exact .inl (.inr (.inl q))
  · exact .inl (.inr (.inr (.inl q)))
  · rcases nb x q with r | r
    · exact .inl (.inr (.inr (.inr r)))
    · exact .inr r
end

theorem act_get {p : PS} {who : Nat} (h : who < p.acts.length) : p.acts[who]? = some (p.act who) := by
  unfold PS.act
  rw [List.getElem?_eq_getElem h]; rfl
theorem map_set {α β : Type} (f : α → β) (l : List α) (i : Nat) (x : α) : (l.set i x).map f = (l.map f).set i (f x) := List.map_set

/-- A new call: what begin does behind its choice. -/
theorem beginJ {h0 h : Heap} {g b : Nat} {most : Int} {td ac ca c l : Sl} {p : PS} (o : Gm h0 h g b most td ac ca c l p) {who : Nat} (hw : who < p.acts.length) (hc : p.calls.length ≤ 1000000000) {x : DOp} {y : DCl} {Q : Bool → Heap → Prop}
    (hQ : ∀ ca' h', Gm h0 h' g b most td ac ca' c l { p with acts := p.acts.set who (x, (p.calls.length : Int)), calls := p.calls ++ [y] } → Step (fpG g b ac ca c l) (fpG g b ac ca' c l) h h' → Q true h') :
    deque_game_begin.j1 (some (ptr g)) (who : Int) Q (y, ((x.kind, (x.pc, (x.base, (x.most, (x.v, (x.t, (x.b, (x.a, (x.c, (x.a2, (x.c2, (x.i, (x.x, (x.won, (x.code, (x.value, ())))))))))))))))), ())) h := by
  have hal := o.acts.len
  rw [List.length_map] at hal
  have hcl := o.calls.len
  obtain ⟨a, ha⟩ := o.acts.own.addr (by omega)
  refine o.lda (o.ldc ?_)
  refine ⟨⟨by omega, by omega⟩, ?_⟩
  rw [ha, Int.toNat_natCast]
  simp only [deref]
  refine o.acts.stAt (sz := 17) (y' := actDen (x, (ca.len : Int))) ha (by rw [List.length_map]; exact hw) rfl rfl fun h1 n1 e1 => ?_
  rw [← map_set] at n1
  obtain ⟨o1, s1⟩ := o.putA n1 e1
  refine o1.ldc (o1.calls.app3 rfl rfl (by omega) fun t h2 n2 e2 b2 => ?_)
  have ob : Obj h2 g KGm (some (ptr b), ((0, (most, ())), (td, (ac, (ca, ()))))) := o1.obj.ext e2 o1.g3
  refine ob.st (kf := .sl) (off := 5) (v := t) (x' := (some (ptr b), ((0, (most, ())), (td, (ac, (t, ())))))) rfl (by decide) rfl fun h3 q3 e3 => ?_
  obtain ⟨o3, s3⟩ := o1.addC n2 e2 b2 q3 e3
  refine hQ t h3 ?_ (s1.trans s3)
  rw [← hcl] at o3
  exact o3

theorem gbegin_spec {h0 h : Heap} {g b : Nat} {most : Int} {td ac ca c l : Sl} {p : PS} (o : Gm h0 h g b most td ac ca c l p) {who : Nat} (hw : who < p.acts.length) (hc : p.calls.length ≤ 1000000000) {n : Int}
    {c1 : Den KP2 → Heap → (Den KOp → Heap → Prop) → Prop} {c2 : Den KP2 → Int → Heap → (Den KOp → Heap → Prop) → Prop} {c3 : Den KP2 → Heap → (Den KOp → Heap → Prop) → Prop}
    (i1 : ∀ {base most h Q}, Q (DOp.steal base most).den h → c1 (base, (most, ())) h Q) (i2 : ∀ {base most v h Q}, Q (DOp.push base most v).den h → c2 (base, (most, ())) v h Q) (i3 : ∀ {base most h Q}, Q (DOp.pop base most).den h → c3 (base, (most, ())) h Q)
    {Q : Bool → Heap → Prop} (hF : p.begin most n who = none → Q false h) (hQ : ∀ td' ca' h' p', p.begin most n who = some p' → Gm h0 h' g b most td' ac ca' c l p' → Step (fpG g b ac ca c l) (fpG g b ac ca' c l) h h' → Q true h') : deque_game_begin.M c1 c2 c3 (some (ptr g)) n (who : Int) h Q := by
  refine o.ldd (i1 ⟨fun e => ?_, fun e => ?_⟩)
  · have e : (who : Int) = 0 := of_decide_eq_true e
    obtain rfl : who = 0 := by omega
    refine o.ldt ?_
    have htl := o.tds.1
    cases ht : p.todos with
    | nil =>
      rw [ht] at htl
      have : td.len = 0 := htl.symm
      refine ⟨fun _ => hF (by unfold PS.begin; rw [if_pos rfl, ht]), fun q => absurd (show (td.len : Int) = 0 by omega) (of_decide_eq_false q)⟩
    | cons t ts =>
      have hlt : 0 < td.len := by rw [← htl, ht]; simp
      refine ⟨fun q => absurd (show (td.len : Int) = 0 from of_decide_eq_true q) (by omega), fun _ => o.ldt ⟨⟨by omega, by omega⟩, ?_⟩⟩
      obtain ⟨a, ha⟩ := o.tds.addr hlt
      rw [ha]
      show ld KTd h (a.add ((0 : Int).toNat * 2)) _
      refine (o.tds.le o.le).ldAt ha (i := 0) (x := t) (by rw [ht]; rfl) rfl (o.ldt ⟨⟨by omega, by omega⟩, ?_⟩)
      simp only [deref]
      have htd' : Arr h0 KTd (td.cut 1 td.len 2) ts := by
        have := o.tds.suf (n := 1) (sz := 2) hlt rfl
        rw [ht] at this
        exact this
      refine o.obj.st (kf := .sl) (off := 3) (v := td.cut 1 td.len 2) (x' := (some (ptr b), ((0, (most, ())), (td.cut 1 td.len 2, (ac, (ca, ())))))) rfl (by decide) rfl fun h1 q1 e1 => ?_
      obtain ⟨o1, s1⟩ := o.putT q1 htd' e1
      have hb : p.begin most n 0 = some { p with todos := ts, acts := p.acts.set 0 (if t.1 = 0 then DOp.push 0 most t.2.1 else DOp.pop 0 most, (p.calls.length : Int)), calls := p.calls ++ [newCall 0 t.1 (if t.1 = 0 then t.2.1 else 0) n] } := by
        unfold PS.begin; rw [if_pos rfl, ht]
      refine ⟨fun k => o1.ldd (i2 ?_), fun k => o1.ldd (i3 ?_)⟩
      · have k : t.1 = 0 := of_decide_eq_true k
        rw [if_pos k, if_pos k] at hb
        exact beginJ o1 (x := DOp.push 0 most t.2.1) (y := newCall 0 t.1 t.2.1 n) hw hc fun ca' h' o' s' => hQ _ ca' h' _ hb o' (s1.trans s')
      · have k : ¬ t.1 = 0 := of_decide_eq_false k
        rw [if_neg k, if_neg k] at hb
        exact beginJ o1 (x := DOp.pop 0 most) (y := newCall 0 t.1 0 n) hw hc fun ca' h' o' s' => hQ _ ca' h' _ hb o' (s1.trans s')
  · have e : ¬ (who : Int) = 0 := of_decide_eq_false e
    exact beginJ o (x := DOp.steal 0 most) (y := newCall (who : Int) 2 0 n) hw hc fun ca' h' o' s' => hQ td ca' h' _ (by unfold PS.begin; rw [if_neg (by omega)]) o' s'

theorem set_set' {α : Type} (l : List α) (i : Nat) (x y : α) : (l.set i x).set i y = l.set i y := List.set_set ..
/-- A step, behind begin. -/
theorem go_spec {h0 h : Heap} {g b : Nat} {most : Int} {td ac ca c l : Sl} {p : PS} (o : Gm h0 h g b most td ac ca c l p) {N : Nat} (ok : PsOk p N) (hN : N ≤ 1000000000) {who : Nat} (hw : who < p.acts.length) (hc : 0 ≤ (p.act who).2) {n : Int}
    {c1 : Option Addr → Int → Heap → (Unit → Heap → Prop) → Prop} {c2 : Value → Den KOp → Heap → (Den KOp → Heap → Prop) → Prop} {c3 : Den KOp → Heap → (Den KP2 → Heap → Prop) → Prop}
    (i1 : ∀ {h : Heap} {c l : Sl} {sz : Int} {cs : List Int} {lg : List Acc} {w0 : Int} {wt : Bool} {w : Int} {Q : Unit → Heap → Prop}, Ar h0 h b c l sz cs lg w0 wt → (∀ h', Ar h0 h' b c l sz cs lg w wt → Step (fpA b c l) (fpA b c l) h h' → Q () h') → c1 (some (ptr b)) w h Q)
    (i2 : ∀ {h : Heap} {s : AS} {S : Nat → Prop} {x : DOp} {Q : Den KOp → Heap → Prop}, RA h0 b s S h → s.lg.length ≤ 1000000000 → (s.cs.length : Int) ≤ s.sz → s.sz ≤ 1048576 → x.Ok → (∀ S' h', RA h0 b (stepD arenaI s x).1 S' h' → Step S S' h h' → Q (stepD arenaI s x).2.den h') → c2 (.iface 54 (.pointer (some (ptr b)))) x.den h Q)
    (i3 : ∀ {x : DOp} {h : Heap} {Q : Den KP2 → Heap → Prop}, Q (x.answer.1, (x.answer.2, ())) h → c3 x.den h Q)
    {Q : Unit → Heap → Prop} (hQ : ∀ c' l' h', Gm h0 h' g b most td ac ca c' l' (p.go n who) → Step (fpG g b ac ca c l) (fpG g b ac ca c' l') h h' → Q () h') : deque_game_step.j1 c1 c2 c3 (some (ptr g)) n (who : Int) Q () h := by
  have hal := o.acts.len
  rw [List.length_map] at hal
  have hcl := o.calls.len
  obtain ⟨a, ha⟩ := o.acts.own.addr (by omega)
  have hgx : (p.acts.map actDen)[who]? = some (actDen (p.act who)) := by rw [List.getElem?_map, act_get hw]; rfl
  have hact := ok.ok _ (act_mem hw)
  refine o.lda ⟨⟨by omega, by omega⟩, ?_⟩
  rw [ha]
  simp only [deref]
  rw [Int.toNat_natCast]
  refine o.ldm (i1 o.ar fun h1 o1 s1 => ?_)
  obtain ⟨g1, t1⟩ := o.arena (m' := { p.m with who := (who : Int) }) o1 s1
  refine g1.ldm ?_
  refine g1.acts.arr.ldPart (kp := KOp) (y := (p.act who).1.den) ha hgx ⟨[], [.int .i64 (p.act who).2], rfl, rfl⟩ rfl ?_
  refine i2 (s := { p.m with who := (who : Int) }) ⟨c, l, rfl, o1⟩ (Nat.le_trans ok.fit.lg hN) ok.fit.cs ok.fit.sz hact.1 fun S' h2 r2 s2 => ?_
  obtain ⟨c2', l2', rfl, o2⟩ := r2
  obtain ⟨g2, t2⟩ := g1.arena (m' := (stepD arenaI { p.m with who := (who : Int) } (p.act who).1).1) o2 s2
  have hgo : p.go n who = if (stepD arenaI { p.m with who := (who : Int) } (p.act who).1).2.answer.1 = 0 then
    { p with m := (stepD arenaI { p.m with who := (who : Int) } (p.act who).1).1, acts := p.acts.set who ((stepD arenaI { p.m with who := (who : Int) } (p.act who).1).2, (p.act who).2) }
    else { p with m := (stepD arenaI { p.m with who := (who : Int) } (p.act who).1).1, acts := p.acts.set who ((stepD arenaI { p.m with who := (who : Int) } (p.act who).1).2, -1), calls := endAt p.calls (p.act who).2.toNat n (stepD arenaI { p.m with who := (who : Int) } (p.act who).1).2.answer.1 (stepD arenaI { p.m with who := (who : Int) } (p.act who).1).2.answer.2 } := rfl
  generalize stepD arenaI { p.m with who := (who : Int) } (p.act who).1 = r at *
  obtain ⟨m', x⟩ := r
  dsimp only at g2 t2 hgo o2 ⊢
  refine g2.acts.stPart (kp := KOp) (k := KAc) (y' := actDen (x, (p.act who).2)) (off := 0) ha hgx rfl (by decide) rfl rfl fun h3 n3 e3 => ?_
  rw [← map_set] at n3
  obtain ⟨g3, t3⟩ := g2.putA n3 e3
  have hg3 : (((p.acts.set who (x, (p.act who).2)).map actDen))[who]? = some (actDen (x, (p.act who).2)) := by rw [List.getElem?_map, List.getElem?_set_self hw]; rfl
  refine g3.acts.arr.ldPart (kp := KOp) (y := x.den) ha hg3 ⟨[], [.int .i64 (p.act who).2], rfl, rfl⟩ rfl (i3 ⟨fun e => ?_, fun e => ?_⟩)
  · have e : x.answer.1 = 0 := of_decide_eq_true e
    rw [if_pos e] at hgo
    refine hQ c2' l2' h3 ?_ ((t1.trans t2).trans t3)
    rw [hgo]
    exact g3
  · have e : ¬ x.answer.1 = 0 := of_decide_eq_false e
    rw [if_neg e] at hgo
    have hcc := ok.cl _ (act_mem hw)
    obtain ⟨k, hk⟩ : ∃ k : Nat, (p.act who).2 = (k : Int) := ⟨(p.act who).2.toNat, by omega⟩
    have hkl : k < p.calls.length := by omega
    obtain ⟨a2, ha2⟩ := o.calls.own.addr (by omega)
    refine g3.ldc ?_
    refine g3.acts.arr.ldPart (kp := ki) (y := (p.act who).2) (off := 16) ha hg3 ⟨x.den |> Kd.cells KOp, [], rfl, rfl⟩ rfl ?_
    rw [hk]
    refine ⟨⟨(show (0 : Int) ≤ (k : Int) by omega), (show (k : Int) < (ca.len : Int) by omega)⟩, ?_⟩
    rw [ha2]
    simp only [deref]
    rw [Int.toNat_natCast]
    have hk0 : p.calls[k]? = some p.calls[k] := by simp [hkl]
    generalize p.calls[k] = cl at hk0
    have hc3 : ({ p with m := m', acts := p.acts.set who (x, (p.act who).2) } : PS).calls[k]? = some cl := hk0
    refine g3.calls.stPart (kp := ki) (k := KCl) (y' := (cl.1, (cl.2.1, (cl.2.2.1, (cl.2.2.2.1, (n, (cl.2.2.2.2.2.1, (cl.2.2.2.2.2.2.1, ())))))))) (off := 4) ha2 hc3 rfl (by decide) rfl rfl fun h4 n4 e4 => ?_
    obtain ⟨g4, t4⟩ := g3.putC n4 e4
    refine g4.calls.stPart (kp := ki) (k := KCl) (y' := (cl.1, (cl.2.1, (cl.2.2.1, (cl.2.2.2.1, (n, (x.answer.1, (cl.2.2.2.2.2.2.1, ())))))))) (off := 5) ha2 (List.getElem?_set_self hkl) rfl (by decide) rfl rfl fun h5 n5 e5 => ?_
    obtain ⟨g5, t5⟩ := g4.putC n5 e5
    refine g5.calls.stPart (kp := ki) (k := KCl) (y' := endCall cl n x.answer.1 x.answer.2) (off := 6) ha2 (List.getElem?_set_self (by show k < (p.calls.set k _).length; rw [List.length_set]; exact hkl)) rfl (by decide) rfl rfl fun h6 n6 e6 => ?_
    obtain ⟨g6, t6⟩ := g5.putC n6 e6
    have hg6 : (((p.acts.set who (x, (p.act who).2)).map actDen))[who]? = some (actDen (x, (p.act who).2)) := hg3
    refine g6.acts.stPart (kp := ki) (k := KAc) (y' := actDen (x, -1)) (off := 16) ha hg6 rfl (by decide) rfl rfl fun h7 n7 e7 => ?_
    rw [← map_set] at n7
    obtain ⟨g7, t7⟩ := g6.putA n7 e7
    refine hQ c2' l2' h7 ?_ ((((((t1.trans t2).trans t3).trans t4).trans t5).trans t6).trans t7)
    rw [hgo]
    have e1 : (p.acts.set who (x, (p.act who).2)).set who (x, (-1 : Int)) = p.acts.set who (x, -1) := set_set' _ _ _ _
    have e2 : ((p.calls.set k (cl.1, (cl.2.1, (cl.2.2.1, (cl.2.2.2.1, (n, (cl.2.2.2.2.2.1, (cl.2.2.2.2.2.2.1, ())))))))).set k (cl.1, (cl.2.1, (cl.2.2.1, (cl.2.2.2.1, (n, (x.answer.1, (cl.2.2.2.2.2.2.1, ())))))))).set k (endCall cl n x.answer.1 x.answer.2) = endAt p.calls (p.act who).2.toNat n x.answer.1 x.answer.2 := by
      rw [set_set', set_set', hk, Int.toNat_natCast]
      unfold endAt
      rw [hk0]
    have e3 : ({ p with m := m', acts := p.acts.set who (x, -1), calls := endAt p.calls (p.act who).2.toNat n x.answer.1 x.answer.2 } : PS) = { m := m', todos := p.todos, acts := (p.acts.set who (x, (p.act who).2)).set who (x, (-1 : Int)), calls := ((p.calls.set k (cl.1, (cl.2.1, (cl.2.2.1, (cl.2.2.2.1, (n, (cl.2.2.2.2.2.1, (cl.2.2.2.2.2.2.1, ())))))))).set k (cl.1, (cl.2.1, (cl.2.2.1, (cl.2.2.2.1, (n, (x.answer.1, (cl.2.2.2.2.2.2.1, ())))))))).set k (endCall cl n x.answer.1 x.answer.2) } := by rw [e1, e2]
    rw [e3]
    exact g7

end Go.Mx
