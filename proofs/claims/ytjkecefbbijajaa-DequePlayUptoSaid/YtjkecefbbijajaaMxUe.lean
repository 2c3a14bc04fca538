/-
  The reference's play: the walks of begin and pick.
-/
import Derived.Test.YtjkecefbbijajaaMxUd
set_option linter.unusedVariables false
set_option linter.unusedSimpArgs false
set_option linter.unusedSectionVars false
namespace Go.Mx

theorem no_blk3 {x : Nat} : ¬ blkOf Sl.none x := fun h => by obtain ⟨a, e, _⟩ := h; cases e
/-- A machine at its start. -/
theorem relO_start {kind most v : Int} (k0 : 0 ≤ kind) (k3 : kind ≤ 3) (m1 : 1 ≤ most) (m2 : most ≤ 4096) : RelO kind 0 most v [] false (startK kind 0 most v) :=
  .inr (.inr ⟨rfl, k0, k3, m1, m2, by rw [w64_of] <;> decide, fun _ i _ => by simp only [List.getD_nil]; rw [w64_of] <;> decide, v, fun _ => rfl, rfl, LiveH.nil _⟩)
theorem rbeginJ {h0 h : Heap} {g b : Nat} {most : Int} {td ac ca : Sl} {tds : List DTd} {nx : Nat} {es : List (Den KRa)} {S : Nat → Prop} {N : Nat} {p : PS} (o : RG h0 h g b most td ac ca tds nx es S N p) {who : Nat} (hw : who < p.acts.length) (hc : p.calls.length ≤ 1000000000) {kind v : Int} {x : DOp} {y : DCl} (hx : RelO kind 0 most v [] false x) {Q : Bool → Heap → Prop}
    (hQ : ∀ ca' es' h', RG h0 h' g b most td ac ca' tds nx es' S N { p with acts := p.acts.set who (x, (p.calls.length : Int)), calls := p.calls ++ [y] } → Step (fpS3 g ac ca S) (fpS3 g ac ca' S) h h' → Q true h') :
    ref3_Stage_begin.j1 (some (ptr g)) (who : Int) Q ((kind, (0, (most, (v, (Sl.none, (false, ())))))), (y, ())) h := by
  have hal := o.acts.len
  have hel := o.elen
  have hcl := o.calls.len
  obtain ⟨a, ha⟩ := o.acts.own.addr (by omega)
  have he : es[who]? = some es[who] := by simp [show who < es.length by omega]
  generalize es[who] = e at he
  obtain ⟨kd0, bs0, ms0, v0, s0, d0, hs0, q1, q2, q3, q4, q5⟩ := o.el who e he
  subst q1
  refine deref_some3 (deref_some3 (o.ld5 (o.ld6 ?_)))
  refine ⟨⟨by omega, by omega⟩, ?_⟩
  rw [ha]
  refine deref_some3 ?_
  rw [Int.toNat_natCast]
  refine o.acts.stPart (kp := ki) (k := KRa) (y' := ((ca.len : Int), (ropD kd0 bs0 ms0 v0 s0 d0, ()))) (off := 0) ha he rfl (by decide) rfl rfl fun h1 n1 e1 => ?_
  have ob1 := o.obj.ext e1 o.g2
  refine deref_some3 (ob1.ld (k := KSt) (kf := .sl) (y := ac) ⟨[_, _, _, _, _], _, rfl, rfl⟩ ⟨⟨by omega, by omega⟩, ?_⟩)
  rw [ha]
  refine deref_some3 ?_
  have he1 : (es.set who ((ca.len : Int), (ropD kd0 bs0 ms0 v0 s0 d0, ())))[who]? = some ((ca.len : Int), (ropD kd0 bs0 ms0 v0 s0 d0, ())) := List.getElem?_set_self (by omega)
  refine n1.stPart (kp := KRo) (k := KRa) (y' := ((ca.len : Int), (ropD kind 0 most v Sl.none false, ()))) (off := 1) ha he1 rfl (by decide) rfl rfl fun h2 n2 e2 => ?_
  rw [set_set'] at n2
  obtain ⟨o2, s2⟩ := o.putA (a' := (x, (ca.len : Int))) hw n2 (e1.trans e2) ⟨kind, 0, most, v, Sl.none, false, [], rfl, fun _ => ⟨rfl, rfl, hx⟩, (Own.nil _ _).arr, fun x q => (no_blk3 q).elim, Nat.zero_le _⟩
  refine deref_some3 (o2.ld6 (o2.calls.app3 rfl rfl (by omega) fun t h3 n3 e3 b3 => deref_some3 ?_))
  have ob := o2.obj.ext e3 o2.g3
  rw [add_add']
  refine ob.st (k := KSt) (kf := .sl) (off := 6) (v := t) (x' := stV b most td nx ac t) rfl (by decide) rfl fun h4 q4 e4 => ?_
  obtain ⟨o4, s4⟩ := o2.addC n3 e3 b3 q4 e4
  refine hQ t (es.set who ((p.calls.length : Int), (ropD kind 0 most v Sl.none false, ()))) h4 ?_ (s2.trans s4)
  rw [← hcl] at o4
  exact o4
def RBegR (p : PS) (most n : Int) (who : Nat) (r : Bool) (p' : PS) : Prop := (p.begin most n who = none ∧ r = false ∧ p' = p) ∨ (p.begin most n who = some p' ∧ r = true)
theorem rbegin_spec {h0 h : Heap} {g b : Nat} {most : Int} {td ac ca : Sl} {tds : List DTd} {nx : Nat} {es : List (Den KRa)} {S : Nat → Prop} {N : Nat} {p : PS} (o : RG h0 h g b most td ac ca tds nx es S N p) {who : Nat} (hw : who < p.acts.length) (hc : p.calls.length ≤ 1000000000) (m1 : 1 ≤ most) (m2 : most ≤ 4096) (ht : ∀ t ∈ tds, (t.1 : Int) = 0 ∨ (t.1 : Int) = 1) (htl : tds.length ≤ 1000000) {n : Int} {Q : Bool → Heap → Prop}
    (hQ : ∀ r p' ca' nx' es' h', RBegR p most n who r p' → RG h0 h' g b most td ac ca' tds nx' es' S N p' → Step (fpS3 g ac ca S) (fpS3 g ac ca' S) h h' → Q r h') : ref3_Stage_begin.M (some (ptr g)) (who : Int) n h Q := by
  refine deref_some3 (o.ld1 ⟨fun e => ?_, fun e => ?_⟩)
  · have e : (who : Int) = 0 := of_decide_eq_true e
    obtain rfl : who = 0 := by omega
    have tdl := o.tda.1
    have nxl := o.nxl
    refine deref_some3 (deref_some3 (o.ld4 (o.ld3 ⟨fun f => ?_, fun f => ?_⟩)))
    · have f : (td.len : Int) ≤ (nx : Int) := of_decide_eq_true f
      refine hQ false p ca nx es h (.inl ⟨?_, rfl, rfl⟩) o (Step.refl _ _)
      unfold PS.begin
      rw [if_pos rfl, o.tdp, List.drop_of_length_le (by omega)]
    · have f : ¬ (td.len : Int) ≤ (nx : Int) := of_decide_eq_false f
      have hlt : nx < tds.length := by omega
      have hx : tds[nx]? = some tds[nx] := by simp [hlt]
      have hdr : tds.drop nx = tds[nx] :: tds.drop (nx + 1) := List.drop_eq_getElem_cons hlt
      have hk := ht tds[nx] (List.getElem_mem hlt)
      generalize tds[nx] = t at *
      obtain ⟨a, ha⟩ := o.tda.addr (by omega)
      have hbn : 0 ≤ (nx : Int) ∧ (nx : Int) < (td.len : Int) := ⟨by omega, by omega⟩
      refine deref_some3 (deref_some3 (o.ld3 (o.ld4 ⟨hbn, ?_⟩)))
      rw [ha]
      refine deref_some3 ?_
      rw [Int.toNat_natCast]
      refine (o.tda.le o.le).ldAt ha hx rfl (deref_some3 (o.ld4 (deref_some3 ?_)))
      have hw1 : w64 ((nx : Int) + 1) = ((nx + 1 : Nat) : Int) := by rw [w64_of] <;> omega
      rw [hw1]
      refine o.obj.st (k := KSt) (kf := ki) (off := 4) (v := ((nx + 1 : Nat) : Int)) (x' := stV b most td (nx + 1) ac ca) rfl (by decide) rfl fun h1 q1 e1 => ?_
      obtain ⟨o1, s1⟩ := o.putN q1 (by omega) e1
      have hb : p.begin most n 0 = some { p with todos := tds.drop (nx + 1), acts := p.acts.set 0 (if t.1 = 0 then DOp.push 0 most t.2.1 else DOp.pop 0 most, (p.calls.length : Int)), calls := p.calls ++ [newCall 0 t.1 (if t.1 = 0 then t.2.1 else 0) n] } := by
        unfold PS.begin; rw [if_pos rfl, o.tdp, hdr]
      obtain ⟨t0, t1, tu⟩ := t
      change Int at t0 t1
      have hk : t0 = 0 ∨ t0 = 1 := hk
      refine ⟨fun k => ?_, fun k => ?_⟩
      · have k : t0 = 0 := of_decide_eq_true k
        subst k
        rw [if_pos rfl, if_pos rfl] at hb
        refine rbeginJ o1 (kind := 0) (v := t1) (x := DOp.push 0 most t1) (y := newCall 0 0 t1 n) hw hc ?_ fun ca' es' h' o' s' => hQ true _ ca' _ es' h' (.inr ⟨hb, rfl⟩) o' (s1.trans s')
        have := relO_start (v := t1) (most := most) (kind := 0) (by decide) (by decide) m1 m2
        rwa [show startK 0 0 most t1 = DOp.push 0 most t1 from (begin_eq m1 m2).symm] at this
      · have k : ¬ t0 = 0 := of_decide_eq_false k
        obtain rfl : t0 = 1 := by omega
        rw [if_neg (show ¬ (1 : Int) = 0 by decide), if_neg (show ¬ (1 : Int) = 0 by decide)] at hb
        refine rbeginJ o1 (kind := 1) (v := 0) (x := DOp.pop 0 most) (y := newCall 0 1 0 n) hw hc ?_ fun ca' es' h' o' s' => hQ true _ ca' _ es' h' (.inr ⟨hb, rfl⟩) o' (s1.trans s')
        have := relO_start (v := 0) (most := most) (kind := 1) (by decide) (by decide) m1 m2
        rwa [show startK 1 0 most 0 = DOp.pop 0 most from (begin_eq m1 m2).symm] at this
  · have e : ¬ (who : Int) = 0 := of_decide_eq_false e
    refine rbeginJ o (kind := 2) (v := 0) (x := DOp.steal 0 most) (y := newCall (who : Int) 2 0 n) hw hc ?_ fun ca' es' h' o' s' => hQ true _ ca' _ es' h' (.inr ⟨by unfold PS.begin; rw [if_neg (by omega)], rfl⟩) o' s'
    have := relO_start (v := 0) (most := most) (kind := 2) (by decide) (by decide) m1 m2
    rwa [show startK 2 0 most 0 = DOp.steal 0 most from (begin_eq m1 m2).symm] at this
theorem RMem.who {h0 h : Heap} {b : Nat} {m : AS} {S : Nat → Prop} (R : RMem h0 b m S h) {w : Int} {Q : Heap → Prop} (hQ : ∀ h', RMem h0 b { m with who := w } S h' → Step S S h h' → Q h') : st ki h ((ptr b).add 2) w Q := by
  obtain ⟨wt, c, l, rfl, o⟩ := R
  refine o.obj.st (kf := ki) (v := w) (off := 2) (x' := (c, (m.sz, (w, (l, ()))))) rfl (by decide) rfl fun h3 o3 x3 => ?_
  have f : ∀ x, x = b → h0 x = none := fun x hx => by subst hx; exact o.nb
  exact hQ h3 ⟨wt, c, l, rfl, o3, o.cell.ext x3 (fun x p q => by subst q; exact o.b1 p) f, o.log.ext x3 (fun x p q => by subst q; exact o.b2 p) f, o.nb, o.b1, o.b2, o.ap⟩ ⟨x3.mono (fun x q => .inl q), fun x q => .inl q⟩
theorem relO_push {kind base most v : Int} {hs : List Int} {dead : Bool} {o : DOp} (R : RelO kind base most v hs dead o) (hk : kind = 0) (hp : o.pc ≠ 0) (hl : hs.length < 2) : (o.kind = 1 ∧ (o.pc = 1 ∨ o.pc = 2) ∧ o.base = base) ∨ o = DOp.zero ∨ o.want = wEnd 1 0 := by
  rcases R with ⟨_, e⟩ | ⟨_, _, e⟩ | ⟨_, R⟩
  · exact .inr (.inr e)
  · exact .inr (.inl e)
  · obtain ⟨v', hv, rfl, l⟩ := R.st
    subst hk
    refine .inl ?_
    match hs, hl with
    | [], _ => exact ⟨rfl, .inl rfl, rfl⟩
    | [x], _ => exact ⟨rfl, .inr rfl, rfl⟩
/-- What a push sees first. -/
theorem PI.rng {most N : Int} {q : PS} (h : PI most q N) (hN : N ≤ 900000000) {who : Nat} (hw : who < q.acts.length) {kind v : Int} {hs : List Int} {dead : Bool} (R : RelO kind 0 most v hs dead (q.act who).1) : kind = 0 → hs.length < 2 → ∀ g, (q.act who).1.pc ≠ 0 → (arenaI { q.m.big with who := (who : Int) } (q.act who).1.req).1 = some g → w64 g = g := by
  intro hk hl g hp hg
  rcases relO_push R hk hp hl with ⟨k1, pc, hb⟩ | e | e
  · have w0 : who = 0 := Decidable.byContradiction fun w => by
      have := h.kind who (by omega) hw hp
      omega
    subst w0
    have nl : ¬ lowered (q.act 0).1 := fun l => by have := l.1; omega
    have bl := Bl_up (cs := q.m.cs) nl
    have d := h.dg
    have b1 := d.t0
    have b2 := d.tb
    have b3 := d.bn
    have r : (q.act 0).1.req = .ld 1 ∨ (q.act 0).1.req = .ld 0 := by
      unfold DOp.req
      rcases pc with pc | pc
      · rw [if_pos pc, hb]; exact .inl rfl
      · rw [if_neg (by omega), if_pos pc, hb]; exact .inr rfl
    have key : ∀ a : Int, (arenaI { q.m.big with who := ((0 : Nat) : Int) } (.ld a)).1 = some g → g = gt q.m.cs a := by
      intro a hg
      have e1 : arenaI { q.m.big with who := ((0 : Nat) : Int) } (.ld a) = if 0 ≤ a ∧ a < (q.m.cs.length : Int) then (some (gt q.m.cs a), AS.log { q.m.big with who := ((0 : Nat) : Int) } (((0 : Nat) : Int), (0, (a, (gt q.m.cs a, (0, (true, ()))))))) else (none, { q.m.big with who := ((0 : Nat) : Int) }) := rfl
      rw [e1] at hg
      by_cases c : 0 ≤ a ∧ a < (q.m.cs.length : Int)
      · rw [if_pos c] at hg; cases hg; rfl
      · rw [if_neg c] at hg; cases hg
    rcases r with r | r
    · rw [r] at hg
      rw [key 1 hg, w64_of] <;> omega
    · rw [r] at hg
      rw [key 0 hg, w64_of] <;> omega
  · rw [e] at hp; exact absurd rfl hp
  · rcases want_dcase (q.act who).1 with ⟨w, z⟩ | ⟨_, _, w⟩
    · have zz := z { q.m.big with who := (who : Int) }
      unfold stepD at zz
      by_cases c : (q.act who).1 = DOp.zero
      · rw [c] at hp; exact absurd rfl hp
      · unfold DOp.want at w
        rw [if_neg c, if_neg hp] at w
        exact absurd w (Rq.want_pos _)
    · rw [w] at e
      have := Rq.want_pos (q.act who).1.req
      rw [e] at this
      exact absurd (by decide : (-1 : Int) < 0) this
theorem stepD_acc {m m' : AS} {o : DOp} {g : Int} (hp : o.pc ≠ 0) (hz : o ≠ DOp.zero) (h : arenaI m o.req = (some g, m')) : stepD arenaI m o = (m', o.after g) := by
  unfold stepD
  rw [if_neg hz, if_neg hp, h]
theorem RelO.nz {kind base most v : Int} {hs : List Int} {dead : Bool} {o : DOp} (R : RelO kind base most v hs dead o) (hp : o.pc ≠ 0) : o ≠ DOp.zero := fun e => hp (by rw [e]; rfl)
theorem rgo_spec {c1 c2} (i1 : RStepC c1) (i2 : RAnsC c2) {h0 h : Heap} {g b : Nat} {most : Int} {td ac ca : Sl} {tds : List DTd} {nx : Nat} {es : List (Den KRa)} {S : Nat → Prop} {N : Nat} {p : PS} (o : RG h0 h g b most td ac ca tds nx es S N p) {K : Nat} (ok : PsOk p K) (hK : K ≤ 900000000) (hN : N ≤ 800000000) {who : Nat} (hw : who < p.acts.length) (hc : 0 ≤ (p.act who).2)
    (hp : (p.act who).1.pc ≠ 0) {NI : Int} (pi : PI most p NI) (hNI : NI + 1 ≤ 900000000) {n : Int} {Q : Unit → Heap → Prop} (hQ : ∀ es' S' h', RG h0 h' g b most td ac ca tds nx es' S' (N + 1) (p.go n who) → Step (fpS3 g ac ca S) (fpS3 g ac ca S') h h' → Q () h') : ref3_Stage_pick.j1 c1 c2 (some (ptr g)) (who : Int) n Q () h := by
  have hal := o.acts.len
  have hel := o.elen
  have hcl := o.calls.len
  obtain ⟨a, ha⟩ := o.acts.own.addr (by omega)
  have he : es[who]? = some es[who] := by simp [show who < es.length by omega]
  generalize es[who] = e at he
  obtain ⟨kd, bs, ms, v, s, d, hs, q1, q2, q3, q4, q5⟩ := o.el who e he
  subst q1
  obtain ⟨rfl, rfl, R⟩ := q2 hc
  obtain ⟨gv, m', x, r⟩ := pi.go (by omega) (n := n) hw hp
  have acc := big_acc (m := { p.m with who := (who : Int) }) r.acc ok.fit.sz
  have rng := pi.rng (by omega) hw R
  refine deref_some3 (o.ld0 (deref_some3 (o.mem.who (w := (who : Int)) fun h1 M1 s1 => ?_)))
  obtain ⟨o1, t1⟩ := o.memo (m' := { p.m with who := (who : Int) }) M1 s1
  have hwb : 0 ≤ (who : Int) ∧ (who : Int) < (ac.len : Int) := ⟨by omega, by omega⟩
  refine deref_some3 (deref_some3 (o1.ld0 (o1.ld5 ⟨hwb, ?_⟩)))
  rw [ha]
  refine deref_some3 ?_
  rw [Int.toNat_natCast]
  refine o1.acts.arr.ldPart (kp := KRo) (k := KRa) (y := ropD kd 0 ms v s d) ha he ⟨[_], [], rfl, rfl⟩ rfl ?_
  obtain ⟨kd', bs', ms', v', s'', d', hs'', z1, z2, z3, z4, z5⟩ := o1.el who _ he
  obtain ⟨z11, z12⟩ : s'' = s ∧ True := by
    have := congrArg (fun e : Den KRa => e.2.1.2.2.2.1) z1
    exact ⟨this.symm, trivial⟩
  subst z11
  have q3' := Arr.ext t1.1 q3 (fun x p => (q4 x p).2.2)
  have stp := stepD_acc (m := { p.m.big with who := (who : Int) }) hp (RelO.nz R hp) acc
  refine i1 M1 (Nat.le_trans ok.fit.lg (by omega)) (by have := ok.fit.cs; have := ok.fit.sz; show (p.m.cs.length : Int) ≤ 1048576; omega) (Int.le_refl _) q3' (fun x p => (z4 x p).1) (fun x p q => (z4 x p).2.2 (.inr (.inl q))) (by omega) R rng fun s2 hs2 d2 S2 h2 M2 st2 A2 L2 B2 D2 N2 R2 => ?_
  rw [stp] at M2 R2
  obtain ⟨o2, t2⟩ := o1.memo (m' := m') M2 st2
  have stq := stepD_acc (m := { p.m with who := (who : Int) }) hp (RelO.nz R hp) r.acc
  have hgo : p.go n who = if (stepD arenaI { p.m with who := (who : Int) } (p.act who).1).2.answer.1 = 0 then
    { p with m := (stepD arenaI { p.m with who := (who : Int) } (p.act who).1).1, acts := p.acts.set who ((stepD arenaI { p.m with who := (who : Int) } (p.act who).1).2, (p.act who).2) }
    else { p with m := (stepD arenaI { p.m with who := (who : Int) } (p.act who).1).1, acts := p.acts.set who ((stepD arenaI { p.m with who := (who : Int) } (p.act who).1).2, -1), calls := endAt p.calls (p.act who).2.toNat n (stepD arenaI { p.m with who := (who : Int) } (p.act who).1).2.answer.1 (stepD arenaI { p.m with who := (who : Int) } (p.act who).1).2.answer.2 } := rfl
  rw [stq] at hgo
  dsimp only at R2 hgo
  generalize (p.act who).1.after gv = y at R2 hgo
  have F2 : ∀ z, blkOf s2 z → ¬ fpS3 g ac ca S2 z := fun z q f => by
    have off : ∀ {T : Nat → Prop}, (∀ w, T w → h1 w ≠ none) → (∀ w, blkOf s'' w → ¬ T w) → T z → False := fun l d t => by
      rcases B2 z q with c | c
      · exact d z c t
      · exact l z t c
    rcases f with f | f | f | f
    · exact off (T := (· = g)) (fun w e => by subst e; exact o1.obj.live) (fun w c e => (z4 w c).2.2 (.inl e)) f
    · exact D2 z q f
    · exact off (T := blkOf ac) (fun w e => o1.acts.own.live w e) (fun w c e => (z4 w c).2.2 (.inr (.inr (.inl e)))) f
    · exact off (T := blkOf ca) (fun w e => o1.calls.own.live w e) (fun w c e => (z4 w c).2.2 (.inr (.inr (.inr e)))) f
  have f2 : ∀ z, blkOf s2 z → h0 z = none := fun z q => by
    rcases B2 z q with c | c
    · exact (z4 z c).2.1
    · exact o1.le.none c
  have acc2 : RelO kd 0 ms v hs2 d2 y := R2
  refine deref_some3 (o2.ld5 ⟨hwb, ?_⟩)
  rw [ha]
  refine deref_some3 ?_
  refine o2.acts.stPart (kp := KRo) (k := KRa) (y' := ((p.act who).2, (ropD kd 0 ms v s2 d2, ()))) (off := 1) ha he rfl (by decide) rfl rfl fun h3 n3 e3 => ?_
  have E3 : ElS h0 h2 ms (fpS3 g ac ca S2) (N + 1) ((p.act who).2, (ropD kd 0 ms v s2 d2, ())) (y, (p.act who).2) := ⟨kd, 0, ms, v, s2, d2, hs2, rfl, fun _ => ⟨rfl, rfl, acc2⟩, A2, fun z q => ⟨L2 z q, f2 z q, F2 z q⟩, by omega⟩
  obtain ⟨o3, t3⟩ := (o2.mono (Nat.le_succ N)).putA hw n3 e3 E3
  have A3 := Arr.ext e3 A2 (fun z q w => F2 z q (.inr (.inr (.inl w))))
  refine i2 A3 (by omega) acc2 ⟨fun e => ?_, fun e => ?_⟩
  · have e : y.answer.1 = 0 := of_decide_eq_true e
    rw [if_pos e] at hgo
    rw [hgo] at hQ
    exact hQ _ S2 h3 o3 ((t1.trans t2).trans t3)
  · have e : ¬ y.answer.1 = 0 := of_decide_eq_false e
    rw [if_neg e] at hgo
    have hcc := ok.cl _ (act_mem hw)
    obtain ⟨k, hk⟩ : ∃ k : Nat, (p.act who).2 = (k : Int) := ⟨(p.act who).2.toNat, by omega⟩
    have hkl : k < p.calls.length := by omega
    obtain ⟨a2, ha2⟩ := o.calls.own.addr (by omega)
    have hg3 : (es.set who ((p.act who).2, (ropD kd 0 ms v s2 d2, ())))[who]? = some ((p.act who).2, (ropD kd 0 ms v s2 d2, ())) := List.getElem?_set_self (by omega)
    have hkb : (0 : Int) ≤ (k : Int) ∧ (k : Int) < (ca.len : Int) := ⟨by omega, by omega⟩
    refine deref_some3 (o3.ld5 ⟨hwb, ?_⟩)
    rw [ha]
    refine deref_some3 ?_
    refine o3.acts.arr.ldPart (kp := ki) (y := (p.act who).2) (off := 0) ha hg3 ⟨[], _, rfl, rfl⟩ rfl ?_
    rw [hk]
    refine deref_some3 (o3.ld6 ⟨hkb, ?_⟩)
    rw [ha2]
    refine deref_some3 ?_
    rw [Int.toNat_natCast]
    have hk0 : p.calls[k]? = some p.calls[k] := by simp [hkl]
    generalize p.calls[k] = cl at hk0
    refine o3.calls.stPart (kp := ki) (k := KCl) (y' := (cl.1, (cl.2.1, (cl.2.2.1, (cl.2.2.2.1, (n, (cl.2.2.2.2.2.1, (cl.2.2.2.2.2.2.1, ())))))))) (off := 4) ha2 hk0 rfl (by decide) rfl rfl fun h4 n4 e4 => ?_
    obtain ⟨o4, t4⟩ := o3.putC n4 e4
    refine deref_some3 (o4.ld6 ⟨hkb, ?_⟩)
    rw [ha2]
    refine deref_some3 ?_
    refine o4.calls.stPart (kp := ki) (k := KCl) (y' := (cl.1, (cl.2.1, (cl.2.2.1, (cl.2.2.2.1, (n, (y.answer.1, (cl.2.2.2.2.2.2.1, ())))))))) (off := 5) ha2 (List.getElem?_set_self hkl) rfl (by decide) rfl rfl fun h5 n5 e5 => ?_
    obtain ⟨o5, t5⟩ := o4.putC n5 e5
    refine deref_some3 (o5.ld6 ⟨hkb, ?_⟩)
    rw [ha2]
    refine deref_some3 ?_
    refine o5.calls.stPart (kp := ki) (k := KCl) (y' := endCall cl n y.answer.1 y.answer.2) (off := 6) ha2 (List.getElem?_set_self (by show k < (p.calls.set k _).length; rw [List.length_set]; exact hkl)) rfl (by decide) rfl rfl fun h6 n6 e6 => ?_
    obtain ⟨o6, t6⟩ := o5.putC n6 e6
    refine deref_some3 (o6.ld5 ⟨hwb, ?_⟩)
    rw [ha]
    refine deref_some3 ?_
    refine o6.acts.stPart (kp := ki) (k := KRa) (y' := ((-1 : Int), (ropD kd 0 ms v s2 d2, ()))) (off := 0) ha hg3 rfl (by decide) rfl rfl fun h7 n7 e7 => ?_
    obtain ⟨kd7, bs7, ms7, v7, s7, d7, hs7, w1, w2, w3, w4, w5⟩ := o6.el who _ hg3
    have w11 : s7 = s2 := (congrArg (fun e : Den KRa => e.2.1.2.2.2.1) w1).symm
    subst w11
    have A6 := Arr.ext t6.1 (Arr.ext t5.1 (Arr.ext t4.1 A3 fun z q w => F2 z q w) fun z q w => F2 z q w) fun z q w => F2 z q w
    obtain ⟨o7, t7⟩ := o6.putA (a' := (y, -1)) (by show who < (p.acts.set who _).length; rw [List.length_set]; exact hw) n7 e7 ⟨kd, 0, ms, v, s7, d2, hs2, rfl, fun q => absurd q (by show ¬ (0 : Int) ≤ -1; decide), A6, w4, by omega⟩
    have e1 : (p.acts.set who (y, (p.act who).2)).set who (y, (-1 : Int)) = p.acts.set who (y, -1) := set_set' _ _ _ _
    have e2 : ((p.calls.set k (cl.1, (cl.2.1, (cl.2.2.1, (cl.2.2.2.1, (n, (cl.2.2.2.2.2.1, (cl.2.2.2.2.2.2.1, ())))))))).set k (cl.1, (cl.2.1, (cl.2.2.1, (cl.2.2.2.1, (n, (y.answer.1, (cl.2.2.2.2.2.2.1, ())))))))).set k (endCall cl n y.answer.1 y.answer.2) = endAt p.calls (p.act who).2.toNat n y.answer.1 y.answer.2 := by
      rw [set_set', set_set', hk, Int.toNat_natCast]
      unfold endAt
      rw [hk0]
    have e3 : ({ p with m := m', acts := p.acts.set who (y, -1), calls := endAt p.calls (p.act who).2.toNat n y.answer.1 y.answer.2 } : PS) = { m := m', todos := p.todos, acts := (p.acts.set who (y, (p.act who).2)).set who (y, (-1 : Int)), calls := ((p.calls.set k (cl.1, (cl.2.1, (cl.2.2.1, (cl.2.2.2.1, (n, (cl.2.2.2.2.2.1, (cl.2.2.2.2.2.2.1, ())))))))).set k (cl.1, (cl.2.1, (cl.2.2.1, (cl.2.2.2.1, (n, (y.answer.1, (cl.2.2.2.2.2.2.1, ())))))))).set k (endCall cl n y.answer.1 y.answer.2) } := by rw [e1, e2]
    rw [hgo, e3] at hQ
    exact hQ _ S2 h7 o7 ((((((t1.trans t2).trans t3).trans t4).trans t5).trans t6).trans t7)
def RPickC (c : Option Addr → Int → Int → Heap → (Unit → Heap → Prop) → Prop) : Prop := ∀ {h0 h : Heap} {g b : Nat} {most : Int} {td ac ca : Sl} {tds : List DTd} {nx : Nat} {es : List (Den KRa)} {S : Nat → Prop} {N : Nat} {p : PS} {K who : Nat} {NI n : Int} {Q : Unit → Heap → Prop}, RG h0 h g b most td ac ca tds nx es S N p → PsOk p K → K + 1 ≤ 900000000 → N ≤ 800000000 → who < p.acts.length → PI most p NI → NI + 1 ≤ 900000000 →
  (∀ t ∈ tds, (t.1 : Int) = 0 ∨ (t.1 : Int) = 1) → tds.length ≤ 1000000 → (∀ ca' nx' es' S' h', RG h0 h' g b most td ac ca' tds nx' es' S' (N + 1) (p.step most n who) → Q () h') → c (some (ptr g)) (who : Int) n h Q
theorem rpick_spec {c1 c2} (i1 : RStepC c1) (i2 : RAnsC c2) {cb : Option Addr → Int → Int → Heap → (Bool → Heap → Prop) → Prop} (ib : ∀ {h0 h : Heap} {g b : Nat} {most : Int} {td ac ca : Sl} {tds : List DTd} {nx : Nat} {es : List (Den KRa)} {S : Nat → Prop} {N : Nat} {p : PS} (o : RG h0 h g b most td ac ca tds nx es S N p) {who : Nat} (hw : who < p.acts.length) (hc : p.calls.length ≤ 1000000000) (m1 : 1 ≤ most) (m2 : most ≤ 4096) (ht : ∀ t ∈ tds, (t.1 : Int) = 0 ∨ (t.1 : Int) = 1) (htl : tds.length ≤ 1000000) {n : Int} {Q : Bool → Heap → Prop}
    (hQ : ∀ r p' ca' nx' es' h', RBegR p most n who r p' → RG h0 h' g b most td ac ca' tds nx' es' S N p' → Step (fpS3 g ac ca S) (fpS3 g ac ca' S) h h' → Q r h'), cb (some (ptr g)) (who : Int) n h Q) : RPickC (ref3_Stage_pick.M cb c1 c2) := by
  intro h0 h g b most td ac ca tds nx es S N p K who NI n Q o ok hK hN hw pi hNI ht htl hQ
  have hal := o.acts.len
  have hel := o.elen
  have m1 : 1 ≤ most := by have := pi.dg.c1; have := pi.dg.cm; omega
  have m2 := pi.dg.mx
  obtain ⟨a, ha⟩ := o.acts.own.addr (by omega)
  have he : es[who]? = some es[who] := by simp [show who < es.length by omega]
  generalize es[who] = e at he
  obtain ⟨kd, bs, ms, v, s, d, hs, q1, q2, q3, q4, q5⟩ := o.el who e he
  subst q1
  have hwb : 0 ≤ (who : Int) ∧ (who : Int) < (ac.len : Int) := ⟨by omega, by omega⟩
  refine deref_some3 (o.ld5 ⟨hwb, ?_⟩)
  rw [ha]
  refine deref_some3 ?_
  rw [Int.toNat_natCast]
  refine o.acts.arr.ldPart (kp := ki) (y := (p.act who).2) (off := 0) ha he ⟨[], _, rfl, rfl⟩ rfl ⟨fun c => ?_, fun c => ?_⟩
  · have c : (p.act who).2 < 0 := of_decide_eq_true c
    refine ib o hw (Nat.le_trans ok.cn (by omega)) m1 m2 ht htl fun r p' ca' nx' es' h1 hr o1 s1 => ⟨fun e => ?_, fun e => ?_⟩
    · rcases hr with ⟨hb, rfl, rfl⟩ | ⟨_, rfl⟩
      · have hst : p'.step most n who = p' := by unfold PS.step; rw [if_pos c, hb]
        rw [hst] at hQ
        exact hQ ca' nx' es' S h1 (o1.mono (Nat.le_succ _))
      · cases e
    · rcases hr with ⟨_, rfl, _⟩ | ⟨hb, rfl⟩
      · cases e
      · have hpre : p.pre most n who = some p' := by unfold PS.pre; rw [if_pos c]; exact hb
        obtain ⟨z1, z2, z3, z4, z5, _⟩ := pi.pre hw hpre
        have hst : p.step most n who = p'.go n who := by unfold PS.step; rw [if_pos c, hb]
        rw [hst] at hQ
        obtain ⟨ok1, w1, w2⟩ := ok.begin hb
        exact rgo_spec i1 i2 o1 ok1 hK hN (by omega) z5 z4 z1 hNI fun es'' S' h' o' s' => hQ ca' nx' es'' S' h' o'
  · have c : ¬ (p.act who).2 < 0 := of_decide_eq_false c
    have hst : p.step most n who = p.go n who := by unfold PS.step; rw [if_neg c]
    rw [hst] at hQ
    have hp : (p.act who).1.pc ≠ 0 := fun z => c ((pi.run who hw).2 z)
    exact rgo_spec i1 i2 o ok (by omega) hN hw (by omega) hp pi hNI fun es'' S' h' o' s' => hQ ca nx es'' S' h' o'
end Go.Mx
