/-
  ParkSteps: what is born; how many steps it makes.
-/
import Derived.Test.YtndhbkhhehleaaaMxPi
import Derived.Test.YtndhbkhhehleaaaMxPj
set_option linter.unusedVariables false
set_option linter.unusedSimpArgs false
set_option linter.unusedSectionVars false
namespace Go.Mx

section
variable {c1 : Den KP2 → Int → Sl → Heap → (Den KPOp → Heap → Prop) → Prop} {c2 : Den KP2 → Int → Sl → Heap → (Den KR9 → Heap → Prop) → Prop} {c3 c7 : Den KP2 → Int → Heap → (Den KPOp → Heap → Prop) → Prop} {c4 c8 : Den KP2 → Int → Heap → (Den KR9 → Heap → Prop) → Prop}
  {c5 : Den KP2 → Heap → (Den KPOp → Heap → Prop) → Prop} {c6 : Den KP2 → Heap → (Den KR9 → Heap → Prop) → Prop} {c9 : Heap → (Den KR9 → Heap → Prop) → Prop}
def BornD (base w k v : Int) (dl : List (Den KP2)) (d : Den KPOp) : Prop := d = POp.zero.den ∨ (k = 0 ∧ RestOk w v dl ∧ d = (restD base w v dl).den) ∨ (k = 1 ∧ RightP w v ∧ d = (wakeD base w v).den) ∨ (k = 2 ∧ (1 ≤ w ∧ w ≤ 64) ∧ d = (peekD base w).den) ∨ (k = 3 ∧ RightP w v ∧ d = (finD base w v).den)
def BornP2 (base workers : Int) (ds : Sl) (dl : List (Den KP2)) (c : Den KMv → Int → Int → Sl → Heap → ((Den KPOp × (Den KR9 × Unit)) → Heap → Prop) → Prop) : Prop := ∀ {k s v : Int} {h : Heap} {Q : (Den KPOp × (Den KR9 × Unit)) → Heap → Prop}, 0 ≤ k → k ≤ 4 → Arr h KP2 ds dl →
  (∀ d e h', le h h' → BornD base workers k v dl d → (∀ F : Nat → Prop, (∀ x, F x → h x ≠ none) → ElP h' F d e) → Q (d, (e, ())) h') → c (k, (s, (v, ()))) base workers ds h Q
theorem pborn2_spec {base w : Int} {ds : Sl} {dl : List (Den KP2)} (hb : I64 base) (hd : ∀ x ∈ dl, I64 x.1) (hn : dl.length ≤ 1048576) (i1 : PRestC c1) (i2 : R9RestC c2) (i3 : PBegC RightP (fun b w s => (wakeD b w s).den) c3) (i4 : R9BegC RightP (r9beg 9) c4)
    (i5 : ∀ {h : Heap} {Q : Den KPOp → Heap → Prop}, (1 ≤ w → w ≤ 64 → Q (peekD base w).den h) → (¬ (1 ≤ w ∧ w ≤ 64) → Q POp.zero.den h) → c5 (base, (w, ())) h Q) (i6 : ∀ {h : Heap} {Q : Den KR9 → Heap → Prop}, (1 ≤ w → w ≤ 64 → Q (r9beg 12 base w 0) h) → (¬ (1 ≤ w ∧ w ≤ 64) → Q R9.dead.den h) → c6 (base, (w, ())) h Q)
    (i7 : PBegC RightP (fun b w s => (finD b w s).den) c7) (i8 : R9BegC RightP (r9beg 13) c8) (i9 : R9DeadC c9) : BornP2 base w ds dl (law9_born.M c1 c2 c3 c4 c5 c6 c7 c8 c9) := by
  intro k sl v h Q k0 k4 a hQ
  have hl := a.1
  have dead : ∀ F : Nat → Prop, ElP h F POp.zero.den R9.dead.den := fun F => ElP.dead (.inl rfl) rfl
  refine ⟨fun ek => ?_, fun e => ⟨fun ek => ?_, fun e => ⟨fun ek => ?_, fun e => ⟨fun ek => ?_, fun e => ?_⟩⟩⟩⟩
  · -- Rest
    refine Loop.up dl.length (fun s => s.2.2.1) (fun i s k => New h k KP2 s.1 (dl.take i) ∧ New h k KP2 s.2.1 (dl.take i) ∧ Apart s.1 s.2.1) rfl ⟨New.nil h KP2, New.nil h KP2, fun x q => absurd q no_blkM⟩ ?_
    rintro i ⟨t1, t2, j, u⟩ g go hi hc ⟨n1, n2, ap⟩ hgo
    dsimp only at hc; subst hc
    have l1 : (dl.take i).length = t1.len := n1.len
    have l2 : (dl.take i).length = t2.len := n2.len
    rw [List.length_take] at l1 l2
    have ag := a.le n1.le
    refine ⟨fun e => ?_, fun e => ?_⟩
    · have e : (i : Int) < (ds.len : Int) := of_decide_eq_true e
      have hlt : i < dl.length := by omega
      have hx : dl[i]? = some dl[i] := List.getElem?_eq_getElem hlt
      have htk : dl.take i ++ [dl[i]] = dl.take (i + 1) := (take_succ' dl hlt).symm
      generalize dl[i] = x at hx htk
      have L : ∀ {g' : Heap}, Arr g' KP2 ds dl → ∀ {K : Int → Int → Prop}, K x.1 x.2.1 → (0 ≤ (i : Int) ∧ (i : Int) < (ds.len : Int)) ∧ deref ds.a fun a9 => (0 ≤ (i : Int) ∧ (i : Int) < (ds.len : Int)) ∧ deref ds.a fun a10 => ld ki g' ((a9.add (((i : Int) : Int).toNat * 2)).add 0) fun t11 => ld ki g' ((a10.add (((i : Int) : Int).toNat * 2)).add 1) fun t12 => K t11 t12 := fun {g'} ag {K} hK => by
        obtain ⟨ad, ha⟩ := ag.addr (by omega)
        refine ⟨⟨by omega, e⟩, ?_⟩
        rw [ha, Int.toNat_natCast]
        refine ⟨⟨by omega, e⟩, ag.ldPart ha hx (kp := ki) (y := x.1) (off := 0) ⟨[], _, rfl, rfl⟩ (sz := 2) rfl (ag.ldPart ha hx (kp := ki) (y := x.2.1) (off := 1) ⟨[_], [], rfl, rfl⟩ (sz := 2) rfl hK)⟩
      refine L ag (n1.app3 (x := (x.1, (x.2.1, ()))) rfl rfl (by dsimp only; omega) fun s1 g1 m1 x1 b1 => ?_)
      have n2' := n2.ext x1 (fun z p q => ap z q p) n1.new
      have a1 := a.le m1.le
      refine L a1 (n2'.app3 (x := (x.1, (x.2.1, ()))) rfl rfl (by dsimp only; omega) fun s2 g2 m2 x2 b2 => ?_)
      have ap1 : Apart s1 t2 := fun z p q => (b1 z p).elim (fun p => ap z p q) fun p => n2.own.live z q p
      have m1' := m1.ext x2 ap1 n2.new
      have ap2 : Apart s1 s2 := fun z p q => (b2 z q).elim (fun q => ap1 z p q) fun q => m1.own.live z p q
      have w1 : w64 ((i : Int) + 1) = ((i + 1 : Nat) : Int) := by rw [w64_of] <;> omega
      refine hgo hlt _ _ w1 ⟨?_, ?_, ap2⟩
      · rw [← htk]; exact m1'
      · rw [← htk]; exact m2
    · have e : ¬ (i : Int) < (ds.len : Int) := of_decide_eq_false e
      obtain rfl : i = dl.length := by omega
      rw [List.take_length] at n1 n2
      have l1 : dl.length = t1.len := n1.len
      have l2 : dl.length = t2.len := n2.len
      refine n1.app3 (x := ((77 : Int), ((78 : Int), ()))) rfl rfl (by dsimp only; omega) fun t g1 m1 x1 b1 => ?_
      have n2' := n2.ext x1 (fun z p q => ap z q p) n1.new
      have ap1 : Apart t t2 := fun z p q => (b1 z p).elim (fun p => ap z p q) fun p => n2.own.live z q p
      have lt := m1.len
      rw [List.length_append, List.length_singleton] at lt
      have ct := m1.own.self
      refine ⟨⟨by show (0 : Int) ≤ (t1.len : Int); omega, by show (t1.len : Int) ≤ (t.cap : Int); omega⟩, ?_⟩
      have cut := m1.arr.pre (n := t1.len) (by omega) (sz := 2)
      rw [List.take_append_of_le_length (by omega), List.take_of_length_le (by omega)] at cut
      rw [Int.toNat_natCast]
      have hx : (dl ++ [((77 : Int), ((78 : Int), ()))] : List (Den KP2))[t1.len]? = some ((77 : Int), ((78 : Int), ())) := by
        rw [← l1, List.getElem?_append_right (Nat.le_refl _), Nat.sub_self]; rfl
      have L : ∀ {K : Int → Prop} {off : Nat} {y : Int}, PartAt KP2 ki off ((77 : Int), ((78 : Int), ())) y → K y → (0 ≤ (t1.len : Int) ∧ (t1.len : Int) < (t.len : Int)) ∧ deref t.a fun a => ld ki g1 ((a.add (((t1.len : Int) : Int).toNat * 2)).add off) K := fun {K off y} hp hK => by
        obtain ⟨ad, ha⟩ := m1.arr.addr (by omega)
        refine ⟨⟨by omega, by omega⟩, ?_⟩
        rw [ha, Int.toNat_natCast]
        exact m1.arr.ldPart ha hx (kp := ki) hp (sz := 2) rfl hK
      -- the list is written over, then the reference begins
      have rest : ∀ d : Den KPOp, (RestOk w v dl → d = (restD base w v dl).den) → (¬ RestOk w v dl → d = POp.zero.den) → (0 ≤ (t1.len : Int) ∧ (t1.len : Int) < (t.len : Int)) ∧ deref t.a fun a44 => ld ki g1 ((a44.add (((t1.len : Int) : Int).toNat * 2)).add 0) fun t45 =>
          (((decide (t45 ≠ 77)) = true → law9_born.j3 c2 (0, (sl, (v, ()))) base w Q (t1, (t2, ((dl.length : Int), u))) t d (true, ()) g1) ∧
          ((decide (t45 ≠ 77)) = false → (0 ≤ (t1.len : Int) ∧ (t1.len : Int) < (t.len : Int)) ∧ deref t.a fun a46 => ld ki g1 ((a46.add (((t1.len : Int) : Int).toNat * 2)).add 1) fun t47 => law9_born.j3 c2 (0, (sl, (v, ()))) base w Q (t1, (t2, ((dl.length : Int), u))) t d ((decide (t47 ≠ 78)), ()) g1)) := fun d d1 d0 => by
        refine L ⟨[], _, rfl, rfl⟩ ⟨fun e => absurd rfl (of_decide_eq_true e), fun _ => L (y := 78) ⟨[_], [], rfl, rfl⟩ ?_⟩
        show law9_born.j3 c2 (0, (sl, (v, ()))) base w Q (t1, (t2, ((dl.length : Int), u))) t d (false, ()) g1
        refine ⟨fun e => (by cases e), fun _ => ?_⟩
        refine Loop.up t.len (fun s => s.1) (fun i s k => (∃ xs, New h k KP2 t xs) ∧ New h k KP2 t2 dl) rfl ⟨⟨_, m1⟩, n2'⟩ ?_
        rintro i ⟨j, u'⟩ g2 go2 hi hc ⟨⟨xs, m2⟩, n3⟩ hgo2
        dsimp only at hc; subst hc
        refine ⟨fun e => ?_, fun e => ?_⟩
        · have e : (i : Int) < (t.len : Int) := of_decide_eq_true e
          refine ⟨⟨by omega, e⟩, m2.set (i := (i : Int)) (by omega) e rfl (sz := 2) rfl fun g3 m3 x3 => ?_⟩
          exact hgo2 (by omega) _ _ (by show w64 ((i : Int) + 1) = _; rw [w64_of] <;> omega) ⟨⟨_, m3⟩, n3.ext x3 (fun z p q => ap1 z q p) m2.new⟩
        · refine i2 n3.arr (fun ok t5 g5 n5 => ?_) fun no => ?_
          · refine hQ d _ g5 (n3.le.trans n5.le) (.inr (.inl ⟨of_decide_eq_true ek, ok, d1 ok⟩)) fun F hF => ?_
            rw [d1 ok]
            refine ⟨dl, restD base w v dl, _, rfl, rfl, RelP.rest ok hb hd, n5.arr, fun x hx => ⟨n5.own.live x hx, fun q => hF x q ?_⟩⟩
            exact n3.le.none (n5.new x hx)
          · refine hQ d _ g2 n3.le (.inl (d0 no)) fun F hF => ?_
            rw [d0 no]
            exact ElP.dead (.inl rfl) rfl
      exact i1 cut (fun ok => rest _ (fun _ => rfl) (fun z => absurd ok z)) fun no => rest _ (fun z => absurd z no) (fun _ => rfl)
  · refine i3 (fun r => i4 (fun _ => hQ _ _ h (fun _ _ e => e) (.inr (.inr (.inl ⟨of_decide_eq_true ek, r, rfl⟩))) fun F _ => ElP.none (RelP.wake r hb)) fun z => absurd r z) fun r => i4 (fun z => absurd z r) fun _ => hQ _ _ h (fun _ _ e => e) (.inl rfl) fun F _ => dead F
  · refine i5 (fun w1 w2 => i6 (fun _ _ => hQ _ _ h (fun _ _ e => e) (.inr (.inr (.inr (.inl ⟨of_decide_eq_true ek, ⟨w1, w2⟩, rfl⟩)))) fun F _ => ElP.none (RelP.peek w1 w2 hb)) fun z => absurd ⟨w1, w2⟩ z) fun r => i6 (fun w1 w2 => absurd ⟨w1, w2⟩ r) fun _ => hQ _ _ h (fun _ _ e => e) (.inl rfl) fun F _ => dead F
  · refine i7 (fun r => i8 (fun _ => hQ _ _ h (fun _ _ e => e) (.inr (.inr (.inr (.inr ⟨of_decide_eq_true ek, r, rfl⟩)))) fun F _ => ElP.none (RelP.fin r hb)) fun z => absurd r z) fun r => i8 (fun z => absurd z r) fun _ => hQ _ _ h (fun _ _ e => e) (.inl rfl) fun F _ => dead F
  · exact i9 (hQ _ _ h (fun _ _ e => e) (.inl rfl) fun F _ => dead F)
end
/-- The bound of steps. -/
def boundP (k w : Int) : Int := if w < 1 then 0 else if 64 < w then 0 else if k = 1 then w + 1 else if k = 2 then 1 else if k = 3 then 2 * w - 1 else 2 * w + 3
theorem BornD.mu {base w k v : Int} {dl : List (Den KP2)} {o : POp} (B : BornD base w k v dl o.den) : o = POp.zero ∨ (o.st.workers = w ∧ 1 ≤ w ∧ w ≤ 64 ∧ o.mu = boundP k w) := by
  have inj : ∀ {a b : POp}, a.den = b.den → a = b := fun {a b} e => by
    have e1 : a.st.den = b.st.den := congrArg (·.1) e
    have e2 : a.ds = b.ds := congrArg (·.2.1) e
    have e3 : a.look.den = b.look.den := congrArg (·.2.2.1) e
    have e4 : a.look = b.look := den_inj e3
    have e5 : a.st = b.st := congrArg (fun d : Den KPSt => PSt.mk d.1.1 d.1.2.1 d.2.1 d.2.2.1 d.2.2.2.1 d.2.2.2.2.1 d.2.2.2.2.2.1 d.2.2.2.2.2.2.1 d.2.2.2.2.2.2.2.1) e1
    cases a; cases b; dsimp only at e2 e4 e5; subst e2 e4 e5; rfl
  have bd : ∀ x : Int, 1 ≤ w → w ≤ 64 → boundP x w = if x = 1 then w + 1 else if x = 2 then 1 else if x = 3 then 2 * w - 1 else 2 * w + 3 := fun x a b => by unfold boundP; rw [if_neg (by omega), if_neg (by omega)]
  rcases B with B | ⟨rfl, r, B⟩ | ⟨rfl, r, B⟩ | ⟨rfl, r, B⟩ | ⟨rfl, r, B⟩
  · exact .inl (inj B)
  · rw [inj B, bd 0 r.1.1 r.1.2.1]; exact .inr ⟨rfl, r.1.1, r.1.2.1, rfl⟩
  · rw [inj B, bd 1 r.1 r.2.1]; exact .inr ⟨rfl, r.1, r.2.1, rfl⟩
  · rw [inj B, bd 2 r.1 r.2]; exact .inr ⟨rfl, r.1, r.2, rfl⟩
  · rw [inj B, bd 3 r.1 r.2.1]; exact .inr ⟨rfl, r.1, r.2.1, rfl⟩
end Go.Mx
