/-
  ParkMicro: the reference's Rest; both born; the law.
-/
import Derived.Test.YtndhbkhhehleaaaMxPh
set_option linter.unusedVariables false
set_option linter.unusedSimpArgs false
set_option linter.unusedSectionVars false
namespace Go.Mx

def R9RestC (c : Den KP2 → Int → Sl → Heap → (Den KR9 → Heap → Prop) → Prop) : Prop := ∀ {base w self : Int} {s : Sl} {dl : List (Den KP2)} {h : Heap} {Q : Den KR9 → Heap → Prop}, Arr h KP2 s dl →
  (RestOk w self dl → ∀ t h', New h h' KP2 t dl → Q (R9.den ⟨1, self, 0, 0, base, w, t, 0, 0, 0⟩) h') → (¬ RestOk w self dl → Q R9.dead.den h) → c (base, (w, ())) self s h Q
theorem r9rest_spec {cr cd} (iR : R9RightC cr) (iD : R9DeadC cd) : R9RestC (ref9_Rest.M cr cd) := by
  intro base w self s dl h Q a h1 h0
  have hl := a.1
  have no : ¬ RestOk w self dl → ref9_Rest.j5 cd (base, (w, ())) self s Q (true, ()) h := fun n => ⟨fun _ => iD (h0 n), fun e => (by cases e)⟩
  refine iR (base := base) (w := w) (fun w1 w2 => ⟨fun e => (by cases e), fun _ => ⟨fun e => no fun z => ?_, fun e => ⟨fun e2 => no fun z => ?_, fun e2 => ?_⟩⟩⟩) fun r => ⟨fun _ => no fun z => r ⟨z.1.1, z.1.2.1⟩, fun e => (by cases e)⟩
  · have := of_decide_eq_true e; have := z.1.2.2.1; omega
  · have e2 : w ≤ self := of_decide_eq_true e2
    have := z.1.2.2.2; omega
  have e : ¬ self < 0 := of_decide_eq_false e
  have e2 : ¬ w ≤ self := of_decide_eq_false e2
  show ref9_Rest.j5 cd (base, (w, ())) self s Q (decide ((s.len : Int) ≠ w), ()) h
  by_cases c : (s.len : Int) ≠ w
  · rw [decide_eq_true c]; exact no fun z => c (by rw [← z.2.1, hl])
  rw [decide_eq_false c]
  have c : (s.len : Int) = w := Decidable.not_not.1 c
  have rp : RightP w self := ⟨w1, w2, by omega, by omega⟩
  refine ⟨fun e => (by cases e), fun _ => ?_⟩
  refine Loop.up dl.length (fun s => s.1) (fun i s k => k = h ∧ ∀ (j : Nat) (x : Den KP2), j < i → dl[j]? = some x → (j : Int) ≠ self → (1 : Int) ≤ x.2.1 ∧ (x.2.1 : Int) ≤ 4096) rfl ⟨rfl, fun j x q => absurd q (by omega)⟩ ?_
  rintro i ⟨j, X, u⟩ k go hi hc ⟨rfl, hok⟩ hgo
  dsimp only at hc; subst hc
  refine ⟨fun e => ?_, fun e => ?_⟩
  · have e : (i : Int) < (s.len : Int) := of_decide_eq_true e
    have hlt : i < dl.length := by omega
    obtain ⟨ad, ha⟩ := a.addr (by omega)
    have hx : dl[i]? = some dl[i] := List.getElem?_eq_getElem hlt
    generalize dl[i] = x at hx
    have good : ((i : Int) ≠ self → (1 : Int) ≤ x.2.1 ∧ (x.2.1 : Int) ≤ 4096) → ref9_Rest.j2 cd Q go ((i : Int), (X, u)) (false, ()) k := fun gd => by
      unfold ref9_Rest.j2 ref9_Rest.j1
      refine ⟨fun e => (by cases e), fun _ => ?_⟩
      have H := fun s' => hgo hlt s' k
      dsimp only
      refine H _ ?_ ⟨rfl, ?_⟩
      · show w64 ((i : Int) + 1) = _
        rw [w64_of] <;> omega
      · intro j y hj hy hne
        by_cases q : j = i
        · subst q; rw [hx] at hy; cases hy; exact gd hne
        · exact hok j y (by omega) hy hne
    have bad : (i : Int) ≠ self → ¬ ((1 : Int) ≤ x.2.1 ∧ (x.2.1 : Int) ≤ 4096) → ref9_Rest.j2 cd Q go ((i : Int), (X, u)) (true, ()) k := fun hne hb => ⟨fun _ => iD (h0 fun z => hb (z.2.2 i x hx hne)), fun e => (by cases e)⟩
    have L : ∀ {K : Int → Prop}, K x.2.1 → (0 ≤ (i : Int) ∧ (i : Int) < (s.len : Int)) ∧ deref s.a fun a => ld ki k ((a.add (((i : Int) : Int).toNat * 2)).add 1) K := fun {K} hK => by
      refine ⟨⟨by omega, e⟩, ?_⟩
      rw [ha, Int.toNat_natCast]
      exact a.ldPart ha hx (kp := ki) (y := x.2.1) (off := 1) ⟨[_], [], rfl, rfl⟩ (sz := 2) rfl hK
    refine ⟨fun hne => L ⟨fun m1 => ?_, fun m1 => L ?_⟩, fun hne => good fun z => absurd z (of_decide_eq_false hne)⟩
    · exact bad (of_decide_eq_true hne) fun z => absurd (show (x.2.1 : Int) < 1 from of_decide_eq_true m1) (Int.not_lt.2 z.1)
    · have m1 : ¬ (x.2.1 : Int) < 1 := of_decide_eq_false m1
      show ref9_Rest.j2 cd Q go ((i : Int), (X, u)) (decide ((4096 : Int) < x.2.1), ()) k
      by_cases c2 : (4096 : Int) < x.2.1
      · rw [decide_eq_true c2]; exact bad (of_decide_eq_true hne) fun z => absurd c2 (Int.not_lt.2 z.2)
      · rw [decide_eq_false c2]; exact good fun _ => ⟨Int.not_lt.1 m1, Int.not_lt.1 c2⟩
  · have e : ¬ (i : Int) < (s.len : Int) := of_decide_eq_false e
    obtain rfl : i = dl.length := by omega
    have ok : RestOk w self dl := ⟨rp, by rw [hl]; exact c, fun j x hj hne => hok j x (List.getElem?_eq_some_iff.1 hj).1 hj hne⟩
    refine New.mk0 fun p0 h2 n2 => n2.apps (a.le n2.le) rfl rfl (by show (0 + s.len) * 16 ≤ _; omega) fun t h3 n3 => ?_
    rw [List.nil_append] at n3
    exact h1 ok t h3 n3
section
variable {c1 : Den KP2 → Int → Sl → Heap → (Den KPOp → Heap → Prop) → Prop} {c2 : Den KP2 → Int → Sl → Heap → (Den KR9 → Heap → Prop) → Prop} {c3 c7 : Den KP2 → Int → Heap → (Den KPOp → Heap → Prop) → Prop} {c4 c8 : Den KP2 → Int → Heap → (Den KR9 → Heap → Prop) → Prop}
  {c5 : Den KP2 → Heap → (Den KPOp → Heap → Prop) → Prop} {c6 : Den KP2 → Heap → (Den KR9 → Heap → Prop) → Prop} {c9 : Heap → (Den KR9 → Heap → Prop) → Prop}
theorem ElP.none {h : Heap} {F : Nat → Prop} {o : POp} {a base w self : Int} (R : RelP [] o ⟨a, self, 0, 0, base, w, Sl.none, 0, 0, 0⟩) : ElP h F o.den (r9beg a base w self) :=
  ⟨[], o, _, rfl, rfl, R, (Own.nil _ _).arr, fun x q => absurd q no_blkM⟩
theorem pborn_spec {base w : Int} {ds : Sl} {dl : List (Den KP2)} (hb : I64 base) (hd : ∀ x ∈ dl, I64 x.1) (hn : dl.length ≤ 1048576) (i1 : PRestC c1) (i2 : R9RestC c2) (i3 : PBegC RightP (fun b w s => (wakeD b w s).den) c3) (i4 : R9BegC RightP (r9beg 9) c4)
    (i5 : ∀ {h : Heap} {Q : Den KPOp → Heap → Prop}, (1 ≤ w → w ≤ 64 → Q (peekD base w).den h) → (¬ (1 ≤ w ∧ w ≤ 64) → Q POp.zero.den h) → c5 (base, (w, ())) h Q) (i6 : ∀ {h : Heap} {Q : Den KR9 → Heap → Prop}, (1 ≤ w → w ≤ 64 → Q (r9beg 12 base w 0) h) → (¬ (1 ≤ w ∧ w ≤ 64) → Q R9.dead.den h) → c6 (base, (w, ())) h Q)
    (i7 : PBegC RightP (fun b w s => (finD b w s).den) c7) (i8 : R9BegC RightP (r9beg 13) c8) (i9 : R9DeadC c9) : BornP base w ds dl (law9_born.M c1 c2 c3 c4 c5 c6 c7 c8 c9) := by
  intro k sl v h Q k0 k4 a hQ
  have hl := a.1
  have dead : ∀ F : Nat → Prop, ElP h F POp.zero.den R9.dead.den := fun F => ElP.dead (.inl rfl) rfl
  refine ⟨fun _ => ?_, fun e => ⟨fun _ => ?_, fun e => ⟨fun _ => ?_, fun e => ⟨fun _ => ?_, fun e => ?_⟩⟩⟩⟩
  · -- Rest
    refine Loop.up dl.length (fun s => s.2.2.1) (fun i s k => New h k KP2 s.1 (dl.take i) ∧ New h k KP2 s.2.1 (dl.take i) ∧ Apart s.1 s.2.1) rfl ⟨New.nil h KP2, New.nil h KP2, fun x q => absurd q no_blkM⟩ ?_
    rintro i ⟨t1, t2, j, u⟩ g go hi hc ⟨n1, n2, ap⟩ hgo
    dsimp only at hc; subst hc
    have l1 : (dl.take i).length = t1.len := n1.len
    have l2 : (dl.take i).length = t2.len := n2.len
    rw [List.length_take] at l1 l2
    have ag := a.le n1.le
    refine ⟨fun e => ?_, fun e => ?_⟩
    · have e : (i : Int) < (ds.len : Int) := of_decide_eq_true e
      have hlt : i < dl.length := by omega
      have hx : dl[i]? = some dl[i] := List.getElem?_eq_getElem hlt
      have htk : dl.take i ++ [dl[i]] = dl.take (i + 1) := (take_succ' dl hlt).symm
      generalize dl[i] = x at hx htk
      have L : ∀ {g' : Heap}, Arr g' KP2 ds dl → ∀ {K : Int → Int → Prop}, K x.1 x.2.1 → (0 ≤ (i : Int) ∧ (i : Int) < (ds.len : Int)) ∧ deref ds.a fun a9 => (0 ≤ (i : Int) ∧ (i : Int) < (ds.len : Int)) ∧ deref ds.a fun a10 => ld ki g' ((a9.add (((i : Int) : Int).toNat * 2)).add 0) fun t11 => ld ki g' ((a10.add (((i : Int) : Int).toNat * 2)).add 1) fun t12 => K t11 t12 := fun {g'} ag {K} hK => by
        obtain ⟨ad, ha⟩ := ag.addr (by omega)
        refine ⟨⟨by omega, e⟩, ?_⟩
        rw [ha, Int.toNat_natCast]
        refine ⟨⟨by omega, e⟩, ag.ldPart ha hx (kp := ki) (y := x.1) (off := 0) ⟨[], _, rfl, rfl⟩ (sz := 2) rfl (ag.ldPart ha hx (kp := ki) (y := x.2.1) (off := 1) ⟨[_], [], rfl, rfl⟩ (sz := 2) rfl hK)⟩
      refine L ag (n1.app3 (x := (x.1, (x.2.1, ()))) rfl rfl (by dsimp only; omega) fun s1 g1 m1 x1 b1 => ?_)
      have n2' := n2.ext x1 (fun z p q => ap z q p) n1.new
      have a1 := a.le m1.le
      refine L a1 (n2'.app3 (x := (x.1, (x.2.1, ()))) rfl rfl (by dsimp only; omega) fun s2 g2 m2 x2 b2 => ?_)
      have ap1 : Apart s1 t2 := fun z p q => (b1 z p).elim (fun p => ap z p q) fun p => n2.own.live z q p
      have m1' := m1.ext x2 ap1 n2.new
      have ap2 : Apart s1 s2 := fun z p q => (b2 z q).elim (fun q => ap1 z p q) fun q => m1.own.live z p q
      have w1 : w64 ((i : Int) + 1) = ((i + 1 : Nat) : Int) := by rw [w64_of] <;> omega
      refine hgo hlt _ _ w1 ⟨?_, ?_, ap2⟩
      · rw [← htk]; exact m1'
      · rw [← htk]; exact m2
    · have e : ¬ (i : Int) < (ds.len : Int) := of_decide_eq_false e
      obtain rfl : i = dl.length := by omega
      rw [List.take_length] at n1 n2
      have l1 : dl.length = t1.len := n1.len
      have l2 : dl.length = t2.len := n2.len
      refine n1.app3 (x := ((77 : Int), ((78 : Int), ()))) rfl rfl (by dsimp only; omega) fun t g1 m1 x1 b1 => ?_
      have n2' := n2.ext x1 (fun z p q => ap z q p) n1.new
      have ap1 : Apart t t2 := fun z p q => (b1 z p).elim (fun p => ap z p q) fun p => n2.own.live z q p
      have lt := m1.len
      rw [List.length_append, List.length_singleton] at lt
      have ct := m1.own.self
      refine ⟨⟨by show (0 : Int) ≤ (t1.len : Int); omega, by show (t1.len : Int) ≤ (t.cap : Int); omega⟩, ?_⟩
      have cut := m1.arr.pre (n := t1.len) (by omega) (sz := 2)
      rw [List.take_append_of_le_length (by omega), List.take_of_length_le (by omega)] at cut
      rw [Int.toNat_natCast]
      have hx : (dl ++ [((77 : Int), ((78 : Int), ()))] : List (Den KP2))[t1.len]? = some ((77 : Int), ((78 : Int), ())) := by
        rw [← l1, List.getElem?_append_right (Nat.le_refl _), Nat.sub_self]; rfl
      have L : ∀ {K : Int → Prop} {off : Nat} {y : Int}, PartAt KP2 ki off ((77 : Int), ((78 : Int), ())) y → K y → (0 ≤ (t1.len : Int) ∧ (t1.len : Int) < (t.len : Int)) ∧ deref t.a fun a => ld ki g1 ((a.add (((t1.len : Int) : Int).toNat * 2)).add off) K := fun {K off y} hp hK => by
        obtain ⟨ad, ha⟩ := m1.arr.addr (by omega)
        refine ⟨⟨by omega, by omega⟩, ?_⟩
        rw [ha, Int.toNat_natCast]
        exact m1.arr.ldPart ha hx (kp := ki) hp (sz := 2) rfl hK
      -- the list is written over, then the reference begins
      have rest : ∀ d : Den KPOp, (RestOk w v dl → d = (restD base w v dl).den) → (¬ RestOk w v dl → d = POp.zero.den) → (0 ≤ (t1.len : Int) ∧ (t1.len : Int) < (t.len : Int)) ∧ deref t.a fun a44 => ld ki g1 ((a44.add (((t1.len : Int) : Int).toNat * 2)).add 0) fun t45 =>
          (((decide (t45 ≠ 77)) = true → law9_born.j3 c2 (0, (sl, (v, ()))) base w Q (t1, (t2, ((dl.length : Int), u))) t d (true, ()) g1) ∧
          ((decide (t45 ≠ 77)) = false → (0 ≤ (t1.len : Int) ∧ (t1.len : Int) < (t.len : Int)) ∧ deref t.a fun a46 => ld ki g1 ((a46.add (((t1.len : Int) : Int).toNat * 2)).add 1) fun t47 => law9_born.j3 c2 (0, (sl, (v, ()))) base w Q (t1, (t2, ((dl.length : Int), u))) t d ((decide (t47 ≠ 78)), ()) g1)) := fun d d1 d0 => by
        refine L ⟨[], _, rfl, rfl⟩ ⟨fun e => absurd rfl (of_decide_eq_true e), fun _ => L (y := 78) ⟨[_], [], rfl, rfl⟩ ?_⟩
        show law9_born.j3 c2 (0, (sl, (v, ()))) base w Q (t1, (t2, ((dl.length : Int), u))) t d (false, ()) g1
        refine ⟨fun e => (by cases e), fun _ => ?_⟩
        refine Loop.up t.len (fun s => s.1) (fun i s k => (∃ xs, New h k KP2 t xs) ∧ New h k KP2 t2 dl) rfl ⟨⟨_, m1⟩, n2'⟩ ?_
        rintro i ⟨j, u'⟩ g2 go2 hi hc ⟨⟨xs, m2⟩, n3⟩ hgo2
        dsimp only at hc; subst hc
        refine ⟨fun e => ?_, fun e => ?_⟩
        · have e : (i : Int) < (t.len : Int) := of_decide_eq_true e
          refine ⟨⟨by omega, e⟩, m2.set (i := (i : Int)) (by omega) e rfl (sz := 2) rfl fun g3 m3 x3 => ?_⟩
          exact hgo2 (by omega) _ _ (by show w64 ((i : Int) + 1) = _; rw [w64_of] <;> omega) ⟨⟨_, m3⟩, n3.ext x3 (fun z p q => ap1 z q p) m2.new⟩
        · refine i2 n3.arr (fun ok t5 g5 n5 => ?_) fun no => ?_
          · refine hQ d _ g5 (n3.le.trans n5.le) fun F hF => ?_
            rw [d1 ok]
            refine ⟨dl, restD base w v dl, _, rfl, rfl, RelP.rest ok hb hd, n5.arr, fun x hx => ⟨n5.own.live x hx, fun q => hF x q ?_⟩⟩
            exact n3.le.none (n5.new x hx)
          · refine hQ d _ g2 n3.le fun F hF => ?_
            rw [d0 no]
            exact ElP.dead (.inl rfl) rfl
      exact i1 cut (fun ok => rest _ (fun _ => rfl) (fun z => absurd ok z)) fun no => rest _ (fun z => absurd z no) (fun _ => rfl)
  · refine i3 (fun r => i4 (fun _ => hQ _ _ h (fun _ _ e => e) fun F _ => ElP.none (RelP.wake r hb)) fun z => absurd r z) fun r => i4 (fun z => absurd z r) fun _ => hQ _ _ h (fun _ _ e => e) fun F _ => dead F
  · refine i5 (fun w1 w2 => i6 (fun _ _ => hQ _ _ h (fun _ _ e => e) fun F _ => ElP.none (RelP.peek w1 w2 hb)) fun z => absurd ⟨w1, w2⟩ z) fun r => i6 (fun w1 w2 => absurd ⟨w1, w2⟩ r) fun _ => hQ _ _ h (fun _ _ e => e) fun F _ => dead F
  · refine i7 (fun r => i8 (fun _ => hQ _ _ h (fun _ _ e => e) fun F _ => ElP.none (RelP.fin r hb)) fun z => absurd r z) fun r => i8 (fun z => absurd z r) fun _ => hQ _ _ h (fun _ _ e => e) fun F _ => dead F
  · exact i9 (hQ _ _ h (fun _ _ e => e) fun F _ => dead F)
end
section
variable {c1 : Int → Int → Heap → (Int → Heap → Prop) → Prop} {c2 : Int → Sl → Heap → ((Option Addr × (Bool × Unit)) → Heap → Prop) → Prop} {c3 : Den KMv → Int → Int → Sl → Heap → ((Den KPOp × (Den KR9 × Unit)) → Heap → Prop) → Prop} {c4 : Option Addr → Int → Heap → (Unit → Heap → Prop) → Prop} {c5 : Value → Den KPOp → Heap → (Den KPOp → Heap → Prop) → Prop}
  {c6 : Option Addr → Den KR9 → Heap → (Den KR9 → Heap → Prop) → Prop} {c7 : Heap → (Den KR9 → Heap → Prop) → Prop} {c8 : Int → Heap → ((Option Addr × (Int × Unit)) → Heap → Prop) → Prop} {c9 : Den KPOp → Heap → (Den KP2 → Heap → Prop) → Prop} {c10 : Den KR9 → Heap → (Den KP2 → Heap → Prop) → Prop}
  {c11 : Den KPOp → Heap → (Bool → Heap → Prop) → Prop} {c12 : Den KR9 → Heap → (Bool → Heap → Prop) → Prop} {d1 d3 : Option Addr → Heap → (Sl → Heap → Prop) → Prop} {d2 d4 : Sl → Sl → Heap → (Bool → Heap → Prop) → Prop}
end
end Go.Mx
