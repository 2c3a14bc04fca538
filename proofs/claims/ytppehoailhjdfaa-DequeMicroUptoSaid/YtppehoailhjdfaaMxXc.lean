/-
  DequeMicro: the law.
-/
import Derived.Test.YtppehoailhjdfaaMxXb
import Derived.Test.YtppehoailhjdfaaMxV
set_option linter.unusedVariables false
set_option linter.unusedSimpArgs false
set_option linter.unusedSectionVars false
namespace Go.Mx

theorem New.litN {h : Heap} {k : Kd} {l : List (Den k)} {K : Addr → Heap → Prop} (hK : ∀ b h', h b = none → New h h' k ⟨some (ptr b), l.length, l.length⟩ l → K (ptr b) h') : Go.Mx.new h (l.flatMap k.cells) K := by
  intro b hb
  refine hK b _ hb ⟨.inr ⟨b, rfl, Nat.le_refl _, Nat.le_refl _, [], by simp, by rw [upd_same]; simp⟩, rfl, le_upd hb _, ?_⟩
  rintro q ⟨a, e, rfl⟩
  cases e
  exact hb
section
variable {c1 : Int → Int → Heap → (Int → Heap → Prop) → Prop} {c2 : Int → Sl → Heap → ((Option Addr × (Bool × Unit)) → Heap → Prop) → Prop} {c3 : Den KMv → Int → Int → Heap → ((Den KOp × (Den KRo × Unit)) → Heap → Prop) → Prop} {c4 : Option Addr → Int → Heap → (Unit → Heap → Prop) → Prop} {c5 : Value → Den KOp → Heap → (Den KOp → Heap → Prop) → Prop}
  {c6 : Option Addr → Den KRo → Heap → (Den KRo → Heap → Prop) → Prop} {c7 : Den KRo → Heap → (Wn → Heap → Prop) → Prop} {c8 : Int → Heap → ((Option Addr × (Int × Unit)) → Heap → Prop) → Prop} {c9 : Den KOp → Heap → (Den KP2 → Heap → Prop) → Prop} {c10 : Den KRo → Heap → (Den KP2 → Heap → Prop) → Prop}
  {d1 d3 : Option Addr → Heap → (Sl → Heap → Prop) → Prop} {d2 d4 : Sl → Sl → Heap → (Bool → Heap → Prop) → Prop}
theorem micro_spec {size base most : Int} {bg mv : Sl} {h : Heap} {bs : List Int} {ms : List (Den KMv)} (hbg : Arr h ki bg bs) (hbr : ∀ x ∈ bs, I64 x) (hbl : bs.length ≤ 1048576) (hmv : Arr h KMv mv ms) (hml : ms.length ≤ 1048576) (hmr : ∀ x ∈ ms, I64 x.2.2.1) (hb64 : I64 base)
    (i1 : ModM c1) (i2 : ArenaM c2) (i3 : BornM base most c3) (iW : WhoM c4) (iS : StepM 24 c5) (iD : DarkM c5) (i6 : RStepC c6) (i7 : RNextC c7) (i8 : NewM c8) (iA : AnswM c9) (iR : RAnsC c10) (j1 : OutM ki AS.cs d1) (j2 : SameM ki d2) (j3 : OutM KAcc AS.lg d3) (j4 : SameM KAcc d4)
    {Q : Bool → Heap → Prop} (hQ : ∀ h', le h h' → Q true h') : law3_DequeMicro.M c1 c2 c3 c4 c5 c6 c7 c8 c9 c10 d1 d2 d3 d4 size bg base most mv h Q := by
  have hbl0 := hbg.1
  have hml0 := hmv.1
  -- the end of it and each move
  have loop : ∀ (sz : Int) (s : Sl) (bA bM bR : Nat) (m0 : AS) (S0 S0' : Nat → Prop) (es0 : List (Den KRo)) (k : Heap), MicI h bA bM ⟨some (ptr bR), 4, 4⟩ 0 m0 m0 (fun _ => DOp.zero.den) S0 S0' es0 k →
      Loop (law3_DequeMicro.l5 c1 c3 c4 c5 c6 c7 c8 c9 c10 d1 d2 d3 d4 Q (sz, (s, (base, (most, (mv, ()))))) (some (ptr bA), (true, ())) (ptr bM) (ptr bR)) (0, ((fun _ => DOp.zero.den, ()), ())) k := by
    intro sz s bA bM bR m0 S0 S0' es0 k o0
    refine Loop.up ms.length (fun s => s.1) (fun i s k => ∃ m f S S' es, s.2 = ((f, ()), ()) ∧ MicI h bA bM ⟨some (ptr bR), 4, 4⟩ (2 * i) m m f S S' es k) rfl ⟨m0, _, S0, S0', es0, rfl, o0⟩ ?_
    rintro i ⟨j, u⟩ k go hi hc ⟨m, f, S, S', es, rfl, o⟩ hgo
    dsimp only at hc; subst hc
    refine ⟨fun q => ?_, fun q => ?_⟩
    · have q : (i : Int) < (mv.len : Int) := of_decide_eq_true q
      have q' : i < ms.length := by omega
      obtain ⟨a, ha⟩ := hmv.addr (by omega)
      have hw : ms[i]? = some ms[i] := List.getElem?_eq_getElem q'
      have hwr := hmr _ (List.getElem_mem q')
      generalize ms[i] = w at hw hwr
      refine ⟨⟨by omega, q⟩, ?_⟩
      show deref mv.a _
      rw [ha, Int.toNat_natCast]
      refine deref_some3 ((hmv.le o.le).ldAt ha hw (sz := 3) rfl (i1 (by decide) (by decide) fun r r0 r4 => ?_))
      obtain ⟨r, rfl⟩ : ∃ r' : Nat, r = (r' : Int) := ⟨r.toNat, by omega⟩
      have mv' : ∀ {kk : Bool}, (kk = true → 0 ≤ (w.1 : Int) ∧ (w.1 : Int) ≤ 4) → law3_DequeMicro.j4 c3 c4 c5 c6 c7 c8 c9 c10 Q (sz, (s, (base, (most, (mv, ()))))) (some (ptr bA), (true, ())) (ptr bM) (ptr bR) go ((i : Int), ((f, ()), ())) w (r : Int) (kk, ()) k := fun hk =>
        mic_move i3 iW iS iD i6 i7 i8 iA iR (by omega) (by omega) hk hwr o fun m f S S' es h' o' => hgo q' _ _ (by show w64 ((i : Int) + 1) = _; rw [w64_of] <;> omega) ⟨m, f, S, S', es, rfl, o'⟩
      have num : ∀ {c : Int} {kk : Bool}, 0 ≤ c → c ≤ 4 → kk = decide ((w.1 : Int) = c) → kk = true → 0 ≤ (w.1 : Int) ∧ (w.1 : Int) ≤ 4 := fun {c kk} c0 c4 e hk => by
        rw [e] at hk
        have e2 : (w.1 : Int) = c := of_decide_eq_true hk
        rw [e2]; exact ⟨c0, c4⟩
      exact ⟨fun _ => mv' (num (c := 0) (by decide) (by decide) rfl), fun _ => ⟨fun _ => mv' (num (c := 1) (by decide) (by decide) rfl), fun _ => ⟨fun _ => mv' (num (c := 2) (by decide) (by decide) rfl), fun _ => ⟨fun _ => mv' (num (c := 3) (by decide) (by decide) rfl), fun _ => mv' (num (c := 4) (by decide) (by decide) rfl)⟩⟩⟩⟩
    · obtain ⟨hw, c, l, rfl, om⟩ := o.rm
      have hfl := o.fit.lg
      have hfc := o.fit.cs
      have hfz := o.fit.sz
      refine om.ld0 (j1 o.ra o.fit (by omega) fun t k1 n1 => ?_)
      have om1 := om.more n1.le
      refine ⟨ld_sees3 (om1.ld0 rfl), j2 n1.arr om1.cell.arr (by omega) ⟨fun _ => ?_, fun e => (by cases e)⟩⟩
      refine om1.ld3 (j3 (o.more n1.le (Nat.le_refl _)).ra o.fit (by omega) fun t2 k2 n2 => ?_)
      have om2 := om1.more n2.le
      refine ⟨ld_sees3 (om2.ld3 rfl), j4 n2.arr om2.log.arr (by omega) (hQ _ ?_)⟩
      exact om2.le
  have start : ∀ (sz : Int) (s : Sl) (zs : List Int), 0 ≤ sz → sz < 4097 → Arr h ki s zs → (zs.length : Int) ≤ sz → (∀ x ∈ zs, I64 x) → law3_DequeMicro.k7 c1 c2 c3 c4 c5 c6 c7 c8 c9 c10 d1 d2 d3 d4 Q (sz, (s, (base, (most, (mv, ()))))) h := by
    intro sz s zs z0 z1 az lz rz
    have hz := az.1
    refine i2 az z0 (by omega) lz fun bA SA h1 a1 => ⟨fun e => (by cases e), fun _ => ?_⟩
    refine New.mk0 fun p0 h2 n2 => ?_
    refine n2.apps ((az.le a1.le).le n2.le) rfl rfl (by show (0 + s.len) * 8 ≤ _; omega) fun t h3 n3 => ?_
    rw [List.nil_append] at n3
    refine Obj.new (k := KMem) fun bM h4 hb ob lb => ?_
    have n4 := n3.more lb
    have lA : le h1 h4 := n4.le
    have rm : RMem h bM ⟨sz, zs, [], 0, true⟩ (fpA bM t Sl.none) h4 := by
      have b1 : ¬ blkOf t bM := fun q => n3.own.live bM q hb
      refine ⟨rfl, t, Sl.none, rfl, ob, n4.base a1.le, (New.nil h4 KAcc).base (a1.le.trans lA), a1.le.none (n3.le.none hb), b1, no_blkM, fun x _ q => no_blkM q⟩
    have ra : RA h bA ⟨sz, zs, [], 0, true⟩ SA h4 := a1.ext (T := fun _ => False) lA.toExt (fun _ _ => id) (fun _ q => q.elim)
    have dis : ∀ x, SA x → ¬ fpA bM t Sl.none x := fun x q z => by
      rcases z with rfl | z | z
      · exact a1.live q (n3.le.none hb)
      · exact a1.live q (n3.new x z)
      · exact no_blkM z
    refine (New.litN (k := KRo) (l := List.replicate 4 KRo.zero) fun bR h5 hb5 n5 => ?_ : Go.Mx.new h4 ((List.replicate 4 KRo.zero).flatMap KRo.cells) _)
    have ra5 := ra.ext (T := fun _ => False) n5.le.toExt (fun _ _ => id) (fun _ q => q.elim)
    have rm5 := rm.ext (T := fun _ => False) n5.le.toExt (fun _ _ => id) (fun _ q => q.elim)
    have n5' := n5.base (a1.le.trans lA)
    have dR : ∀ x, blkOf ⟨some (ptr bR), 4, 4⟩ x → h4 x = none := n5.new
    refine Loop.up 4 (fun s => s.1) (fun i s k => le h4 k ∧ RA h bA ⟨sz, zs, [], 0, true⟩ SA k ∧ RMem h bM ⟨sz, zs, [], 0, true⟩ (fpA bM t Sl.none) k ∧ ∃ es, New h k KRo ⟨some (ptr bR), 4, 4⟩ es ∧ (∀ j, j < i → es[j]? = some (ropD 4 0 0 0 Sl.none false)) ∧ ∀ j, i ≤ j → j < 4 → es[j]? = some KRo.zero) rfl ⟨n5.le, ra5, rm5, _, n5', fun j q => absurd q (by omega), fun j _ q => by rw [List.getElem?_replicate, if_pos q]⟩ ?_
    rintro i ⟨j, u⟩ k go hi hc ⟨lk, rak, rmk, es, nk, zk, yk⟩ hgo
    dsimp only at hc; subst hc
    have e4 : es.length = 4 := nk.len
    refine ⟨fun q => ?_, fun q => ?_⟩
    · have q : (i : Int) < 4 := of_decide_eq_true q
      have q' : i < es.length := by omega
      refine ⟨⟨by omega, q⟩, ?_⟩
      rw [Int.toNat_natCast]
      refine nk.stPart rfl (yk i (Nat.le_refl _) (by omega)) (kp := ki) (y' := ropD 4 0 0 0 Sl.none false) (v := 4) (off := 0) rfl (by decide) rfl (sz := 6) rfl fun k1 n1 x1 => ?_
      have dk : ∀ x, blkOf ⟨some (ptr bR), 4, 4⟩ x → h x = none := n5'.new
      refine hgo (by omega) _ _ (by show w64 ((i : Int) + 1) = _; rw [w64_of] <;> omega) ⟨le_ext lk x1 dR, rak.ext x1 (fun x q z => ra.live q (dR x z)) dk, rmk.ext x1 (fun x q z => rm.live q (dR x z)) dk, _, n1, fun j hj => ?_, fun j hj hj4 => ?_⟩
      · by_cases c : j = i
        · subst c
          rw [List.getElem?_set_self q']
        · rw [List.getElem?_set_ne (fun z => c z.symm)]
          exact zk j (by omega)
      · rw [List.getElem?_set_ne (by omega)]
        exact yk j (by omega) hj4
    · have q : ¬ (i : Int) < 4 := of_decide_eq_false q
      refine loop sz s bA bM bR ⟨sz, zs, [], 0, true⟩ SA (fpA bM t Sl.none) es k ⟨rak, rmk, nk, e4, dis, fun x q z => ra.live z (dR x q), fun x q z => rm.live z (dR x q), ⟨Nat.zero_le _, lz, by show sz ≤ 1048576; omega⟩, rz, fun i hi e he => ?_⟩
      rw [zk i (by omega)] at he
      cases he
      exact ElM.born (.inr (.inl ⟨rfl, .inl rfl, rfl⟩)) .zero .zero (by decide)
  refine i1 (by decide) (by decide) fun sz z0 z1 => ⟨fun e => ?_, fun e => ?_⟩
  · have e : sz < (bg.len : Int) := of_decide_eq_true e
    have hcap := hbg.2.1
    refine ⟨⟨z0, by omega⟩, ?_⟩
    refine start sz _ (bs.take sz.toNat) z0 z1 (hbg.pre (by omega)) (by rw [List.length_take]; omega) (fun x hx => hbr x (List.mem_of_mem_take hx))
  · have e : ¬ sz < (bg.len : Int) := of_decide_eq_false e
    exact start sz bg bs z0 z1 hbg (by omega) hbr
end
theorem born_spec {base most : Int} (hb : I64 base) (hm : I64 most) {e1 : Den KP2 → Int → Heap → (Den KOp → Heap → Prop) → Prop} {e2 e3 e4 : Den KP2 → Heap → (Den KOp → Heap → Prop) → Prop}
    (i1 : ∀ {base most v : Int} {h : Heap} {Q : Den KOp → Heap → Prop}, Q (DOp.push base most v).den h → e1 (base, (most, ())) v h Q) (i2 : ∀ {base most : Int} {h : Heap} {Q : Den KOp → Heap → Prop}, Q (DOp.pop base most).den h → e2 (base, (most, ())) h Q)
    (i3 : ∀ {base most : Int} {h : Heap} {Q : Den KOp → Heap → Prop}, Q (DOp.steal base most).den h → e3 (base, (most, ())) h Q) (i4 : ∀ {base most : Int} {h : Heap} {Q : Den KOp → Heap → Prop}, Q (DOp.look base most).den h → e4 (base, (most, ())) h Q) : BornM base most (law3_born.M e1 e2 e3 e4) := by
  intro k s v h Q k0 k4 hv hQ
  have key : ∀ {kind pc v' : Int}, I64 v' → (pc = 1 ∨ pc = 2) → (DOp.begin kind pc base most v').most ≤ 4096 := fun {kind pc v'} _ _ => by
    unfold DOp.begin
    refine pif (P := fun o : DOp => o.most ≤ 4096) (fun _ => by decide) fun _ => pif (P := fun o : DOp => o.most ≤ 4096) (fun _ => by decide) fun b => by dsimp only; omega
  refine ⟨fun e => ?_, fun e => ⟨fun e => ?_, fun e => ⟨fun e => ?_, fun e => ⟨fun e => ?_, fun e => ?_⟩⟩⟩⟩
  · have e : k = 0 := of_decide_eq_true e
    subst e
    exact i1 (hQ (ropD 0 base most v Sl.none false) (DOp.push base most v).den fun h F n => ElM.born (RelO.born (v' := v) (by decide) (by decide) hb (fun _ => rfl)) (.begin (.inl rfl)) (.begin hm hv) (key hv (.inl rfl)))
  · have e : k = 1 := of_decide_eq_true e
    subst e
    exact i2 (hQ (ropD 1 base most v Sl.none false) (DOp.pop base most).den fun h F n => ElM.born (RelO.born (v' := 0) (by decide) (by decide) hb (fun q => absurd q (by decide))) (.begin (.inl rfl)) (.begin hm .z) (key .z (.inl rfl)))
  · have e : k = 2 := of_decide_eq_true e
    subst e
    exact i3 (hQ (ropD 2 base most v Sl.none false) (DOp.steal base most).den fun h F n => ElM.born (RelO.born (v' := 0) (by decide) (by decide) hb (fun q => absurd q (by decide))) (.begin (.inr rfl)) (.begin hm .z) (key .z (.inr rfl)))
  · have e : k = 3 := of_decide_eq_true e
    subst e
    exact i4 (hQ (ropD 3 base most v Sl.none false) (DOp.look base most).den fun h F n => ElM.born (RelO.born (v' := 0) (by decide) (by decide) hb (fun q => absurd q (by decide))) (.begin (.inr rfl)) (.begin hm .z) (key .z (.inr rfl)))
  · exact hQ (ropD 4 base most v Sl.none false) DOp.zero.den fun h F n => ElM.born (.inr (.inl ⟨rfl, .inl rfl, rfl⟩)) .zero .zero (by decide)
theorem dark_spec {c1 : OverC} {c2 : Den KOp → Value → Heap → (Den KP2 → Heap → Prop) → Prop} {c3 c4 c5 c6 : Den KOp → Int → Heap → (Den KOp → Heap → Prop) → Prop} (i1 : ∀ {o : DOp} {c v h Q}, deque_Op_over.M o.den c v h Q → c1 o.den c v h Q)
    {o : DOp} {h : Heap} {Q : Den KOp → Heap → Prop} (hQ : Q (darkD o).den h) : deque_Step.M c1 c2 c3 c4 c5 c6 .nilIface o.den h Q := by
  have hz := o.eqK_zero
  unfold darkD at hQ
  have main : o ≠ DOp.zero → o.pc ≠ 0 → deque_Step.j1 c1 c2 c3 c4 c5 c6 .nilIface o.den Q ((0, (0, (0, (0, (0, (0, (0, (0, (0, (0, (0, (0, (0, (false, (0, (0, ())))))))))))))))), ()) h := fun z p => by
    rw [if_neg z, if_neg p] at hQ
    exact ⟨trivial, fun _ => i1 (o := o) (dover_spec hQ), fun e => (by cases e)⟩
  refine ⟨fun e => ⟨fun _ => ?_, fun q => (by cases q)⟩, fun e => ?_⟩
  · have e : eqK KOp o.den DOp.zero.den = true := e
    rw [hz] at e
    rw [if_pos (of_decide_eq_true e)] at hQ
    exact hQ
  · have e : eqK KOp o.den DOp.zero.den = false := e
    rw [hz] at e
    have e := of_decide_eq_false e
    by_cases p : o.pc = 0
    · rw [if_neg e, if_pos p] at hQ
      exact ⟨fun _ => hQ, fun q => absurd p (of_decide_eq_false q)⟩
    · exact ⟨fun q => absurd (of_decide_eq_true q) p, fun _ => main e p⟩
theorem I64.wf {x : Int} (h : (Lit.int .i64 x).wf = true) : I64 x := by
  have h : IntKind.i64.min ≤ x ∧ x ≤ 9223372036854775807 := by simpa [Lit.wf] using h
  have e : IntKind.i64.min = -9223372036854775808 := by decide
  exact I64.of (by rw [← e]; exact h.1) (by have := h.2; omega)
theorem FieldsOf.three {r : TypeId → (k : Kd) → Den k → Prop} {fs : List Field} {a b c : Kd} {x : Den (.pair a (.pair b (.pair c .nil)))} (h : FieldsOf r fs (.pair a (.pair b (.pair c .nil))) x) (hl : fs.length = 3) : ∃ t, r t c x.2.2.1 := by
  match fs, hl, h with
  | [_, _, f], _, h => exact ⟨f.type, h.2.2.1⟩
def fieldN (P : Program) (T : TypeId) : Nat := match P.underlying T with
  | some (.struct fs) => fs.toList.length
  | _ => 0
theorem fieldN_of {P : Program} {T : TypeId} {fs : Array Field} (e : P.underlying T = some (.struct fs)) : fieldN P T = fs.toList.length := by unfold fieldN; rw [e]
end Go.Mx
