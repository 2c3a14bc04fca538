/-
  ParkSteps: machines alone on a fresh lot: the walk.
-/
import Derived.Test.YtndhbkhhehleaaaMxPo
set_option linter.unusedVariables false
set_option linter.unusedSimpArgs false
set_option linter.unusedSectionVars false
namespace Go.Mx

theorem AS.Fit.stepP {s : AS} {n : Nat} (ft : s.Fit n) (o : POp) : (Go.Mx.stepP s o).1.Fit (n + 1) := by
  unfold Go.Mx.stepP
  refine pif (P := fun y : AS × POp => y.1.Fit (n + 1)) (fun _ => ⟨Nat.le_succ_of_le ft.lg, ft.cs, ft.sz⟩) fun _ => pif (P := fun y : AS × POp => y.1.Fit (n + 1)) (fun _ => ⟨Nat.le_succ_of_le ft.lg, ft.cs, ft.sz⟩) fun _ => pif (P := fun y : AS × POp => y.1.Fit (n + 1)) (fun _ => (ft.step o.look).1) fun _ => ?_
  split <;> exact (ft.actA o.st.req).1
theorem RelP.run {ds : List (Den KP2)} {o : POp} {r : R9} (R : RelP ds o r) (m : AS) : ∀ n, ∃ r', RelP ds (runP n (m, o)).2 r'
  | 0 => ⟨r, R⟩
  | n + 1 => by
    obtain ⟨r', R'⟩ := RelP.run R m n
    exact ⟨_, (R'.step _).2⟩
theorem AS.Fit.run {s : AS} {k : Nat} (ft : s.Fit k) (o : POp) : ∀ n, (runP n (s, o)).1.Fit (k + n)
  | 0 => ft
  | n + 1 => (AS.Fit.run ft o n).stepP _
def POp.flat (o : POp) : PFlat := (o.st.base, (o.st.workers, (o.st.self, (o.st.kind, (o.st.at_, (o.st.k, (o.st.then_, (o.st.code, (o.st.value, (o.ds, (o.look.kind, (o.look.pc, (o.look.base, (o.look.most, (o.look.v, (o.look.t, (o.look.b, (o.look.a, (o.look.c, (o.look.a2, (o.look.c2, (o.look.i, (o.look.x, (o.look.won, (o.look.code, (o.look.value, ()))))))))))))))))))))))))))
/-! ### a deque and a lot in a memory with room -/
abbrev MemAll (T : TypeId) (cL : Value → Int → Heap → (Den KP2 → Heap → Prop) → Prop) (cR : Value → Int → Heap → (Den KP2 → Heap → Prop) → Prop) (cS : Value → Int → Int → Heap → (Int → Heap → Prop) → Prop) (cC : Value → Int → Int → Int → Heap → ((Bool × (Int × Unit)) → Heap → Prop) → Prop) (cN : Value → Prop) : Prop :=
  ∀ {h0 h : Heap} {b : Nat} {s : AS} {S : Nat → Prop}, RA h0 b s S h → s.lg.length ≤ 1000000000 → (s.cs.length : Int) ≤ s.sz → s.sz ≤ 1048576 → MemT arenaI (RA h0 b) (.iface T (.pointer (some (ptr b)))) cL cR cS cC cN s S h
theorem rs_some {m : AS} {n : Int} (h1 : 1 ≤ n) (h2 : (m.cs.length : Int) + n ≤ m.sz) : arenaI m (.rs n) = (some (m.cs.length : Int), AS.log { m with cs := m.cs ++ List.replicate n.toNat 0 } (m.who, (4, ((m.cs.length : Int), (n, (0, (true, ()))))))) := by
  show (if n < 1 then _ else if m.sz - (m.cs.length : Int) < n then _ else _) = _
  rw [if_neg (by omega), if_neg (by omega)]
theorem st_some {m : AS} {a v : Int} (h0 : 0 ≤ a) (h1 : a < (m.cs.length : Int)) : arenaI m (.st a v) = (some 0, AS.log { m with cs := m.cs.set a.toNat v } (m.who, (1, (a, (v, (0, (true, ()))))))) := if_pos ⟨h0, h1⟩
theorem st_len (m : AS) (a v : Int) : (arenaI m (.st a v)).2.cs.length = m.cs.length ∧ (arenaI m (.st a v)).2.sz = m.sz :=
  pif (P := fun p : Option Int × AS => p.2.cs.length = m.cs.length ∧ p.2.sz = m.sz) (fun _ => ⟨List.length_set, rfl⟩) fun _ => ⟨rfl, rfl⟩
theorem layD_len {m : AS} (h : (m.cs.length : Int) + 5 ≤ m.sz) : ((layD m).cs.length : Int) = (m.cs.length : Int) + 5 ∧ (layD m).sz = m.sz := by
  unfold layD
  rw [(st_len _ _ _).1, (st_len _ _ _).1, (st_len _ _ _).2, (st_len _ _ _).2, rs_some (by decide) h]
  refine ⟨?_, rfl⟩
  show ((m.cs ++ List.replicate (5 : Int).toNat 0).length : Int) = _
  rw [List.length_append, List.length_replicate]; omega
theorem layD_fit {m : AS} {n : Nat} (f : m.Fit n) : (layD m).Fit (n + 3) := ((((f.act _).1).act _).1.act _).1
theorem layN_len {m : AS} : ∀ n : Nat, (m.cs.length : Int) + 5 * (n : Int) ≤ m.sz → ((layN n m).1.cs.length : Int) = (m.cs.length : Int) + 5 * (n : Int) ∧ (layN n m).1.sz = m.sz ∧ (layN n m).2.length = n ∧ ∀ x ∈ (layN n m).2, (x.2.1 : Int) = 1 ∧ 0 ≤ (x.1 : Int) ∧ (x.1 : Int) ≤ (m.cs.length : Int) + 5 * (n : Int)
  | 0, h => ⟨by show (m.cs.length : Int) = _; omega, rfl, rfl, fun x hx => by cases hx⟩
  | n + 1, h => by
    obtain ⟨h1, h2, h3, h4⟩ := layN_len (m := m) n (by omega)
    obtain ⟨g1, g2⟩ := layD_len (m := (layN n m).1) (by rw [h1, h2]; omega)
    refine ⟨by show ((layD (layN n m).1).cs.length : Int) = _; rw [g1, h1]; omega, by show (layD (layN n m).1).sz = _; rw [g2, h2], by show ((layN n m).2 ++ [_]).length = _; rw [List.length_append, h3]; rfl, fun x hx => ?_⟩
    rcases List.mem_append.1 (show x ∈ (layN n m).2 ++ [(((layN n m).1.cs.length : Int), ((1 : Int), ()))] from hx) with hx | hx
    · obtain ⟨a, b, c⟩ := h4 x hx
      exact ⟨a, b, Int.le_trans c (by omega)⟩
    · rw [List.mem_singleton] at hx
      subst hx
      exact ⟨rfl, by show (0 : Int) ≤ ((layN n m).1.cs.length : Int); omega, by show ((layN n m).1.cs.length : Int) ≤ _; omega⟩
theorem layN_fit {m : AS} {k : Nat} (f : m.Fit k) : ∀ n, (layN n m).1.Fit (k + 3 * n)
  | 0 => f
  | n + 1 => layD_fit (layN_fit f n)
def LayC (T : TypeId) (c : Value → Int → Int → Heap → ((Den KP2 × (Int × Unit)) → Heap → Prop) → Prop) : Prop := ∀ {h0 h : Heap} {b : Nat} {m : AS} {S : Nat → Prop} {n : Nat} {Q : (Den KP2 × (Int × Unit)) → Heap → Prop}, RA h0 b m S h → m.Fit n → n ≤ 1000000 → (m.cs.length : Int) + 5 ≤ m.sz →
  (∀ S' h', RA h0 b (layD m) S' h' → Step S S' h h' → Q (((m.cs.length : Int), ((1 : Int), ())), (0, ())) h') → c (.iface T (.pointer (some (ptr b)))) 1 1 h Q
theorem lay_spec {T : TypeId} {cL cR cS cC cN} (k : MemAll T cL cR cS cC cN) {c1 : Int → Int → Heap → (Bool → Heap → Prop) → Prop} (i1 : ∀ {a b h Q}, deque_capsOK.M a b h Q → c1 a b h Q) : LayC T (deque_New.M c1 cR cS) := by
  intro h0 h b m S n Q ra ft hn hr hQ
  have hsz := ft.sz
  have hcs := ft.cs
  refine ⟨trivial, fun e => (by cases e), fun _ => i1 ⟨fun _ => ⟨fun _ => ⟨fun e => (by cases e), fun _ => ?_⟩, fun e => (by cases e)⟩, fun e => (by cases e)⟩⟩
  rw [show w64 (4 + 1) = 5 by decide]
  have e1 := rs_some (m := m) (n := 5) (by decide) (by omega)
  refine (k ra (by have := ft.lg; omega) hcs hsz).reserve fun g e S1 h1 hg ra1 st1 => ?_
  have hg := hg.resolve_right fun q => by rw [e1] at q; cases q.1
  obtain ⟨hg1, rfl⟩ := hg
  obtain rfl : (m.cs.length : Int) = g := by rw [e1] at hg1; exact Option.some.inj hg1
  refine ⟨fun e => absurd rfl (of_decide_eq_true e), fun _ => ?_⟩
  have f1 := (ft.act (.rs 5)).1
  have l1 : ((arenaI m (.rs 5)).2.cs.length : Int) = (m.cs.length : Int) + 5 := by
    rw [e1]; show ((m.cs ++ List.replicate (5 : Int).toNat 0).length : Int) = _
    rw [List.length_append, List.length_replicate]; omega
  unfold layD at hQ
  generalize hm1 : (arenaI m (.rs 5)).2 = m1 at *
  show cS _ (w64 ((m.cs.length : Int) + 2)) (w64 ((m.cs.length : Int) + 3)) h1 _
  rw [w64_of (x := (m.cs.length : Int) + 2) (by omega) (by omega), w64_of (x := (m.cs.length : Int) + 3) (by omega) (by omega)]
  have e2 := st_some (m := m1) (a := (m.cs.length : Int) + 2) (v := (m.cs.length : Int) + 3) (by omega) (by omega)
  refine (k ra1 (by have := f1.lg; omega) f1.cs f1.sz).store fun er S2 h2 hg ra2 st2 => ?_
  have hg := hg.resolve_right fun q => by rw [e2] at q; cases q.1
  obtain ⟨_, rfl⟩ := hg
  refine ⟨fun e => absurd rfl (of_decide_eq_true e), fun _ => ?_⟩
  have f2 := (f1.act (.st ((m.cs.length : Int) + 2) ((m.cs.length : Int) + 3))).1
  have l2 : ((arenaI m1 (.st ((m.cs.length : Int) + 2) ((m.cs.length : Int) + 3))).2.cs.length : Int) = (m.cs.length : Int) + 5 := by
    rw [e2]; show ((m1.cs.set _ _).length : Int) = _
    rw [List.length_set]; exact l1
  generalize hm2 : (arenaI m1 (.st ((m.cs.length : Int) + 2) ((m.cs.length : Int) + 3))).2 = m2 at *
  have e3 := st_some (m := m2) (a := (m.cs.length : Int) + 3) (v := 1) (by omega) (by omega)
  refine (k ra2 (by have := f2.lg; omega) f2.cs f2.sz).store fun er S3 h3 hg ra3 st3 => ?_
  have hg := hg.resolve_right fun q => by rw [e3] at q; cases q.1
  obtain ⟨_, rfl⟩ := hg
  exact ⟨fun e => absurd rfl (of_decide_eq_true e), fun _ => hQ S3 h3 ra3 ((st1.trans st2).trans st3)⟩
def LotC (T : TypeId) (c : Value → Int → Heap → ((Den KP2 × (Int × Unit)) → Heap → Prop) → Prop) : Prop := ∀ {h0 h : Heap} {b p : Nat} {sz : Int} {S : Nat → Prop} {Q : (Den KP2 × (Int × Unit)) → Heap → Prop}, RA h0 b ⟨sz, [], [], 0, false⟩ S h → 1 ≤ p → p ≤ 64 → 2 + (p : Int) ≤ sz → sz ≤ 1048576 →
  (∀ S' h', RA h0 b (arenaI ⟨sz, [], [], 0, false⟩ (.rs (2 + (p : Int)))).2 S' h' → Step S S' h h' → Q (((0 : Int), ((p : Int), ())), (0, ())) h') → c (.iface T (.pointer (some (ptr b)))) (p : Int) h Q
theorem lot_spec {T : TypeId} {cL cR cS cC cN} (k : MemAll T cL cR cS cC cN) (hN : ∀ b, cN (Value.func (.method "Reserve") (List.toArray [Kd.val .iface (.iface T (.pointer (some (ptr b))))]) (List.toArray []))) {cc} (iC : PCellsC cc) : LotC T (park_New.M cc cR cN) := by
  intro h0 h b p sz S Q ra p1 p2 hs hz hQ
  refine ⟨trivial, fun e => (by cases e), fun _ => iC (fun q => absurd ⟨by omega, by omega⟩ q) fun _ _ => ⟨fun e => ?_, fun _ => ⟨hN b, iC (fun q => absurd ⟨by omega, by omega⟩ q) fun _ _ => ?_⟩⟩⟩
  · have e : (2 : Int) + (p : Int) = 0 := of_decide_eq_true e
    omega
  · have e1 := rs_some (m := ⟨sz, [], [], 0, false⟩) (n := 2 + (p : Int)) (by omega) (by simp; omega)
    refine (k ra (by simp) (by simp; omega) hz).reserve fun g e S1 h1 hg ra1 st1 => ?_
    have hg := hg.resolve_right fun q => by rw [e1] at q; cases q.1
    obtain ⟨hg1, rfl⟩ := hg
    obtain rfl : (0 : Int) = g := by rw [e1] at hg1; exact Option.some.inj hg1
    exact ⟨fun e => absurd rfl (of_decide_eq_true e), fun _ => hQ S1 h1 ra1 st1⟩

section
variable {T : TypeId} {c1 : Int → Heap → (Int → Heap → Prop) → Prop} {c2 : Int → Int → Heap → (Int → Heap → Prop) → Prop} {c3 : Int → Heap → ((Option Addr × (Int × Unit)) → Heap → Prop) → Prop} {c4 : Value → Int → Heap → ((Den KP2 × (Int × Unit)) → Heap → Prop) → Prop} {c5 : Value → Int → Int → Heap → ((Den KP2 × (Int × Unit)) → Heap → Prop) → Prop}
  {c6 : Den KP2 → Int → Sl → Heap → (Den KPOp → Heap → Prop) → Prop} {c7 : Den KPOp → Heap → (Bool → Heap → Prop) → Prop} {c8 : Value → Den KPOp → Heap → (Den KPOp → Heap → Prop) → Prop} {c9 : Den KP2 → Int → Heap → (Den KPOp → Heap → Prop) → Prop} {c10 : Den KPOp → Heap → (Den KP2 → Heap → Prop) → Prop}
def NewN (c : Int → Heap → ((Option Addr × (Int × Unit)) → Heap → Prop) → Prop) : Prop := ∀ {n : Int} {h : Heap} {Q : (Option Addr × (Int × Unit)) → Heap → Prop}, 0 ≤ n → n ≤ 1048576 → (∀ b S h', RA h b ⟨n, [], [], 0, false⟩ S h' → Q (some (ptr b), (0, ())) h') → c n h Q
theorem alone_spec {p : Nat} (p1 : 1 ≤ p) (p2 : p ≤ 8) (i1 : PCellsC c1) (i2 : ∀ {h : Heap} {Q : Int → Heap → Prop}, Q 5 h → c2 1 1 h Q) (i3 : NewN c3) (i4 : LotC 25 c4) (i5 : LayC 25 c5) (i6 : PRestC c6) (i7 : PParkC c7) (i8 : StepPC 25 c8) (i9 : PBegC RightP (fun b w s => (wakeD b w s).den) c9) (i10 : PAnsC c10)
    {h : Heap} {Q : Bool → Heap → Prop} (hQ : ∀ h', le h h' → Q true h') : law9_alone.M c1 c2 c3 c4 c5 c6 c7 c8 c9 c10 (p : Int) h Q := by
  have AB : aloneB p = true := by
    have := aloneB_all ⟨p - 1, by omega⟩
    rw [show (⟨p - 1, by omega⟩ : Fin 8).val + 1 = p by show p - 1 + 1 = p; omega] at this
    exact this
  unfold aloneB at AB
  simp only [Bool.and_eq_true, List.all_eq_true, List.mem_range, Bool.not_eq_true'] at AB
  obtain ⟨⟨A1, A2⟩, A3⟩ := AB
  refine i1 (fun q => absurd ⟨by omega, by omega⟩ q) fun _ _ => i2 ?_
  rw [show w64 ((p : Int) * 5) = (p : Int) * 5 by rw [w64_of] <;> omega, show w64 (2 + (p : Int) + (p : Int) * 5) = 2 + (p : Int) + (p : Int) * 5 by rw [w64_of] <;> omega]
  refine i3 (by omega) (by omega) fun b S0 h1 ra1 => ⟨fun e => absurd rfl (of_decide_eq_true e), fun _ => i4 ra1 p1 (by omega) (by omega) (by omega) fun S1 h2 ra2 st2 => ⟨fun e => absurd rfl (of_decide_eq_true e), fun _ => ?_⟩⟩
  have f0 : AS.Fit ⟨2 + (p : Int) + (p : Int) * 5, [], [], 0, false⟩ 0 := ⟨by simp, by simp; omega, by show (2 : Int) + (p : Int) + (p : Int) * 5 ≤ _; omega⟩
  have fl : (lot0 p).Fit 1 := (f0.act _).1
  have ll : ((lot0 p).cs.length : Int) = 2 + (p : Int) ∧ (lot0 p).sz = 2 + (p : Int) + (p : Int) * 5 := by
    unfold lot0
    rw [rs_some (by omega) (by simp; omega)]
    refine ⟨?_, rfl⟩
    show ((([] : List Int) ++ List.replicate (2 + (p : Int)).toNat 0).length : Int) = _
    rw [List.nil_append, List.length_replicate]; omega
  have LN := fun (n : Nat) (hn : n ≤ p) => layN_len (m := lot0 p) n (by rw [ll.1, ll.2]; omega)
  have lh2 : le h h2 := ra2.le
  refine Loop.up p (fun s => s.2.1) (fun i s k => ∃ S, RA h b (layN i (lot0 p)).1 S k ∧ New h k KP2 s.1 (layN i (lot0 p)).2 ∧ ∀ x, blkOf s.1 x → ¬ S x) rfl ⟨S1, ra2, (New.nil h2 KP2).base lh2, fun x q => absurd q no_blkM⟩ ?_
  rintro i ⟨sl, j, u⟩ k go hi hc ⟨S, ra, nw, ds⟩ hgo
  dsimp only at hc; subst hc
  obtain ⟨L1, L2, L3, L4⟩ := LN i hi
  refine ⟨fun e => ?_, fun e => ?_⟩
  · have e : (i : Int) < (p : Int) := of_decide_eq_true e
    have hl := nw.len
    refine i5 ra (layN_fit fl i) (by omega) (by rw [L1, L2, ll.1, ll.2]; omega) fun S2 k2 ra' st => ⟨fun e => absurd rfl (of_decide_eq_true e), fun _ => ?_⟩
    have nw2 := nw.ext st.1 ds (fun x hx => ra.fresh hx)
    have ds2 : ∀ x, blkOf sl x → ¬ S2 x := st.off (T := blkOf sl) ds (fun x q => nw.own.live x q)
    refine nw2.app3 (x := (((layN i (lot0 p)).1.cs.length : Int), ((1 : Int), ()))) rfl rfl (by dsimp only at hl ⊢; omega) fun t k3 nw3 x3 b3 => ?_
    refine hgo (by omega) _ _ (by show w64 ((i : Int) + 1) = _; rw [w64_of] <;> omega) ⟨S2, ra'.ext x3 (fun x q r => ds2 x r q) nw2.new, nw3, fun x q r => ?_⟩
    rcases b3 x q with c | c
    · exact ds2 x c r
    · exact ra'.live r c
  · have e : ¬ (i : Int) < (p : Int) := of_decide_eq_false e
    obtain rfl : i = p := by omega
    rw [show w64 ((i : Int) - 1) = (i : Int) - 1 by rw [w64_of] <;> omega]
    have rok : RestOk (i : Int) ((i : Int) - 1) (layN i (lot0 i)).2 := ⟨⟨by omega, by omega, by omega, by omega⟩, by rw [L3], fun j x hx _ => by
      rw [(L4 x (List.mem_of_getElem? hx)).1]; decide⟩
    refine i6 nw.arr (fun _ => ?_) fun no => absurd rok no
    have R0 : RelP (layN i (lot0 i)).2 (al1 i).2 ⟨1, (i : Int) - 1, 0, 0, 0, (i : Int), Sl.none, 0, 0, 0⟩ := RelP.rest rok .z fun x hx => .of (Int.le_trans (by decide) (L4 x hx).2.1) (Int.lt_of_le_of_lt (L4 x hx).2.2 (by have h4 := ll.1; omega))
    have F1 : (al1 i).1.Fit (1 + 3 * i) := layN_fit fl i
    have ew : w64 (w64 (2 * (i : Int)) + 1) = ((2 * i + 1 : Nat) : Int) := by rw [w64_of (x := 2 * (i : Int)) (by omega) (by omega), w64_of (by omega) (by omega)]; omega
    refine Loop.up (2 * i + 1) (fun s => s.1) (fun n s k => s.2.1 = (runP n (al1 i)).2.flat ∧ ∃ S, RA h b (runP n (al1 i)).1 S k) rfl ⟨rfl, S, ra⟩ ?_
    rintro n ⟨j, Y, u2⟩ k2 go2 hn hc ⟨hY, S2, ra2⟩ hgo2
    dsimp only at hc hY; subst hc; subst hY
    obtain ⟨r1, R1⟩ := R0.run (al1 i).1 n
    have Fn : (runP n (al1 i)).1.Fit (1 + 3 * i + n) := F1.run _ n
    refine ⟨fun e => ?_, fun e => ?_⟩
    · have e : (n : Int) < w64 (w64 (2 * (i : Int)) + 1) := of_decide_eq_true e
      rw [ew] at e
      refine i7 (o := (runP n (al1 i)).2) ?_
      rw [A1 n (by omega)]
      refine ⟨fun e => (by cases e), fun _ => i8 (o := (runP n (al1 i)).2) ra2 Fn (by omega) R1.safe fun S3 k3 ra3 st3 => ?_⟩
      exact hgo2 (by omega) _ _ (by show w64 ((n : Int) + 1) = _; rw [w64_of] <;> omega) ⟨rfl, S3, ra3⟩
    · have e : ¬ (n : Int) < w64 (w64 (2 * (i : Int)) + 1) := of_decide_eq_false e
      rw [ew] at e
      obtain rfl : n = 2 * i + 1 := by omega
      refine i7 (o := (runP (2 * i + 1) (al1 i)).2) ?_
      have A2' : (runP (2 * i + 1) (al1 i)).2.parked = true := A2
      rw [A2']
      refine ⟨fun e => (by cases e), fun _ => i9 (w := (i : Int)) (self := 0) (fun _ => ?_) fun no => absurd ⟨by omega, by omega, Int.le_refl 0, by omega⟩ no⟩
      have W0 : RelP [] (wakeD 0 (i : Int) 0) ⟨9, 0, 0, 0, 0, (i : Int), Sl.none, 0, 0, 0⟩ := RelP.wake ⟨by omega, by omega, Int.le_refl 0, by omega⟩ .z
      have ew2 : w64 ((i : Int) + 1) = ((i + 1 : Nat) : Int) := by rw [w64_of (by omega) (by omega)]; omega
      refine Loop.up (i + 1) (fun s => s.1) (fun n s k => s.2.1 = (runP n ((al2 i).1, wakeD 0 (i : Int) 0)).2.flat ∧ ∃ S, RA h b (runP n ((al2 i).1, wakeD 0 (i : Int) 0)).1 S k) rfl ⟨rfl, S2, ra2⟩ ?_
      rintro n ⟨j, Y, u3⟩ k3 go3 hn3 hc3 ⟨hY, S3, ra3⟩ hgo3
      dsimp only at hc3 hY; subst hc3; subst hY
      obtain ⟨r2, R2⟩ := W0.run (al2 i).1 n
      have Fn2 : (runP n ((al2 i).1, wakeD 0 (i : Int) 0)).1.Fit (1 + 3 * i + (2 * i + 1) + n) := Fn.run _ n
      refine ⟨fun e => ?_, fun e => ?_⟩
      · have e : (n : Int) < w64 ((i : Int) + 1) := of_decide_eq_true e
        rw [ew2] at e
        refine i8 (o := (runP n ((al2 i).1, wakeD 0 (i : Int) 0)).2) ra3 Fn2 (by omega) R2.safe fun S4 k4 ra4 st4 => ?_
        exact hgo3 (by omega) _ _ (by show w64 ((n : Int) + 1) = _; rw [w64_of] <;> omega) ⟨rfl, S4, ra4⟩
      · have e : ¬ (n : Int) < w64 ((i : Int) + 1) := of_decide_eq_false e
        rw [ew2] at e
        obtain rfl : n = i + 1 := by omega
        have lk : le h k3 := ra3.le
        refine i10 (o := (al3 i).2) ⟨fun e => ?_, fun e => ?_⟩
        · have e : (i : Int) = 1 := of_decide_eq_true e
          rw [if_pos (by omega)] at A3
          show Q (decide ((al3 i).2.answer.1 = 19)) k3
          rw [A3]
          exact hQ k3 lk
        · have e : ¬ (i : Int) = 1 := of_decide_eq_false e
          rw [if_neg (by omega)] at A3
          simp only [Bool.and_eq_true, decide_eq_true_eq, Bool.not_eq_true'] at A3
          obtain ⟨⟨⟨B1, B2⟩, B3⟩, B4⟩ := A3
          refine i8 (o := (al2 i).2) ra3 Fn2 (by omega) R1.safe fun S5 k5 ra5 st5 => i10 (o := (al4 i).2) ?_
          have lk5 : le h k5 := ra5.le
          rw [show w64 ((i : Int) - 1) = (i : Int) - 1 by rw [w64_of] <;> omega]
          refine ⟨fun _ => ⟨fun _ => ⟨fun _ => i7 (o := (al4 i).2) ?_, fun q => absurd B3 (of_decide_eq_false q)⟩, fun q => absurd B2 (of_decide_eq_false q)⟩, fun q => absurd B1 (of_decide_eq_false q)⟩
          rw [B4]
          exact hQ k5 lk5
end
theorem cells11_spec {c1 : Int → Int → Heap → (Bool → Heap → Prop) → Prop} (i1 : ∀ {a b h Q}, deque_capsOK.M a b h Q → c1 a b h Q) {h : Heap} {Q : Int → Heap → Prop} (hQ : Q 5 h) : deque_Cells.M c1 1 1 h Q := by
  refine i1 ⟨fun _ => ⟨fun _ => ⟨fun e => (by cases e), fun _ => ?_⟩, fun e => (by cases e)⟩, fun e => (by cases e)⟩
  refine ⟨fun s k => s = (5, (1, ())) ∧ k = h, fun _ _ => 0, ⟨rfl, rfl⟩, ?_⟩
  rintro s k ⟨rfl, rfl⟩
  exact ⟨fun e => absurd (of_decide_eq_true e) (by decide), fun _ => hQ⟩
end Go.Mx
