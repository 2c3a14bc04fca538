/-
  DequeMicro: up to four machines in any turns: the walk.
-/
import Derived.Test.YtppehoailhjdfaaMxXa
set_option linter.unusedVariables false
set_option linter.unusedSimpArgs false
set_option linter.unusedSectionVars false
namespace Go.Mx

theorem RA.le {h0 b s S h} (R : RA h0 b s S h) : Go.Mx.le h0 h := by obtain ⟨c, l, _, o⟩ := R; exact o.le
theorem RA.live {h0 b s S h} (R : RA h0 b s S h) {x : Nat} (hx : S x) : h x ≠ none := by obtain ⟨c, l, rfl, o⟩ := R; exact o.live hx
theorem RA.fresh {h0 b s S h} (R : RA h0 b s S h) {x : Nat} (hx : S x) : h0 x = none := by obtain ⟨c, l, rfl, o⟩ := R; exact o.fresh hx
theorem RA.ext {h0 b s S h h'} (R : RA h0 b s S h) {T : Nat → Prop} (e : Ext T h h') (n : ∀ x, S x → ¬ T x) (f : ∀ x, T x → h0 x = none) : RA h0 b s S h' := by
  obtain ⟨c, l, rfl, o⟩ := R; exact ⟨c, l, rfl, o.ext e n f⟩
theorem agetM {f : Fin 4 → Den KOp} {i : Nat} (hi : i < 4) : aget (n := 4) (a := KOp) f i = f ⟨i, hi⟩ := dif_pos hi
theorem no_blkM {x : Nat} : ¬ blkOf Sl.none x := fun h => by obtain ⟨a, e, _⟩ := h; cases e

/-- A machine and the reference's. -/
def ElM (h : Heap) (F : Nat → Prop) (n : Nat) (e : Den KRo) (d : Den KOp) : Prop :=
  ∃ kind base most v s dead hs o, e = ropD kind base most v s dead ∧ d = DOp.den o ∧ RelO kind base most v hs dead o ∧ o.Ok ∧ InO o ∧ o.most ≤ 4096 ∧ Arr h ki s hs ∧ (∀ x, blkOf s x → h x ≠ none ∧ ¬ F x) ∧ hs.length ≤ n
theorem ElM.step {h h' F F' n e d} (E : ElM h F n e d) (s : Step F F' h h') {n' : Nat} (hn : n ≤ n') : ElM h' F' n' e d := by
  obtain ⟨kind, base, most, v, sl, dead, hs, o, q1, q2, q3, q4, q5, q6, q7, q8, q9⟩ := E
  refine ⟨kind, base, most, v, sl, dead, hs, o, q1, q2, q3, q4, q5, q6, Arr.ext s.1 q7 (fun x p => (q8 x p).2), fun x p => ⟨fun c => (q8 x p).1 (s.1.2 x c), ?_⟩, by omega⟩
  exact s.off (T := blkOf sl) (fun x p => (q8 x p).2) (fun x p => (q8 x p).1) x p
theorem ElM.born {h : Heap} {F : Nat → Prop} {n : Nat} {kind base most v : Int} {o : DOp} (r : RelO kind base most v [] false o) (ok : o.Ok) (io : InO o) (hm : o.most ≤ 4096) : ElM h F n (ropD kind base most v Sl.none false) o.den :=
  ⟨kind, base, most, v, Sl.none, false, [], o, rfl, rfl, r, ok, io, hm, (Own.nil _ _).arr, fun x q => absurd q no_blkM, Nat.zero_le _⟩
def fpM (S S' : Nat → Prop) (rs : Sl) : Nat → Prop := fun x => S x ∨ S' x ∨ blkOf rs x
structure MicI (h0 : Heap) (bA bM : Nat) (rs : Sl) (n : Nat) (m m' : AS) (f : Fin 4 → Den KOp) (S S' : Nat → Prop) (es : List (Den KRo)) (h : Heap) : Prop where
  ra : RA h0 bA m S h
  rm : RMem h0 bM m' S' h
  rf : New h0 h KRo rs es
  n4 : es.length = 4
  d1 : ∀ x, S x → ¬ S' x
  d2 : ∀ x, blkOf rs x → ¬ S x
  d3 : ∀ x, blkOf rs x → ¬ S' x
  fit : m.Fit n
  rg : m.Rg
  el : ∀ i (hi : i < 4) e, es[i]? = some e → ElM h (fpM S S' rs) n e (f ⟨i, hi⟩)
section
variable {h0 : Heap} {bA bM : Nat} {rs : Sl} {n : Nat} {m m' : AS} {f : Fin 4 → Den KOp} {S S' : Nat → Prop} {es : List (Den KRo)} {h : Heap} (o : MicI h0 bA bM rs n m m' f S S' es h)
include o
theorem MicI.le : Go.Mx.le h0 h := o.rf.le
theorem MicI.live {x : Nat} (hx : fpM S S' rs x) : h x ≠ none := by
  rcases hx with q | q | q
  · exact o.ra.live q
  · exact o.rm.live q
  · exact o.rf.own.live x q
theorem MicI.putA {m1 : AS} {S1 : Nat → Prop} {h1 : Heap} {n1 : Nat} (a : RA h0 bA m1 S1 h1) (s : Step S S1 h h1) (hn : n ≤ n1) (ft : m1.Fit n1) (rg : m1.Rg) : MicI h0 bA bM rs n1 m1 m' f S1 S' es h1 := by
  have fr : ∀ x, S x → h0 x = none := fun x hx => o.ra.fresh hx
  have st : Step (fpM S S' rs) (fpM S1 S' rs) h h1 := ⟨s.1.mono fun x q => .inl q, fun x q => by
    rcases q with q | q | q
    · rcases s.2 x q with r | r
      · exact .inl (.inl r)
      · exact .inr r
    · exact .inl (.inr (.inl q))
    · exact .inl (.inr (.inr q))⟩
  refine ⟨a, o.rm.ext s.1 (fun x q r => o.d1 x r q) fr, o.rf.ext s.1 o.d2 fr, o.n4, ?_, ?_, o.d3, ft, rg, fun i hi e q => (o.el i hi e q).step st hn⟩
  · exact fun x q r => s.off (T := S') (fun x q r => o.d1 x r q) (fun x q => o.rm.live q) x r q
  · exact s.off (T := blkOf rs) o.d2 (fun x q => o.rf.own.live x q)
theorem MicI.putM {m1 : AS} {S1 : Nat → Prop} {h1 : Heap} (a : RMem h0 bM m1 S1 h1) (s : Step S' S1 h h1) : MicI h0 bA bM rs n m m1 f S S1 es h1 := by
  have fr : ∀ x, S' x → h0 x = none := fun x hx => o.rm.fresh hx
  have st : Step (fpM S S' rs) (fpM S S1 rs) h h1 := ⟨s.1.mono fun x q => .inr (.inl q), fun x q => by
    rcases q with q | q | q
    · exact .inl (.inl q)
    · rcases s.2 x q with r | r
      · exact .inl (.inr (.inl r))
      · exact .inr r
    · exact .inl (.inr (.inr q))⟩
  refine ⟨o.ra.ext s.1 (fun x q r => o.d1 x q r) fr, a, o.rf.ext s.1 o.d3 fr, o.n4, ?_, o.d2, ?_, o.fit, o.rg, fun i hi e q => (o.el i hi e q).step st (Nat.le_refl _)⟩
  · exact s.off (T := S) (fun x q r => o.d1 x q r) (fun x q => o.ra.live q)
  · exact s.off (T := blkOf rs) o.d3 (fun x q => o.rf.own.live x q)
theorem MicI.more {h1 : Heap} (l : Go.Mx.le h h1) {n1 : Nat} (hn : n ≤ n1) : MicI h0 bA bM rs n1 m m' f S S' es h1 := by
  have e : Ext (fun _ => False) h h1 := l.toExt
  exact ⟨o.ra.ext e (fun _ _ => id) (fun _ q => q.elim), o.rm.ext e (fun _ _ => id) (fun _ q => q.elim), o.rf.more l, o.n4, o.d1, o.d2, o.d3, ⟨by have := o.fit.lg; omega, o.fit.cs, o.fit.sz⟩, o.rg, fun i hi x q => (o.el i hi x q).step ⟨e.mono (fun _ q => q.elim), fun x q => .inl q⟩ hn⟩
/-- A machine has changed. -/
theorem MicI.putE {h1 : Heap} {r : Nat} (hr : r < 4) {e' : Den KRo} {d' : Den KOp} (a : New h0 h1 KRo rs (es.set r e')) (x : Ext (blkOf rs) h h1) (E : ElM h (fpM S S' rs) n e' d') : MicI h0 bA bM rs n m m' (aset (n := 4) (a := KOp) f r d') S S' (es.set r e') h1 := by
  have st : Step (fpM S S' rs) (fpM S S' rs) h h1 := ⟨x.mono fun x q => .inr (.inr q), fun x q => .inl q⟩
  refine ⟨o.ra.ext x (fun x q r => o.d2 x r q) o.rf.new, o.rm.ext x (fun x q r => o.d3 x r q) o.rf.new, a, by rw [List.length_set]; exact o.n4, o.d1, o.d2, o.d3, o.fit, o.rg, fun i hi e q => ?_⟩
  by_cases c : i = r
  · subst c
    rw [List.getElem?_set_self (by rw [o.n4]; exact hr)] at q
    cases q
    have : aset (n := 4) (a := KOp) f i d' ⟨i, hi⟩ = d' := if_pos rfl
    rw [this]
    exact E.step st (Nat.le_refl _)
  · rw [List.getElem?_set_ne (fun z => c z.symm)] at q
    have : aset (n := 4) (a := KOp) f r d' ⟨i, hi⟩ = f ⟨i, hi⟩ := if_neg c
    rw [this]
    exact (o.el i hi e q).step st (Nat.le_refl _)
theorem MicI.get {r : Nat} (hr : r < 4) : ∃ e, es[r]? = some e ∧ ElM h (fpM S S' rs) n e (f ⟨r, hr⟩) := by
  have : r < es.length := by rw [o.n4]; exact hr
  exact ⟨es[r], List.getElem?_eq_getElem this, o.el r hr _ (List.getElem?_eq_getElem this)⟩
end

/-! ### the walk -/
abbrev KMv : Kd := .pair ki (.pair ki (.pair ki .nil))
def BornM (base most : Int) (c : Den KMv → Int → Int → Heap → ((Den KOp × (Den KRo × Unit)) → Heap → Prop) → Prop) : Prop := ∀ {k s v : Int} {h : Heap} {Q : (Den KOp × (Den KRo × Unit)) → Heap → Prop}, 0 ≤ k → k ≤ 4 → I64 v →
  (∀ e d, (∀ h F n, ElM h F n e d) → Q (d, (e, ())) h) → c (k, (s, (v, ()))) base most h Q
def WhoM (c : Option Addr → Int → Heap → (Unit → Heap → Prop) → Prop) : Prop := ∀ {h0 : Heap} {b : Nat} {h : Heap} {s : AS} {S : Nat → Prop} {w : Int} {Q : Unit → Heap → Prop}, RA h0 b s S h → (∀ h', RA h0 b { s with who := w } S h' → Step S S h h' → Q () h') → c (some (ptr b)) w h Q
def StepM (T : TypeId) (c : Value → Den KOp → Heap → (Den KOp → Heap → Prop) → Prop) : Prop := ∀ {h0 : Heap} {b : Nat} {h : Heap} {s : AS} {S : Nat → Prop} {x : DOp} {Q : Den KOp → Heap → Prop}, RA h0 b s S h → s.lg.length ≤ 1000000000 → (s.cs.length : Int) ≤ s.sz → s.sz ≤ 1048576 → x.Ok →
    (∀ S' h', RA h0 b (stepD arenaI s x).1 S' h' → Step S S' h h' → Q (stepD arenaI s x).2.den h') → c (.iface T (.pointer (some (ptr b)))) x.den h Q
def DarkM (c : Value → Den KOp → Heap → (Den KOp → Heap → Prop) → Prop) : Prop := ∀ {h : Heap} {x : DOp} {Q : Den KOp → Heap → Prop}, Q (darkD x).den h → c .nilIface x.den h Q
def AnswM (c : Den KOp → Heap → (Den KP2 → Heap → Prop) → Prop) : Prop := ∀ {o : DOp} {h : Heap} {Q : Den KP2 → Heap → Prop}, Q (o.answer.1, (o.answer.2, ())) h → c o.den h Q
def ModM (c : Int → Int → Heap → (Int → Heap → Prop) → Prop) : Prop := ∀ {x n : Int} {h : Heap} {Q : Int → Heap → Prop}, 0 < n → n ≤ 1000000 → (∀ r : Int, 0 ≤ r → r < n → Q r h) → c x n h Q
def NewM (c : Int → Heap → ((Option Addr × (Int × Unit)) → Heap → Prop) → Prop) : Prop := ∀ {h : Heap} {Q : (Option Addr × (Int × Unit)) → Heap → Prop}, (∀ b S h', RA h b ⟨0, [], [], 0, false⟩ S h' → Q (some (ptr b), (0, ())) h') → c 0 h Q
def SameM (k : Kd) (c : Sl → Sl → Heap → (Bool → Heap → Prop) → Prop) : Prop := ∀ {a b : Sl} {h : Heap} {xs : List (Den k)} {Q : Bool → Heap → Prop}, Arr h k a xs → Arr h k b xs → xs.length ≤ 2000000000 → Q true h → c a b h Q
def ArenaM (c : Int → Sl → Heap → ((Option Addr × (Bool × Unit)) → Heap → Prop) → Prop) : Prop := ∀ {h : Heap} {size : Int} {s : Sl} {bs : List Int} {Q : (Option Addr × (Bool × Unit)) → Heap → Prop}, Arr h ki s bs → 0 ≤ size → size ≤ 1048576 → (bs.length : Int) ≤ size → (∀ b S h', RA h b ⟨size, bs, [], 0, true⟩ S h' → Q (some (ptr b), (true, ())) h') → c size s h Q
def OutM (k : Kd) (xs : AS → List (Den k)) (c : Option Addr → Heap → (Sl → Heap → Prop) → Prop) : Prop := ∀ {h0 : Heap} {b : Nat} {h : Heap} {s : AS} {S : Nat → Prop} {n : Nat} {Q : Sl → Heap → Prop}, RA h0 b s S h → s.Fit n → n ≤ 1000000000 → (∀ t h', New h h' k t (xs s) → Q t h') → c (some (ptr b)) h Q
section
variable {T : TypeId} {c1 : Int → Int → Heap → (Int → Heap → Prop) → Prop} {c3 : Den KMv → Int → Int → Heap → ((Den KOp × (Den KRo × Unit)) → Heap → Prop) → Prop} {c4 : Option Addr → Int → Heap → (Unit → Heap → Prop) → Prop} {c5 : Value → Den KOp → Heap → (Den KOp → Heap → Prop) → Prop}
  {c6 : Option Addr → Den KRo → Heap → (Den KRo → Heap → Prop) → Prop} {c7 : Den KRo → Heap → (Wn → Heap → Prop) → Prop} {c8 : Int → Heap → ((Option Addr × (Int × Unit)) → Heap → Prop) → Prop} {c9 : Den KOp → Heap → (Den KP2 → Heap → Prop) → Prop} {c10 : Den KRo → Heap → (Den KP2 → Heap → Prop) → Prop}
  {Q : Bool → Heap → Prop} {h0 : Heap} {bA bM : Nat} {bR : Nat} {n : Nat} {m : AS} {f : Fin 4 → Den KOp} {S S' : Nat → Prop} {es : List (Den KRo)} {h : Heap}
theorem mic_end (iA : AnswM c9) (iR : RAnsC c10) (hn : n ≤ 900000000) {r : Nat} (hr : r < 4) {go : (Int × (((Fin 4 → Den KOp) × Unit) × Unit)) → Heap → Prop} {s25 : (Int × (((Fin 4 → Den KOp) × Unit) × Unit))} (o : MicI h0 bA bM ⟨some (ptr bR), 4, 4⟩ n m m f S S' es h)
    (hgo : go ((w64 (s25.1 + 1)), (f, ()), ()) h) : law3_DequeMicro.j3 c9 c10 Q (ptr bR) go s25 ((r : Int), ((f, ()), ())) h := by
  have b1 : 0 ≤ (r : Int) ∧ (r : Int) < 4 := by omega
  obtain ⟨e, he, kind, base, most, v, sl, dead, hs, p, rfl, q2, q3, q4, q5, q6, q7, q8, q9⟩ := o.get hr
  refine ⟨b1, ?_⟩
  dsimp only
  rw [Int.toNat_natCast, agetM hr, q2]
  refine iA ⟨b1, o.rf.arr.ldAt rfl he (sz := 6) rfl (iR q7 (by omega) q3 ?_)⟩
  refine ⟨fun e => absurd rfl (of_decide_eq_true e), fun _ => ?_⟩
  show law3_DequeMicro.j2 Q go s25 _ (decide (p.answer.2 ≠ p.answer.2), ()) h
  rw [decide_eq_false (fun z => z rfl)]
  exact ⟨fun e => (by cases e), fun _ => hgo⟩

theorem RMem.setWho {h0 h : Heap} {b : Nat} {s : AS} {S : Nat → Prop} (R : RMem h0 b s S h) {w : Int} {K : Heap → Prop} (hK : ∀ h', RMem h0 b { s with who := w } S h' → Step S S h h' → K h') : st ki h ((ptr b).add 2) w K := by
  obtain ⟨hw, c, l, rfl, o⟩ := R
  refine o.obj.st (kf := ki) (v := w) (off := 2) (x' := (c, (s.sz, (w, (l, ()))))) rfl (by decide) rfl fun h3 o3 x3 => ?_
  have f : ∀ x, x = b → h0 x = none := fun x hx => by subst hx; exact o.nb
  exact hK h3 ⟨hw, c, l, rfl, ⟨o3, o.cell.ext x3 (fun x p q => by subst q; exact o.b1 p) f, o.log.ext x3 (fun x p q => by subst q; exact o.b2 p) f, o.nb, o.b1, o.b2, o.ap⟩⟩ ⟨x3.mono fun x q => .inl q, fun x q => .inl q⟩
theorem den_inj {p q : DOp} (h : p.den = q.den) : p = q := congrArg DOp.of h
theorem mic_step (iS : StepM 24 c5) (iW : WhoM c4) (i6 : RStepC c6) (iA : AnswM c9) (iR : RAnsC c10) (hn : n ≤ 800000000) {r : Nat} (hr : r < 4) {go : (Int × (((Fin 4 → Den KOp) × Unit) × Unit)) → Heap → Prop} {i : Int} (o : MicI h0 bA bM ⟨some (ptr bR), 4, 4⟩ n m m f S S' es h)
    (hgo : ∀ m f S S' es h', MicI h0 bA bM ⟨some (ptr bR), 4, 4⟩ (n + 2) m m f S S' es h' → go ((w64 (i + 1)), (f, ()), ()) h') :
    c4 (some (ptr bA)) (r : Int) h fun r48 h49 =>
    st ki h49 ((ptr bM).add 2) (r : Int) fun h50 =>
    (0 ≤ (r : Int) ∧ (r : Int) < (4 : Int)) ∧
    c5 (Value.iface 24 (Kd.val .ptr (some (ptr bA)))) (aget (n := 4) (a := KOp) f ((r : Int) : Int).toNat) h50 fun r51 h52 =>
    (0 ≤ (r : Int) ∧ (r : Int) < (4 : Int)) ∧
    (0 ≤ (r : Int) ∧ (r : Int) < (4 : Int)) ∧
    ld KRo h52 ((ptr bR).add (((r : Int) : Int).toNat * 6)) fun t53 =>
    c6 (some (ptr bM)) t53 h52 fun r54 h55 =>
    (0 ≤ (r : Int) ∧ (r : Int) < (4 : Int)) ∧
    st KRo h55 ((ptr bR).add (((r : Int) : Int).toNat * 6)) r54 fun h56 =>
    law3_DequeMicro.j3 c9 c10 Q (ptr bR) go (i, ((f, ()), ())) ((r : Int), ((aset (n := 4) (a := KOp) f ((r : Int) : Int).toNat r51), ()), ()) h56 := by
  have b1 : 0 ≤ (r : Int) ∧ (r : Int) < 4 := by omega
  refine iW o.ra fun h1 a1 s1 => ?_
  have o1 := o.putA a1 s1 (Nat.le_refl _) ⟨o.fit.lg, o.fit.cs, o.fit.sz⟩ o.rg
  refine o1.rm.setWho (w := (r : Int)) fun h2 a2 s2 => ⟨b1, ?_⟩
  have o2 := o1.putM a2 s2
  rw [Int.toNat_natCast, agetM hr]
  obtain ⟨e, he, E⟩ := o2.get hr
  obtain ⟨_, _, _, _, _, _, _, p, _, q2, _, q4, q5, q6, _⟩ := E
  have hs := o2.fit
  rw [q2]
  refine iS o2.ra (by have := hs.lg; omega) hs.cs hs.sz q4 fun S1 h3 a3 s3 => ⟨b1, b1, ?_⟩
  obtain ⟨f1, _, _, _⟩ := hs.step p
  obtain ⟨g1, g2⟩ := o2.rg.step hs q5
  obtain ⟨ok1, sm⟩ := stepD_ok arenaI { m with who := (r : Int) } q4 q6
  have o3 := o2.putA a3 s3 (Nat.le_succ n) f1 g1
  obtain ⟨e', he', kind, base, most, v, sl, dead, hs', p', rfl, r2, r3, r4, r5, r6, r7, r8, r9⟩ := o3.get hr
  obtain rfl : p' = p := den_inj (r2.symm.trans q2)
  refine o3.rf.arr.ldAt rfl he' (sz := 6) rfl ?_
  refine i6 o3.rm (by have := hs.lg; omega) hs.cs hs.sz r7 (fun x q => (r8 x q).1) (fun x q z => (r8 x q).2 (.inr (.inl z))) (by omega) r3 (fun _ _ g _ hg => (o2.rg.act hs q5.req).2 g hg) fun s4 hs4 dead4 S4 h4 a4 st4 ar4 lv4 nb4 ns4 hl4 R4 => ⟨b1, ?_⟩
  have o4 := (o3.putM a4 st4).more (fun _ _ e => e) (Nat.le_succ (n + 1))
  have hr' : r < es.length := by rw [o4.n4]; exact hr
  refine o4.rf.stAt rfl hr' (y' := ropD kind base most v s4 dead4) rfl (sz := 6) rfl fun h5 n5 x5 => ?_
  have o5 := o4.putE hr n5 x5 (d' := (stepD arenaI { m with who := (r : Int) } p').2.den) ⟨kind, base, most, v, s4, dead4, hs4, _, rfl, rfl, R4, ok1, g2, by rw [sm.2.2.1]; exact q6, ar4, fun x q => ⟨lv4 x q, fun z => ?_⟩, by omega⟩
  · exact mic_end iA iR (by omega) hr o5 (hgo _ _ _ _ _ _ o5)
  · rcases z with z | z | z
    · rcases nb4 x q with w | w
      · exact (r8 x w).2 (.inl z)
      · exact o3.ra.live z w
    · exact ns4 x q z
    · rcases nb4 x q with w | w
      · exact (r8 x w).2 (.inr (.inr z))
      · exact o3.rf.own.live x z w
theorem mic_dark (iS : DarkM c5) (i7 : RNextC c7) (iA : AnswM c9) (iR : RAnsC c10) (hn : n ≤ 800000000) {r : Nat} (hr : r < 4) {go : (Int × (((Fin 4 → Den KOp) × Unit) × Unit)) → Heap → Prop} {i : Int} (o : MicI h0 bA bM ⟨some (ptr bR), 4, 4⟩ n m m f S S' es h)
    (hgo : ∀ m f S S' es h', MicI h0 bA bM ⟨some (ptr bR), 4, 4⟩ (n + 2) m m f S S' es h' → go ((w64 (i + 1)), (f, ()), ()) h') :
    (0 ≤ (r : Int) ∧ (r : Int) < (4 : Int)) ∧
    c5 Value.nilIface (aget (n := 4) (a := KOp) f ((r : Int) : Int).toNat) h fun r57 h58 =>
    (0 ≤ (r : Int) ∧ (r : Int) < (4 : Int)) ∧
    (0 ≤ (r : Int) ∧ (r : Int) < (4 : Int)) ∧
    ld KRo h58 ((ptr bR).add (((r : Int) : Int).toNat * 6)) fun t59 =>
    c7 t59 h58 fun r60 h61 =>
    (0 ≤ (r : Int) ∧ (r : Int) < (4 : Int)) ∧
    ld (.bool : Kd) h61 (((ptr bR).add (((r : Int) : Int).toNat * 6)).add 5) fun t62 =>
    ((t62 = true →
    (0 ≤ (r : Int) ∧ (r : Int) < (4 : Int)) ∧
    st (.bool : Kd) h61 (((ptr bR).add (((r : Int) : Int).toNat * 6)).add 5) true fun h63 =>
    law3_DequeMicro.j3 c9 c10 Q (ptr bR) go (i, ((f, ()), ())) ((r : Int), ((aset (n := 4) (a := KOp) f ((r : Int) : Int).toNat r57), ()), ()) h63) ∧
    (t62 = false →
    (0 ≤ (r : Int) ∧ (r : Int) < (4 : Int)) ∧
    st (.bool : Kd) h61 (((ptr bR).add (((r : Int) : Int).toNat * 6)).add 5) (decide ((0 : Int) ≤ r60.1)) fun h64 =>
    law3_DequeMicro.j3 c9 c10 Q (ptr bR) go (i, ((f, ()), ())) ((r : Int), ((aset (n := 4) (a := KOp) f ((r : Int) : Int).toNat r57), ()), ()) h64)) := by
  have b1 : 0 ≤ (r : Int) ∧ (r : Int) < 4 := by omega
  refine ⟨b1, ?_⟩
  rw [Int.toNat_natCast, agetM hr]
  obtain ⟨e, he, kind, base, most, v, sl, dead, hs, p, rfl, q2, q3, q4, q5, q6, q7, q8, q9⟩ := o.get hr
  rw [q2]
  refine iS ⟨b1, b1, o.rf.arr.ldAt rfl he (sz := 6) rfl (i7 q7 (by omega) q3 ⟨b1, ?_⟩)⟩
  have Rd := q3.dark
  have fin : ∀ dead', dead' = (if dead = true then true else decide ((0 : Int) ≤ p.want.1)) → st (.bool : Kd) h (((ptr bR).add (r * 6)).add 5) dead' fun h63 => law3_DequeMicro.j3 c9 c10 Q (ptr bR) go (i, ((f, ()), ())) ((r : Int), ((aset (n := 4) (a := KOp) f r (darkD p).den), ()), ()) h63 := fun dead' hd => by
    refine o.rf.stPart rfl he (kp := .bool) (y' := ropD kind base most v sl dead') (v := dead') (off := 5) rfl (by decide) rfl (sz := 6) rfl fun h5 n5 x5 => ?_
    have o5 := o.putE hr n5 x5 (d' := (darkD p).den) ⟨kind, base, most, v, sl, dead', hs, _, rfl, rfl, by rw [hd]; exact Rd, darkD.ok q4, darkD.ino q5, by rw [darkD.most]; exact q6, q7, q8, q9⟩
    have o6 := o5.more (fun _ _ e => e) (show n ≤ n + 2 by omega)
    exact mic_end iA iR (by omega) hr o6 (hgo _ _ _ _ _ _ o6)
  refine o.rf.arr.ldPart rfl he (kp := .bool) (y := dead) (off := 5) ⟨[_, _, _, _, _], [], rfl, rfl⟩ (sz := 6) rfl ⟨fun d => ⟨b1, fin true ?_⟩, fun d => ⟨b1, fin _ ?_⟩⟩
  · rw [if_pos d]
  · rw [if_neg (by rw [d]; decide)]
theorem mic_deny (iS : StepM 24 c5) (i8 : NewM c8) (i6 : RStepC c6) (iA : AnswM c9) (iR : RAnsC c10) (hn : n ≤ 800000000) {r : Nat} (hr : r < 4) {go : (Int × (((Fin 4 → Den KOp) × Unit) × Unit)) → Heap → Prop} {i : Int} (o : MicI h0 bA bM ⟨some (ptr bR), 4, 4⟩ n m m f S S' es h)
    (hgo : ∀ m f S S' es h', MicI h0 bA bM ⟨some (ptr bR), 4, 4⟩ (n + 2) m m f S S' es h' → go ((w64 (i + 1)), (f, ()), ()) h') :
    c8 0 h fun r65 h66 =>
    (((decide (r65.2.1 ≠ 0)) = true →
    Q false h66) ∧
    ((decide (r65.2.1 ≠ 0)) = false →
    (0 ≤ (r : Int) ∧ (r : Int) < (4 : Int)) ∧
    c5 (Value.iface 24 (Kd.val (.ptr : Kd) r65.1)) (aget (n := 4) (a := KOp) f ((r : Int) : Int).toNat) h66 fun r67 h68 =>
    (0 ≤ (r : Int) ∧ (r : Int) < (4 : Int)) ∧
    new h68 (KMem.cells (Sl.none, (0, (0, (Sl.none, ()))))) fun p69 h70 =>
    (0 ≤ (r : Int) ∧ (r : Int) < (4 : Int)) ∧
    ld KRo h70 ((ptr bR).add (((r : Int) : Int).toNat * 6)) fun t71 =>
    c6 (some p69) t71 h70 fun r72 h73 =>
    (0 ≤ (r : Int) ∧ (r : Int) < (4 : Int)) ∧
    st KRo h73 ((ptr bR).add (((r : Int) : Int).toNat * 6)) r72 fun h74 =>
    law3_DequeMicro.j3 c9 c10 Q (ptr bR) go (i, ((f, ()), ())) ((r : Int), ((aset (n := 4) (a := KOp) f ((r : Int) : Int).toNat r67), ()), ()) h74)) := by
  have b1 : 0 ≤ (r : Int) ∧ (r : Int) < 4 := by omega
  refine i8 fun bN SN h1 a1 => ⟨fun e => absurd rfl (of_decide_eq_true e), fun _ => ⟨b1, ?_⟩⟩
  have o1 := o.more a1.le (Nat.le_refl n)
  rw [Int.toNat_natCast, agetM hr]
  obtain ⟨e, he, E⟩ := o1.get hr
  obtain ⟨_, _, _, _, _, _, _, p, _, q2, _, q4, q5, q6, _⟩ := E
  rw [q2]
  refine iS a1 (by simp) (by simp) (by simp) q4 fun S1 h2 a2 s2 => ⟨b1, ?_⟩
  rw [none_step] at a2 ⊢
  have o2 := o.more a2.le (Nat.le_refl n)
  refine Obj.new (k := KMem) fun bX h3 hb ob lb => ⟨b1, ?_⟩
  have o3 := o2.more lb (Nat.le_succ n)
  have M1 : RMem h2 bX ⟨0, [], [], 0, true⟩ (fpA bX Sl.none Sl.none) h3 := ⟨rfl, Sl.none, Sl.none, rfl, ob, (New.nil h3 ki).base lb, (New.nil h3 KAcc).base lb, hb, no_blkM, no_blkM, fun x q _ => no_blkM q⟩
  obtain ⟨e', he', kind, base, most, v, sl, dead, hs', p', rfl, r2, r3, r4, r5, r6, r7, r8, r9⟩ := o2.get hr
  obtain rfl : p' = p := den_inj (r2.symm.trans q2)
  refine o3.rf.arr.ldAt rfl he' (sz := 6) rfl ?_
  refine i6 M1 (by simp) (by simp) (by simp) (r7.le lb) (fun x q z => (r8 x q).1 (lb.none z)) (fun x q z => ?_) (by omega) r3 (fun _ _ g _ hg => by rw [none_refuses] at hg; cases hg) fun s4 hs4 dead4 S4 h4 a4 st4 ar4 lv4 nb4 ns4 hl4 R4 => ⟨b1, ?_⟩
  · exact (r8 x q).1 (M1.fresh z)
  have o4 := (o2.more a4.le (Nat.le_succ n)).more (fun _ _ e => e) (Nat.le_succ (n + 1))
  have hr' : r < es.length := by rw [o4.n4]; exact hr
  rw [none_step] at R4
  refine o4.rf.stAt rfl hr' (y' := ropD kind base most v s4 dead4) rfl (sz := 6) rfl fun h5 n5 x5 => ?_
  have o5 := o4.putE hr n5 x5 (d' := (darkD p').den) ⟨kind, base, most, v, s4, dead4, hs4, _, rfl, rfl, R4, darkD.ok r4, darkD.ino r5, by rw [darkD.most]; exact r6, ar4, fun x q => ⟨lv4 x q, fun z => ?_⟩, by omega⟩
  · exact mic_end iA iR (by omega) hr o5 (hgo _ _ _ _ _ _ o5)
  · rcases nb4 x q with w | w
    · exact (r8 x w).2 z
    · exact o3.live z w
theorem mic_copy (iA : AnswM c9) (iR : RAnsC c10) (hn : n ≤ 800000000) {r : Nat} (hr : r < 4) {go : (Int × (((Fin 4 → Den KOp) × Unit) × Unit)) → Heap → Prop} {i : Int} (o : MicI h0 bA bM ⟨some (ptr bR), 4, 4⟩ n m m f S S' es h)
    (hgo : ∀ m f S S' es h', MicI h0 bA bM ⟨some (ptr bR), 4, 4⟩ (n + 2) m m f S S' es h' → go ((w64 (i + 1)), (f, ()), ()) h') :
    (4 : Int) ≠ 0 ∧
    (0 ≤ (r : Int) ∧ (r : Int) < (4 : Int)) ∧
    (0 ≤ (Int.tmod (w64 ((r : Int) + 1)) 4) ∧ (Int.tmod (w64 ((r : Int) + 1)) 4) < (4 : Int)) ∧
    (4 : Int) ≠ 0 ∧
    (0 ≤ (r : Int) ∧ (r : Int) < (4 : Int)) ∧
    ld KRo h ((ptr bR).add (((r : Int) : Int).toNat * 6)) fun t75 =>
    (0 ≤ (Int.tmod (w64 ((r : Int) + 1)) 4) ∧ (Int.tmod (w64 ((r : Int) + 1)) 4) < (4 : Int)) ∧
    st KRo h ((ptr bR).add (((Int.tmod (w64 ((r : Int) + 1)) 4) : Int).toNat * 6)) t75 fun h76 =>
    (4 : Int) ≠ 0 ∧
    law3_DequeMicro.j3 c9 c10 Q (ptr bR) go (i, ((f, ()), ())) ((Int.tmod (w64 ((r : Int) + 1)) 4), ((aset (n := 4) (a := KOp) f ((Int.tmod (w64 ((r : Int) + 1)) 4) : Int).toNat (aget (n := 4) (a := KOp) f ((r : Int) : Int).toNat)), ()), ()) h76 := by
  have b1 : 0 ≤ (r : Int) ∧ (r : Int) < 4 := by omega
  have hw : w64 ((r : Int) + 1) = (r : Int) + 1 := by rw [w64_of] <;> omega
  have hq : Int.tmod ((r : Int) + 1) 4 = (((r + 1) % 4 : Nat) : Int) := by rw [Int.tmod_eq_emod_of_nonneg (by omega)]; omega
  rw [hw, hq]
  have hq4 : (r + 1) % 4 < 4 := Nat.mod_lt _ (by decide)
  generalize (r + 1) % 4 = q at hq4
  have b2 : 0 ≤ (q : Int) ∧ (q : Int) < 4 := by omega
  rw [Int.toNat_natCast, Int.toNat_natCast, agetM hr]
  obtain ⟨e, he, E⟩ := o.get hr
  refine ⟨by decide, b1, b2, by decide, b1, o.rf.arr.ldAt rfl he (sz := 6) rfl ⟨b2, ?_⟩⟩
  have hr' : q < es.length := by rw [o.n4]; exact hq4
  refine o.rf.stAt rfl hr' rfl (sz := 6) rfl fun h5 n5 x5 => ⟨by decide, ?_⟩
  have o5 := (o.putE hq4 n5 x5 E).more (fun _ _ e => e) (show n ≤ n + 2 by omega)
  exact mic_end iA iR (by omega) hq4 o5 (hgo _ _ _ _ _ _ o5)
theorem mic_move {base most : Int} (i3 : BornM base most c3) (iW : WhoM c4) (iS : StepM 24 c5) (iD : DarkM c5) (i6 : RStepC c6) (i7 : RNextC c7) (i8 : NewM c8) (iA : AnswM c9) (iR : RAnsC c10) (hn : n ≤ 800000000) {r : Nat} (hr : r < 4) {go : (Int × (((Fin 4 → Den KOp) × Unit) × Unit)) → Heap → Prop} {i size : Int} {bg mv : Sl} {w : Den KMv} {k : Bool} (hk : k = true → 0 ≤ (w.1 : Int) ∧ (w.1 : Int) ≤ 4) (hv : I64 w.2.2.1)
    (o : MicI h0 bA bM ⟨some (ptr bR), 4, 4⟩ n m m f S S' es h)
    (hgo : ∀ m f S S' es h', MicI h0 bA bM ⟨some (ptr bR), 4, 4⟩ (n + 2) m m f S S' es h' → go ((w64 (i + 1)), (f, ()), ()) h') :
    law3_DequeMicro.j4 c3 c4 c5 c6 c7 c8 c9 c10 Q (size, (bg, (base, (most, (mv, ()))))) (some (ptr bA), (true, ())) (ptr bM) (ptr bR) go (i, ((f, ()), ())) w (r : Int) (k, ()) h := by
  have b1 : 0 ≤ (r : Int) ∧ (r : Int) < 4 := by omega
  refine ⟨fun e => ?_, fun _ => ⟨fun _ => mic_step iS iW i6 iA iR hn hr o hgo, fun _ => ⟨fun _ => mic_dark iD i7 iA iR hn hr o hgo, fun _ => ⟨fun _ => mic_deny iS i8 i6 iA iR hn hr o hgo, fun _ => ⟨fun _ => mic_copy iA iR hn hr o hgo, fun _ => ?_⟩⟩⟩⟩⟩
  · obtain ⟨k0, k4⟩ := hk e
    refine i3 k0 k4 hv fun e' d' E => ⟨b1, b1, ?_⟩
    have hr' : r < es.length := by rw [o.n4]; exact hr
    rw [Int.toNat_natCast]
    refine o.rf.stAt rfl hr' rfl (sz := 6) rfl fun h5 n5 x5 => ?_
    have o5 := (o.putE hr n5 x5 (E _ _ n)).more (fun _ _ e => e) (show n ≤ n + 2 by omega)
    exact mic_end iA iR (by omega) hr o5 (hgo _ _ _ _ _ _ o5)
  · have o5 := o.more (fun _ _ e => e) (show n ≤ n + 2 by omega)
    exact mic_end iA iR (by omega) hr o5 (hgo _ _ _ _ _ _ o5)
end
end Go.Mx
