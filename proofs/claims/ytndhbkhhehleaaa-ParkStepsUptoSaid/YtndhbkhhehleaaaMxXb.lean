/-
  DequeMicro: up to four machines in any turns: the walk.
-/
import Derived.Test.YtndhbkhhehleaaaMxXa
set_option linter.unusedVariables false
set_option linter.unusedSimpArgs false
set_option linter.unusedSectionVars false
namespace Go.Mx

theorem RA.le {h0 b s S h} (R : RA h0 b s S h) : Go.Mx.le h0 h := by obtain ⟨c, l, _, o⟩ := R; exact o.le
theorem RA.live {h0 b s S h} (R : RA h0 b s S h) {x : Nat} (hx : S x) : h x ≠ none := by obtain ⟨c, l, rfl, o⟩ := R; exact o.live hx
theorem RA.fresh {h0 b s S h} (R : RA h0 b s S h) {x : Nat} (hx : S x) : h0 x = none := by obtain ⟨c, l, rfl, o⟩ := R; exact o.fresh hx
theorem RA.ext {h0 b s S h h'} (R : RA h0 b s S h) {T : Nat → Prop} (e : Ext T h h') (n : ∀ x, S x → ¬ T x) (f : ∀ x, T x → h0 x = none) : RA h0 b s S h' := by
  obtain ⟨c, l, rfl, o⟩ := R; exact ⟨c, l, rfl, o.ext e n f⟩
theorem agetM {f : Fin 4 → Den KOp} {i : Nat} (hi : i < 4) : aget (n := 4) (a := KOp) f i = f ⟨i, hi⟩ := dif_pos hi
theorem no_blkM {x : Nat} : ¬ blkOf Sl.none x := fun h => by obtain ⟨a, e, _⟩ := h; cases e

/-- A machine and the reference's. -/
def ElM (h : Heap) (F : Nat → Prop) (n : Nat) (e : Den KRo) (d : Den KOp) : Prop :=
  ∃ kind base most v s dead hs o, e = ropD kind base most v s dead ∧ d = DOp.den o ∧ RelO kind base most v hs dead o ∧ o.Ok ∧ InO o ∧ o.most ≤ 4096 ∧ Arr h ki s hs ∧ (∀ x, blkOf s x → h x ≠ none ∧ ¬ F x) ∧ hs.length ≤ n
theorem ElM.step {h h' F F' n e d} (E : ElM h F n e d) (s : Step F F' h h') {n' : Nat} (hn : n ≤ n') : ElM h' F' n' e d := by
  obtain ⟨kind, base, most, v, sl, dead, hs, o, q1, q2, q3, q4, q5, q6, q7, q8, q9⟩ := E
  refine ⟨kind, base, most, v, sl, dead, hs, o, q1, q2, q3, q4, q5, q6, Arr.ext s.1 q7 (fun x p => (q8 x p).2), fun x p => ⟨fun c => (q8 x p).1 (s.1.2 x c), ?_⟩, by omega⟩
  exact s.off (T := blkOf sl) (fun x p => (q8 x p).2) (fun x p => (q8 x p).1) x p
theorem ElM.born {h : Heap} {F : Nat → Prop} {n : Nat} {kind base most v : Int} {o : DOp} (r : RelO kind base most v [] false o) (ok : o.Ok) (io : InO o) (hm : o.most ≤ 4096) : ElM h F n (ropD kind base most v Sl.none false) o.den :=
  ⟨kind, base, most, v, Sl.none, false, [], o, rfl, rfl, r, ok, io, hm, (Own.nil _ _).arr, fun x q => absurd q no_blkM, Nat.zero_le _⟩
def fpM (S S' : Nat → Prop) (rs : Sl) : Nat → Prop := fun x => S x ∨ S' x ∨ blkOf rs x
structure MicI (h0 : Heap) (bA bM : Nat) (rs : Sl) (n : Nat) (m m' : AS) (f : Fin 4 → Den KOp) (S S' : Nat → Prop) (es : List (Den KRo)) (h : Heap) : Prop where
  ra : RA h0 bA m S h
  rm : RMem h0 bM m' S' h
  rf : New h0 h KRo rs es
  n4 : es.length = 4
  d1 : ∀ x, S x → ¬ S' x
  d2 : ∀ x, blkOf rs x → ¬ S x
  d3 : ∀ x, blkOf rs x → ¬ S' x
  fit : m.Fit n
  rg : m.Rg
  el : ∀ i (hi : i < 4) e, es[i]? = some e → ElM h (fpM S S' rs) n e (f ⟨i, hi⟩)
section
variable {h0 : Heap} {bA bM : Nat} {rs : Sl} {n : Nat} {m m' : AS} {f : Fin 4 → Den KOp} {S S' : Nat → Prop} {es : List (Den KRo)} {h : Heap} (o : MicI h0 bA bM rs n m m' f S S' es h)
include o
theorem MicI.le : Go.Mx.le h0 h := o.rf.le
theorem MicI.live {x : Nat} (hx : fpM S S' rs x) : h x ≠ none := by
  rcases hx with q | q | q
  · exact o.ra.live q
  · exact o.rm.live q
  · exact o.rf.own.live x q
theorem MicI.putA {m1 : AS} {S1 : Nat → Prop} {h1 : Heap} {n1 : Nat} (a : RA h0 bA m1 S1 h1) (s : Step S S1 h h1) (hn : n ≤ n1) (ft : m1.Fit n1) (rg : m1.Rg) : MicI h0 bA bM rs n1 m1 m' f S1 S' es h1 := by
  have fr : ∀ x, S x → h0 x = none := fun x hx => o.ra.fresh hx
  have st : Step (fpM S S' rs) (fpM S1 S' rs) h h1 := ⟨s.1.mono fun x q => .inl q, fun x q => by
    rcases q with q | q | q
    · rcases s.2 x q with r | r
      · exact .inl (.inl r)
      · exact .inr r
    · exact .inl (.inr (.inl q))
    · exact .inl (.inr (.inr q))⟩
  refine ⟨a, o.rm.ext s.1 (fun x q r => o.d1 x r q) fr, o.rf.ext s.1 o.d2 fr, o.n4, ?_, ?_, o.d3, ft, rg, fun i hi e q => (o.el i hi e q).step st hn⟩
  · exact fun x q r => s.off (T := S') (fun x q r => o.d1 x r q) (fun x q => o.rm.live q) x r q
  · exact s.off (T := blkOf rs) o.d2 (fun x q => o.rf.own.live x q)
theorem MicI.putM {m1 : AS} {S1 : Nat → Prop} {h1 : Heap} (a : RMem h0 bM m1 S1 h1) (s : Step S' S1 h h1) : MicI h0 bA bM rs n m m1 f S S1 es h1 := by
  have fr : ∀ x, S' x → h0 x = none := fun x hx => o.rm.fresh hx
  have st : Step (fpM S S' rs) (fpM S S1 rs) h h1 := ⟨s.1.mono fun x q => .inr (.inl q), fun x q => by
    rcases q with q | q | q
    · exact .inl (.inl q)
    · rcases s.2 x q with r | r
      · exact .inl (.inr (.inl r))
      · exact .inr r
    · exact .inl (.inr (.inr q))⟩
  refine ⟨o.ra.ext s.1 (fun x q r => o.d1 x q r) fr, a, o.rf.ext s.1 o.d3 fr, o.n4, ?_, o.d2, ?_, o.fit, o.rg, fun i hi e q => (o.el i hi e q).step st (Nat.le_refl _)⟩
  · exact s.off (T := S) (fun x q r => o.d1 x q r) (fun x q => o.ra.live q)
  · exact s.off (T := blkOf rs) o.d3 (fun x q => o.rf.own.live x q)
theorem MicI.more {h1 : Heap} (l : Go.Mx.le h h1) {n1 : Nat} (hn : n ≤ n1) : MicI h0 bA bM rs n1 m m' f S S' es h1 := by
  have e : Ext (fun _ => False) h h1 := l.toExt
  exact ⟨o.ra.ext e (fun _ _ => id) (fun _ q => q.elim), o.rm.ext e (fun _ _ => id) (fun _ q => q.elim), o.rf.more l, o.n4, o.d1, o.d2, o.d3, ⟨by have := o.fit.lg; omega, o.fit.cs, o.fit.sz⟩, o.rg, fun i hi x q => (o.el i hi x q).step ⟨e.mono (fun _ q => q.elim), fun x q => .inl q⟩ hn⟩
/-- A machine has changed. -/
theorem MicI.putE {h1 : Heap} {r : Nat} (hr : r < 4) {e' : Den KRo} {d' : Den KOp} (a : New h0 h1 KRo rs (es.set r e')) (x : Ext (blkOf rs) h h1) (E : ElM h (fpM S S' rs) n e' d') : MicI h0 bA bM rs n m m' (aset (n := 4) (a := KOp) f r d') S S' (es.set r e') h1 := by
  have st : Step (fpM S S' rs) (fpM S S' rs) h h1 := ⟨x.mono fun x q => .inr (.inr q), fun x q => .inl q⟩
  refine ⟨o.ra.ext x (fun x q r => o.d2 x r q) o.rf.new, o.rm.ext x (fun x q r => o.d3 x r q) o.rf.new, a, by rw [List.length_set]; exact o.n4, o.d1, o.d2, o.d3, o.fit, o.rg, fun i hi e q => ?_⟩
  by_cases c : i = r
  · subst c
    rw [List.getElem?_set_self (by rw [o.n4]; exact hr)] at q
    cases q
    have : aset (n := 4) (a := KOp) f i d' ⟨i, hi⟩ = d' := if_pos rfl
    rw [this]
    exact E.step st (Nat.le_refl _)
  · rw [List.getElem?_set_ne (fun z => c z.symm)] at q
    have : aset (n := 4) (a := KOp) f r d' ⟨i, hi⟩ = f ⟨i, hi⟩ := if_neg c
    rw [this]
    exact (o.el i hi e q).step st (Nat.le_refl _)
theorem MicI.get {r : Nat} (hr : r < 4) : ∃ e, es[r]? = some e ∧ ElM h (fpM S S' rs) n e (f ⟨r, hr⟩) := by
  have : r < es.length := by rw [o.n4]; exact hr
  exact ⟨es[r], List.getElem?_eq_getElem this, o.el r hr _ (List.getElem?_eq_getElem this)⟩
end

/-! ### the walk -/
abbrev KMv : Kd := .pair ki (.pair ki (.pair ki .nil))
def BornM (base most : Int) (c : Den KMv → Int → Int → Heap → ((Den KOp × (Den KRo × Unit)) → Heap → Prop) → Prop) : Prop := ∀ {k s v : Int} {h : Heap} {Q : (Den KOp × (Den KRo × Unit)) → Heap → Prop}, 0 ≤ k → k ≤ 4 → I64 v →
  (∀ e d, (∀ h F n, ElM h F n e d) → Q (d, (e, ())) h) → c (k, (s, (v, ()))) base most h Q
def WhoM (c : Option Addr → Int → Heap → (Unit → Heap → Prop) → Prop) : Prop := ∀ {h0 : Heap} {b : Nat} {h : Heap} {s : AS} {S : Nat → Prop} {w : Int} {Q : Unit → Heap → Prop}, RA h0 b s S h → (∀ h', RA h0 b { s with who := w } S h' → Step S S h h' → Q () h') → c (some (ptr b)) w h Q
def StepM (T : TypeId) (c : Value → Den KOp → Heap → (Den KOp → Heap → Prop) → Prop) : Prop := ∀ {h0 : Heap} {b : Nat} {h : Heap} {s : AS} {S : Nat → Prop} {x : DOp} {Q : Den KOp → Heap → Prop}, RA h0 b s S h → s.lg.length ≤ 1000000000 → (s.cs.length : Int) ≤ s.sz → s.sz ≤ 1048576 → x.Ok →
    (∀ S' h', RA h0 b (stepD arenaI s x).1 S' h' → Step S S' h h' → Q (stepD arenaI s x).2.den h') → c (.iface T (.pointer (some (ptr b)))) x.den h Q
def DarkM (c : Value → Den KOp → Heap → (Den KOp → Heap → Prop) → Prop) : Prop := ∀ {h : Heap} {x : DOp} {Q : Den KOp → Heap → Prop}, Q (darkD x).den h → c .nilIface x.den h Q
def AnswM (c : Den KOp → Heap → (Den KP2 → Heap → Prop) → Prop) : Prop := ∀ {o : DOp} {h : Heap} {Q : Den KP2 → Heap → Prop}, Q (o.answer.1, (o.answer.2, ())) h → c o.den h Q
def ModM (c : Int → Int → Heap → (Int → Heap → Prop) → Prop) : Prop := ∀ {x n : Int} {h : Heap} {Q : Int → Heap → Prop}, 0 < n → n ≤ 1000000 → (∀ r : Int, 0 ≤ r → r < n → Q r h) → c x n h Q
def NewM (c : Int → Heap → ((Option Addr × (Int × Unit)) → Heap → Prop) → Prop) : Prop := ∀ {h : Heap} {Q : (Option Addr × (Int × Unit)) → Heap → Prop}, (∀ b S h', RA h b ⟨0, [], [], 0, false⟩ S h' → Q (some (ptr b), (0, ())) h') → c 0 h Q
def SameM (k : Kd) (c : Sl → Sl → Heap → (Bool → Heap → Prop) → Prop) : Prop := ∀ {a b : Sl} {h : Heap} {xs : List (Den k)} {Q : Bool → Heap → Prop}, Arr h k a xs → Arr h k b xs → xs.length ≤ 2000000000 → Q true h → c a b h Q
def ArenaM (c : Int → Sl → Heap → ((Option Addr × (Bool × Unit)) → Heap → Prop) → Prop) : Prop := ∀ {h : Heap} {size : Int} {s : Sl} {bs : List Int} {Q : (Option Addr × (Bool × Unit)) → Heap → Prop}, Arr h ki s bs → 0 ≤ size → size ≤ 1048576 → (bs.length : Int) ≤ size → (∀ b S h', RA h b ⟨size, bs, [], 0, true⟩ S h' → Q (some (ptr b), (true, ())) h') → c size s h Q
def OutM (k : Kd) (xs : AS → List (Den k)) (c : Option Addr → Heap → (Sl → Heap → Prop) → Prop) : Prop := ∀ {h0 : Heap} {b : Nat} {h : Heap} {s : AS} {S : Nat → Prop} {n : Nat} {Q : Sl → Heap → Prop}, RA h0 b s S h → s.Fit n → n ≤ 1000000000 → (∀ t h', New h h' k t (xs s) → Q t h') → c (some (ptr b)) h Q
section
variable {T : TypeId} {c1 : Int → Int → Heap → (Int → Heap → Prop) → Prop} {c3 : Den KMv → Int → Int → Heap → ((Den KOp × (Den KRo × Unit)) → Heap → Prop) → Prop} {c4 : Option Addr → Int → Heap → (Unit → Heap → Prop) → Prop} {c5 : Value → Den KOp → Heap → (Den KOp → Heap → Prop) → Prop}
  {c6 : Option Addr → Den KRo → Heap → (Den KRo → Heap → Prop) → Prop} {c7 : Den KRo → Heap → (Wn → Heap → Prop) → Prop} {c8 : Int → Heap → ((Option Addr × (Int × Unit)) → Heap → Prop) → Prop} {c9 : Den KOp → Heap → (Den KP2 → Heap → Prop) → Prop} {c10 : Den KRo → Heap → (Den KP2 → Heap → Prop) → Prop}
  {Q : Bool → Heap → Prop} {h0 : Heap} {bA bM : Nat} {bR : Nat} {n : Nat} {m : AS} {f : Fin 4 → Den KOp} {S S' : Nat → Prop} {es : List (Den KRo)} {h : Heap}
theorem RMem.setWho {h0 h : Heap} {b : Nat} {s : AS} {S : Nat → Prop} (R : RMem h0 b s S h) {w : Int} {K : Heap → Prop} (hK : ∀ h', RMem h0 b { s with who := w } S h' → Step S S h h' → K h') : st ki h ((ptr b).add 2) w K := by
  obtain ⟨hw, c, l, rfl, o⟩ := R
  refine o.obj.st (kf := ki) (v := w) (off := 2) (x' := (c, (s.sz, (w, (l, ()))))) rfl (by decide) rfl fun h3 o3 x3 => ?_
  have f : ∀ x, x = b → h0 x = none := fun x hx => by subst hx; exact o.nb
  exact hK h3 ⟨hw, c, l, rfl, ⟨o3, o.cell.ext x3 (fun x p q => by subst q; exact o.b1 p) f, o.log.ext x3 (fun x p q => by subst q; exact o.b2 p) f, o.nb, o.b1, o.b2, o.ap⟩⟩ ⟨x3.mono fun x q => .inl q, fun x q => .inl q⟩
theorem den_inj {p q : DOp} (h : p.den = q.den) : p = q := congrArg DOp.of h
end
end Go.Mx
