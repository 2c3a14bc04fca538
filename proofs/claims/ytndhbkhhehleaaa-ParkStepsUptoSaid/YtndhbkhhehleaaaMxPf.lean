/-
  ParkMicro: the walk.
-/
import Derived.Test.YtndhbkhhehleaaaMxPe
import Derived.Test.YtndhbkhhehleaaaMxXc
set_option linter.unusedVariables false
set_option linter.unusedSimpArgs false
set_option linter.unusedSectionVars false
namespace Go.Mx

def MDoA (c : Option Addr → Wn → Heap → ((Int × (Bool × Unit)) → Heap → Prop) → Prop) : Prop := ∀ {h0 h : Heap} {b : Nat} {s : AS} {S : Nat → Prop} {r : Ra} {n : Nat} {Q : (Int × (Bool × Unit)) → Heap → Prop}, RMem h0 b s S h → s.Fit n → n ≤ 1000000000 →
  (∀ S' h', RMem h0 b (arenaA s r).2 S' h' → Step S S' h h' → Q ((arenaA s r).1.getD 0, ((arenaA s r).1.isSome, ())) h') → c (some (ptr b)) r.want h Q
def RStep9C (c : Option Addr → Den KR9 → Heap → (Den KR9 → Heap → Prop) → Prop) : Prop := ∀ {h0 h : Heap} {b : Nat} {m : AS} {S : Nat → Prop} {n : Nat} {r : R9} {ds : List (Den KP2)} {Q : Den KR9 → Heap → Prop}, RMem h0 b m S h → m.Fit n → n ≤ 1000000000 → R9Ok h ds r →
  (∀ S' h', RMem h0 b (stepR9 ds m r).1 S' h' → Step S S' h h' → Q (stepR9 ds m r).2.den h') → c (some (ptr b)) r.den h Q
theorem RelP.r9ok {ds : List (Den KP2)} {o : POp} {r : R9} (R : RelP ds o r) {h : Heap} (a : Arr h KP2 r.ds ds) : R9Ok h ds r := by
  rcases R with ⟨h1, _, _, _⟩ | R
  · exact ⟨fun e => absurd h1 e, fun e => by omega⟩
  · have w1 := R.w1
    refine ⟨fun _ => by rw [R.w]; omega, fun e => ⟨a, ?_⟩⟩
    rcases R.at_ with ⟨hk, hd, _, c⟩ | ⟨_, c⟩ | ⟨_, c, d⟩ | ⟨_, c⟩
    · have key : r.k = o.st.k → 1 ≤ o.st.k → o.st.k < o.st.workers → 0 ≤ r.who ∧ r.who < (ds.length : Int) := fun h2 h3 h4 => by
        obtain ⟨g0, g1, _⟩ := other_rng R.w1 R.w2 R.s0 R.s1 h3 h4
        rw [other_eq R.w R.s h2, hd]
        exact ⟨g0, g1⟩
      rcases c with c | c | c | ⟨c1, c2, c3, c4, c⟩ | c | c | c
      · omega
      · omega
      · omega
      · exact key c2 c3 c4
      · omega
      · omega
      · omega
    · omega
    · omega
    · omega
theorem stepR9_ds (ds : List (Den KP2)) (m : AS) (r : R9) : (stepR9 ds m r).2.ds = r.ds := by
  have ar : ∀ (r x : R9) a, x.ds = r.ds → (r.around a x).ds = r.ds := fun r x a e => pif (P := fun y : R9 => y.ds = r.ds) (fun _ => e) fun _ => rfl
  have af : ∀ g, (r.after g).ds = r.ds := fun g => by
    unfold R9.after
    refine pif (P := fun y : R9 => y.ds = r.ds) (fun _ => ?_) fun _ => ?_
    · unfold R9.rested
      repeat' refine pif (P := fun y : R9 => y.ds = r.ds) (fun _ => ?_) fun _ => ?_
      all_goals first
        | rfl
        | exact ar _ _ _ rfl
    · unfold R9.told
      repeat' refine pif (P := fun y : R9 => y.ds = r.ds) (fun _ => ?_) fun _ => ?_
      all_goals first
        | rfl
        | exact ar _ _ _ rfl
  unfold stepR9
  refine pif (P := fun y : AS × R9 => y.2.ds = r.ds) (fun _ => rfl) fun _ => ?_
  split
  · rfl
  · exact af _

/-! ### the machines of a test -/
def ElP (h : Heap) (F : Nat → Prop) (d : Den KPOp) (e : Den KR9) : Prop :=
  ∃ ds o r, d = POp.den o ∧ e = R9.den r ∧ RelP ds o r ∧ Arr h KP2 r.ds ds ∧ ∀ x, blkOf r.ds x → h x ≠ none ∧ ¬ F x
theorem ElP.step {h h' F F' d e} (E : ElP h F d e) (s : Step F F' h h') : ElP h' F' d e := by
  obtain ⟨ds, o, r, q1, q2, q3, q4, q5⟩ := E
  exact ⟨ds, o, r, q1, q2, q3, Arr.ext s.1 q4 (fun x p => (q5 x p).2), fun x p => ⟨fun c => (q5 x p).1 (s.1.2 x c), s.off (T := blkOf r.ds) (fun x p => (q5 x p).2) (fun x p => (q5 x p).1) x p⟩⟩
abbrev PMf := Fin 4 → Den KPOp
abbrev PMg := Fin 4 → Den KR9
structure PMi (h0 : Heap) (bA bM : Nat) (n : Nat) (m m' : AS) (f : PMf) (g : PMg) (S S' : Nat → Prop) (h : Heap) : Prop where
  ra : RA h0 bA m S h
  rm : RMem h0 bM m' S' h
  d1 : ∀ x, S x → ¬ S' x
  fit : m.Fit n
  el : ∀ i (hi : i < 4), ElP h (fun x => S x ∨ S' x) (f ⟨i, hi⟩) (g ⟨i, hi⟩)
section
variable {h0 : Heap} {bA bM n : Nat} {m m' : AS} {f : PMf} {g : PMg} {S S' : Nat → Prop} {h : Heap} (o : PMi h0 bA bM n m m' f g S S' h)
include o
theorem PMi.live {x : Nat} (hx : S x ∨ S' x) : h x ≠ none := hx.elim (fun q => o.ra.live q) fun q => o.rm.live q
theorem PMi.putA {m1 : AS} {S1 : Nat → Prop} {h1 : Heap} {n1 : Nat} (a : RA h0 bA m1 S1 h1) (s : Step S S1 h h1) (ft : m1.Fit n1) : PMi h0 bA bM n1 m1 m' f g S1 S' h1 := by
  have st : Step (fun x => S x ∨ S' x) (fun x => S1 x ∨ S' x) h h1 := ⟨s.1.mono fun x q => .inl q, fun x q => q.elim (fun q => (s.2 x q).imp .inl id) fun q => .inl (.inr q)⟩
  exact ⟨a, o.rm.ext s.1 (fun x q r => o.d1 x r q) (fun x hx => o.ra.fresh hx), fun x q r => s.off (T := S') (fun x q r => o.d1 x r q) (fun x q => o.rm.live q) x r q, ft, fun i hi => (o.el i hi).step st⟩
theorem PMi.putM {m1 : AS} {S1 : Nat → Prop} {h1 : Heap} (a : RMem h0 bM m1 S1 h1) (s : Step S' S1 h h1) : PMi h0 bA bM n m m1 f g S S1 h1 := by
  have st : Step (fun x => S x ∨ S' x) (fun x => S x ∨ S1 x) h h1 := ⟨s.1.mono fun x q => .inr q, fun x q => q.elim (fun q => .inl (.inl q)) fun q => (s.2 x q).imp .inr id⟩
  exact ⟨o.ra.ext s.1 (fun x q r => o.d1 x q r) (fun x hx => o.rm.fresh hx), a, s.off (T := S) (fun x q r => o.d1 x q r) (fun x q => o.ra.live q), o.fit, fun i hi => (o.el i hi).step st⟩
theorem PMi.more {h1 : Heap} (l : Go.Mx.le h h1) {n1 : Nat} (hn : n ≤ n1) : PMi h0 bA bM n1 m m' f g S S' h1 :=
  ⟨o.ra.more l, o.rm.ext (T := fun _ => False) l.toExt (fun _ _ => id) (fun _ q => q.elim), o.d1, ⟨by have := o.fit.lg; omega, o.fit.cs, o.fit.sz⟩, fun i hi => (o.el i hi).step ⟨(l.toExt (S := fun _ => False)).mono fun _ q => q.elim, fun x q => .inl q⟩⟩
theorem PMi.putE {r : Nat} {d : Den KPOp} {e : Den KR9} (E : ElP h (fun x => S x ∨ S' x) d e) : PMi h0 bA bM n m m' (aset (n := 4) (a := KPOp) f r d) (aset (n := 4) (a := KR9) g r e) S S' h := by
  refine ⟨o.ra, o.rm, o.d1, o.fit, fun i hi => ?_⟩
  by_cases c : i = r
  · have e1 : aset (n := 4) (a := KPOp) f r d ⟨i, hi⟩ = d := if_pos c
    have e2 : aset (n := 4) (a := KR9) g r e ⟨i, hi⟩ = e := if_pos c
    rw [e1, e2]; exact E
  · have e1 : aset (n := 4) (a := KPOp) f r d ⟨i, hi⟩ = f ⟨i, hi⟩ := if_neg c
    have e2 : aset (n := 4) (a := KR9) g r e ⟨i, hi⟩ = g ⟨i, hi⟩ := if_neg c
    rw [e1, e2]; exact o.el i hi
end
theorem agetF {f : PMf} {i : Nat} (hi : i < 4) : aget (n := 4) (a := KPOp) f i = f ⟨i, hi⟩ := dif_pos hi
theorem agetG {f : PMg} {i : Nat} (hi : i < 4) : aget (n := 4) (a := KR9) f i = f ⟨i, hi⟩ := dif_pos hi
end Go.Mx
