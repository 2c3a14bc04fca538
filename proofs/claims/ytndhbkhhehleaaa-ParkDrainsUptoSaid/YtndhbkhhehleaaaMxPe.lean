/-
  Parking: the walks of the reference's machines.
  ParkMicro: the walk.
  ParkMicro: the moves, the law.
  ParkMicro: how machines begin.
-/
import Derived.Test.YtndhbkhhehleaaaMxPc
import Derived.Test.YtndhbkhhehleaaaMxXa
set_option linter.unusedVariables false
set_option linter.unusedSimpArgs false
set_option linter.unusedSectionVars false
namespace Go.Mx

def wAdd (a d : Int) : Wn := (3, (a, (d, (0, (0, (0, ()))))))
def Ra.want : Ra → Wn
  | .rq r => r.want
  | .add a d => wAdd a d
structure R9Ok (h : Heap) (ds : List (Den KP2)) (r : R9) : Prop where
  w : r.at_ ≠ 0 → r.workers ≠ 0
  d : r.at_ = 4 ∨ r.at_ = 5 → Arr h KP2 r.ds ds ∧ 0 ≤ r.who ∧ r.who < (ds.length : Int)
end Go.Mx

namespace Go.Mx

def ElP (h : Heap) (F : Nat → Prop) (d : Den KPOp) (e : Den KR9) : Prop :=
  ∃ ds o r, d = POp.den o ∧ e = R9.den r ∧ RelP ds o r ∧ Arr h KP2 r.ds ds ∧ ∀ x, blkOf r.ds x → h x ≠ none ∧ ¬ F x
abbrev PMf := Fin 4 → Den KPOp
abbrev PMg := Fin 4 → Den KR9
structure PMi (h0 : Heap) (bA bM : Nat) (n : Nat) (m m' : AS) (f : PMf) (g : PMg) (S S' : Nat → Prop) (h : Heap) : Prop where
  ra : RA h0 bA m S h
  rm : RMem h0 bM m' S' h
  d1 : ∀ x, S x → ¬ S' x
  fit : m.Fit n
  el : ∀ i (hi : i < 4), ElP h (fun x => S x ∨ S' x) (f ⟨i, hi⟩) (g ⟨i, hi⟩)
section
variable {h0 : Heap} {bA bM n : Nat} {m m' : AS} {f : PMf} {g : PMg} {S S' : Nat → Prop} {h : Heap} (o : PMi h0 bA bM n m m' f g S S' h)
include o
end
end Go.Mx

namespace Go.Mx

def PAnsC (c : Den KPOp → Heap → (Den KP2 → Heap → Prop) → Prop) : Prop := ∀ {o : POp} {h : Heap} {Q : Den KP2 → Heap → Prop}, Q (o.answer.1, (o.answer.2, ())) h → c o.den h Q
def PParkC (c : Den KPOp → Heap → (Bool → Heap → Prop) → Prop) : Prop := ∀ {o : POp} {h : Heap} {Q : Bool → Heap → Prop}, Q o.parked h → c o.den h Q
theorem pans_spec : PAnsC park_Answer.M := by
  intro o h Q hQ
  unfold POp.answer at hQ
  refine ⟨fun e => ?_, fun e => ⟨fun e2 => ?_, fun e2 => ?_⟩⟩
  · have e : o.st.kind = 0 := of_decide_eq_true e
    rw [if_pos e] at hQ; exact hQ
  · have e : ¬ o.st.kind = 0 := of_decide_eq_false e
    have e2 : o.st.at_ ≠ 0 := of_decide_eq_true e2
    rw [if_neg e, if_pos e2] at hQ; exact hQ
  · have e : ¬ o.st.kind = 0 := of_decide_eq_false e
    have e2 : ¬ o.st.at_ ≠ 0 := of_decide_eq_false e2
    rw [if_neg e, if_neg e2] at hQ; exact hQ
theorem ppark_spec : PParkC park_Parked.M := by
  intro o h Q hQ
  unfold POp.parked at hQ
  refine ⟨fun e => ?_, fun e => ?_⟩
  · have e : o.st.kind = 1 := of_decide_eq_true e
    rw [if_pos e] at hQ; exact hQ
  · have e : ¬ o.st.kind = 1 := of_decide_eq_false e
    rw [if_neg e] at hQ; exact hQ
section
variable {c3 : Den KMv → Int → Int → Sl → Heap → ((Den KPOp × (Den KR9 × Unit)) → Heap → Prop) → Prop} {c4 : Option Addr → Int → Heap → (Unit → Heap → Prop) → Prop} {c5 : Value → Den KPOp → Heap → (Den KPOp → Heap → Prop) → Prop}
  {c6 : Option Addr → Den KR9 → Heap → (Den KR9 → Heap → Prop) → Prop} {c7 : Heap → (Den KR9 → Heap → Prop) → Prop} {c8 : Int → Heap → ((Option Addr × (Int × Unit)) → Heap → Prop) → Prop} {c9 : Den KPOp → Heap → (Den KP2 → Heap → Prop) → Prop} {c10 : Den KR9 → Heap → (Den KP2 → Heap → Prop) → Prop}
  {c11 : Den KPOp → Heap → (Bool → Heap → Prop) → Prop} {c12 : Den KR9 → Heap → (Bool → Heap → Prop) → Prop}
  {Q : Bool → Heap → Prop} {h0 : Heap} {bA bM n : Nat} {m : AS} {f : PMf} {g : PMg} {S S' : Nat → Prop} {h : Heap}
end
end Go.Mx

namespace Go.Mx

def RightP (w self : Int) : Prop := 1 ≤ w ∧ w ≤ 64 ∧ 0 ≤ self ∧ self < w
def RestPOk (w self : Int) (dl : List (Den KP2)) : Prop := RightP w self ∧ (dl.length : Int) = w ∧ ∀ (i : Nat) (x : Den KP2), dl[i]? = some x → (i : Int) ≠ self → (1 : Int) ≤ x.2.1 ∧ (x.2.1 : Int) ≤ 4096
def dsUp (dl : List (Den KP2)) (n : Nat) : Dqs := fun j => if j.val < n then dqAt dl j.val else (0, (0, ()))
def restD (base w self : Int) (dl : List (Den KP2)) : POp := ⟨⟨base, w, self, 1, 1, 0, 0, 0, 0⟩, dsUp dl dl.length, .zero⟩
def wakeD (base w self : Int) : POp := ⟨⟨base, w, self, 2, 8, 1, 0, 0, 0⟩, fun _ => (0, (0, ())), .zero⟩
def finD (base w self : Int) : POp := ⟨⟨base, w, self, 4, 10, 1, 0, 0, 0⟩, fun _ => (0, (0, ())), .zero⟩
theorem dqAt_of {dl : List (Den KP2)} {i : Nat} {x : Den KP2} (h : dl[i]? = some x) : dqAt dl i = x := by unfold dqAt; rw [Int.toNat_natCast, h]; rfl
theorem RelP.rest {base w self : Int} {dl : List (Den KP2)} {s : Sl} (ok : RestPOk w self dl) (hb : I64 base) (hd : ∀ x ∈ dl, I64 x.1) : RelP dl (restD base w self dl) ⟨1, self, 0, 0, base, w, s, 0, 0, 0⟩ := by
  obtain ⟨⟨w1, w2, s0, s1⟩, hl, od⟩ := ok
  refine .inr { b := rfl, w := rfl, s := rfl, w1 := w1, w2 := w2, s0 := s0, s1 := s1, bi := hb, at_ := .inl ⟨rfl, hl, fun i h hi => ?_, .inl ⟨rfl, rfl, rfl, rfl⟩⟩ }
  have hi : (i : Int) < w := hi
  have hlt : i < dl.length := by omega
  have hx : dl[i]? = some dl[i] := List.getElem?_eq_getElem hlt
  refine ⟨if_pos hlt, ?_, fun hne => ?_⟩
  · rw [dqAt_of hx]; exact hd _ (List.getElem_mem hlt)
  · rw [dqAt_of hx]; exact od i _ hx hne
theorem RelP.wake {base w self : Int} (ok : RightP w self) (hb : I64 base) : RelP [] (wakeD base w self) ⟨9, self, 0, 0, base, w, Sl.none, 0, 0, 0⟩ := by
  obtain ⟨w1, w2, s0, s1⟩ := ok
  exact .inr { b := rfl, w := rfl, s := rfl, w1 := w1, w2 := w2, s0 := s0, s1 := s1, bi := hb, at_ := .inr (.inl ⟨rfl, .inl ⟨rfl, rfl, rfl, rfl⟩⟩) }
theorem RelP.fin {base w self : Int} (ok : RightP w self) (hb : I64 base) : RelP [] (finD base w self) ⟨13, self, 0, 0, base, w, Sl.none, 0, 0, 0⟩ := by
  obtain ⟨w1, w2, s0, s1⟩ := ok
  exact .inr { b := rfl, w := rfl, s := rfl, w1 := w1, w2 := w2, s0 := s0, s1 := s1, bi := hb, at_ := .inr (.inr (.inr ⟨rfl, .inl ⟨rfl, rfl, rfl, rfl⟩⟩)) }
def PCellsC (c : Int → Heap → (Int → Heap → Prop) → Prop) : Prop := ∀ {w : Int} {h : Heap} {Q : Int → Heap → Prop}, (¬ (1 ≤ w ∧ w ≤ 64) → Q 0 h) → (1 ≤ w → w ≤ 64 → Q (2 + w) h) → c w h Q
def PRightC (c : Den KP2 → Int → Heap → (Bool → Heap → Prop) → Prop) : Prop := ∀ {base w self : Int} {h : Heap} {Q : Bool → Heap → Prop}, (RightP w self → Q true h) → (¬ RightP w self → Q false h) → c (base, (w, ())) self h Q
theorem pkcells_spec : PCellsC park_Cells.M := by
  intro w h Q h0 h1
  refine ⟨fun e => ⟨fun _ => h0 fun q => ?_, fun q => (by cases q)⟩, fun e => ?_⟩
  · have := of_decide_eq_true e; omega
  · have e := of_decide_eq_false e
    show park_Cells.j2 w Q (decide ((64 : Int) < w), ()) h
    by_cases c : 64 < w
    · rw [decide_eq_true c]; exact ⟨fun _ => h0 fun q => (by omega), fun q => (by cases q)⟩
    · rw [decide_eq_false c]
      refine ⟨fun q => (by cases q), fun _ => ?_⟩
      show Q (w64 (2 + w)) h
      rw [w64_of (by omega) (by omega)]
      exact h1 (by omega) (by omega)
theorem pright_spec {cc} (iC : PCellsC cc) : PRightC (park_Lot_right.M cc) := by
  intro base w self h Q h1 h0
  refine iC (w := w) (fun q => ⟨fun e => absurd (of_decide_eq_true e) (by decide), fun _ => h0 fun z => q ⟨z.1, z.2.1⟩⟩) fun w1 w2 => ⟨fun _ => ⟨fun e => ?_, fun e => h0 fun z => of_decide_eq_false e z.2.2.1⟩, fun e => absurd (show (0 : Int) < 2 + w by omega) (of_decide_eq_false e)⟩
  have e : 0 ≤ self := of_decide_eq_true e
  show Q (decide (self < w)) h
  by_cases c : self < w
  · rw [decide_eq_true c]; exact h1 ⟨w1, w2, e, c⟩
  · rw [decide_eq_false c]; exact h0 fun z => c z.2.2.2
def PBegC (R : Int → Int → Prop) (f : Int → Int → Int → Den KPOp) (c : Den KP2 → Int → Heap → (Den KPOp → Heap → Prop) → Prop) : Prop := ∀ {base w self : Int} {h : Heap} {Q : Den KPOp → Heap → Prop}, (R w self → Q (f base w self) h) → (¬ R w self → Q POp.zero.den h) → c (base, (w, ())) self h Q
theorem pwake_spec {cr} (iR : PRightC cr) : PBegC RightP (fun b w s => (wakeD b w s).den) (park_Wake.M cr) := by
  intro base w self h Q h1 h0
  exact iR (base := base) (w := w) (fun r => ⟨fun e => (by cases e), fun _ => h1 r⟩) fun r => ⟨fun _ => h0 r, fun e => (by cases e)⟩
theorem pfinish_spec {cr} (iR : PRightC cr) : PBegC RightP (fun b w s => (finD b w s).den) (park_Finish.M cr) := by
  intro base w self h Q h1 h0
  exact iR (base := base) (w := w) (fun r => ⟨fun e => (by cases e), fun _ => h1 r⟩) fun r => ⟨fun _ => h0 r, fun e => (by cases e)⟩
def PRestC (c : Den KP2 → Int → Sl → Heap → (Den KPOp → Heap → Prop) → Prop) : Prop := ∀ {base w self : Int} {s : Sl} {dl : List (Den KP2)} {h : Heap} {Q : Den KPOp → Heap → Prop}, Arr h KP2 s dl → (RestPOk w self dl → Q (restD base w self dl).den h) → (¬ RestPOk w self dl → Q POp.zero.den h) → c (base, (w, ())) self s h Q
abbrev PFlat := (Int × (Int × (Int × (Int × (Int × (Int × (Int × (Int × (Int × ((Fin 64 → Den KP2) × (Int × (Int × (Int × (Int × (Int × (Int × (Int × (Int × (Int × (Int × (Int × (Int × (Int × (Bool × Den KP2))))))))))))))))))))))))
def flatP (base w self : Int) (ds : Dqs) : PFlat := (base, (w, (self, (1, (1, (0, (0, (0, (0, (ds, (0, (0, (0, (0, (0, (0, (0, (0, (0, (0, (0, (0, (0, (false, (0, (0, ()))))))))))))))))))))))))))
theorem dsUp_set {dl : List (Den KP2)} {i : Nat} {x : Den KP2} (h : dl[i]? = some x) : aset (n := 64) (a := KP2) (dsUp dl i) i x = dsUp dl (i + 1) := by
  funext j
  unfold aset dsUp
  by_cases c : j.val = i
  · rw [if_pos c, if_pos (by omega), c, dqAt_of h]
  · rw [if_neg c]
    by_cases d : j.val < i
    · rw [if_pos d, if_pos (by omega)]
    · rw [if_neg d, if_neg (by omega)]
theorem prest_spec {cr} (iR : PRightC cr) : PRestC (park_Rest.M cr) := by
  intro base w self s dl h Q a h1 h0
  have hl := a.1
  refine iR (base := base) (w := w) (fun r => ⟨fun e => (by cases e), fun _ => ?_⟩) fun r => ⟨fun _ => ⟨fun _ => h0 fun z => r z.1, fun e => (by cases e)⟩, fun e => (by cases e)⟩
  show park_Rest.j6 (base, (w, ())) self s Q (decide ((s.len : Int) ≠ w), ()) h
  by_cases c : (s.len : Int) ≠ w
  · rw [decide_eq_true c]; exact ⟨fun _ => h0 fun z => c (by rw [← z.2.1, hl]), fun e => (by cases e)⟩
  rw [decide_eq_false c]
  have c : (s.len : Int) = w := Decidable.not_not.1 c
  have w2 : w ≤ 64 := r.2.1
  refine ⟨fun e => (by cases e), fun _ => ?_⟩
  refine Loop.up dl.length (fun s => s.1) (fun i s k => k = h ∧ s.2.2.1 = flatP base w self (dsUp dl i) ∧ ∀ (j : Nat) (x : Den KP2), j < i → dl[j]? = some x → (j : Int) ≠ self → (1 : Int) ≤ x.2.1 ∧ (x.2.1 : Int) ≤ 4096) rfl ⟨rfl, ?_, fun j x q => absurd q (by omega)⟩ ?_
  · show flatP base w self (fun _ => (0, (0, ()))) = _
    have : dsUp dl 0 = fun _ => (0, (0, ())) := by
      funext j
      unfold dsUp
      rw [if_neg (by omega)]
    rw [this]
  rintro i ⟨j, X, Y, u⟩ k go hi hc ⟨rfl, hY, hok⟩ hgo
  dsimp only at hc hY; subst hc; subst hY
  refine ⟨fun e => ?_, fun e => ?_⟩
  · have e : (i : Int) < (s.len : Int) := of_decide_eq_true e
    have hlt : i < dl.length := by omega
    obtain ⟨ad, ha⟩ := a.addr (by omega)
    have hx : dl[i]? = some dl[i] := List.getElem?_eq_getElem hlt
    generalize dl[i] = x at hx
    refine ⟨⟨by omega, e⟩, ?_⟩
    show deref s.a _
    rw [ha, Int.toNat_natCast]
    have good : ((i : Int) ≠ self → (1 : Int) ≤ x.2.1 ∧ (x.2.1 : Int) ≤ 4096) → park_Rest.j3 Q go ((i : Int), (X, (flatP base w self (dsUp dl i), u))) x (false, ()) k := fun gd => by
      unfold park_Rest.j3 park_Rest.j2 park_Rest.j1
      refine ⟨fun e => (by cases e), fun _ => ⟨⟨by show 0 ≤ (i : Int); omega, by show (i : Int) < 64; omega⟩, ?_⟩⟩
      have H := fun s' => hgo hlt s' k
      dsimp only
      refine H _ ?_ ⟨rfl, ?_, ?_⟩
      · show w64 ((i : Int) + 1) = _
        rw [w64_of] <;> omega
      · refine Eq.trans ?_ (congrArg (flatP base w self) (dsUp_set hx))
        rfl
      · intro j y hj hy hne
        by_cases q : j = i
        · subst q; rw [hx] at hy; cases hy; exact gd hne
        · exact hok j y (by omega) hy hne
    have bad : (i : Int) ≠ self → ¬ ((1 : Int) ≤ x.2.1 ∧ (x.2.1 : Int) ≤ 4096) → park_Rest.j3 Q go ((i : Int), (X, (flatP base w self (dsUp dl i), u))) x (true, ()) k := fun hne hb => ⟨fun _ => h0 fun z => hb (z.2.2 i x hx hne), fun e => (by cases e)⟩
    refine a.ldAt ha hx (sz := 2) rfl ⟨fun hne => ⟨fun m1 => ?_, fun m1 => ?_⟩, fun hne => ?_⟩
    · exact bad (of_decide_eq_true hne) fun z => absurd (show (x.2.1 : Int) < 1 from of_decide_eq_true m1) (Int.not_lt.2 z.1)
    · have m1 : ¬ (x.2.1 : Int) < 1 := of_decide_eq_false m1
      show park_Rest.j3 Q go ((i : Int), (X, (flatP base w self (dsUp dl i), u))) x (decide ((4096 : Int) < x.2.1), ()) k
      by_cases c2 : (4096 : Int) < x.2.1
      · rw [decide_eq_true c2]; exact bad (of_decide_eq_true hne) fun z => absurd c2 (Int.not_lt.2 z.2)
      · rw [decide_eq_false c2]; exact good fun _ => ⟨Int.not_lt.1 m1, Int.not_lt.1 c2⟩
    · exact good fun z => absurd z (of_decide_eq_false hne)
  · have e : ¬ (i : Int) < (s.len : Int) := of_decide_eq_false e
    obtain rfl : i = dl.length := by omega
    exact h1 ⟨r, by rw [hl]; exact c, fun j x hj hne => hok j x (List.getElem?_eq_some_iff.1 hj).1 hj hne⟩
end Go.Mx
