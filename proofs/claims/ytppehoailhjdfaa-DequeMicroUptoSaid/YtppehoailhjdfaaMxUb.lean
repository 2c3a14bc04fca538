/-
  The reference's deque machine: the walks.
-/
import Derived.Test.YtppehoailhjdfaaMxUa
import Derived.Test.YtppehoailhjdfaaMxMm
import Derived.Test.YtppehoailhjdfaaMxPt
set_option linter.unusedVariables false
set_option linter.unusedSimpArgs false
set_option linter.unusedSectionVars false
namespace Go.Mx

theorem ifw {c : Prop} [Decidable c] {α : Type} {x y : α} {Q : α → Heap → Prop} {h : Heap} {A B : Prop} (hA : c → Q x h → A) (hB : ¬ c → Q y h → B) (hQ : Q (if c then x else y) h) : (decide c = true → A) ∧ (decide c = false → B) :=
  ⟨fun e => hA (of_decide_eq_true e) (by rw [if_pos (of_decide_eq_true e)] at hQ; exact hQ), fun e => hB (of_decide_eq_false e) (by rw [if_neg (of_decide_eq_false e)] at hQ; exact hQ)⟩
theorem ld_sees3 {h : Heap} {k : Kd} {a : Addr} {y : Den k} (H : ld k h a fun z => z = y) : sees h (some a) k y := by
  obtain ⟨z, q1, rfl⟩ := H
  exact q1
theorem deref_some3 {a : Addr} {K : Addr → Prop} (h : K a) : deref (some a) K := h
theorem Arr.getN {h : Heap} {s : Sl} {xs : List (Den ki)} (c : Arr h ki s xs) {a : Addr} (ha : s.a = some a) {i : Nat} (hi : i < s.len) {K : Int → Prop} (hK : K (xs.getD i (0 : Int))) : ld ki h (a.add (i * 1)) K := by
  have hl := c.1
  have hx : xs[i]? = some (xs.getD i (0 : Int)) := by rw [List.getD_eq_getElem?_getD, List.getElem?_eq_getElem (by omega)]; rfl
  exact c.ldAt ha hx (sz := 1) rfl hK
def WLoadC (c : Int → Heap → (Wn → Heap → Prop) → Prop) : Prop := ∀ {a : Int} {h : Heap} {Q : Wn → Heap → Prop}, Q (wLd a) h → c a h Q
def WStoreC (c : Int → Int → Heap → (Wn → Heap → Prop) → Prop) : Prop := ∀ {a v : Int} {h : Heap} {Q : Wn → Heap → Prop}, Q (wSt a v) h → c a v h Q
def WEndC (c : Int → Int → Heap → (Wn → Heap → Prop) → Prop) : Prop := ∀ {a v : Int} {h : Heap} {Q : Wn → Heap → Prop}, Q (wEnd a v) h → c a v h Q
def WModC (c : Int → Int → Heap → (Int → Heap → Prop) → Prop) : Prop := ∀ {x n : Int} {h : Heap} {Q : Int → Heap → Prop}, n ≠ 0 → Q (modR x n) h → c x n h Q
def WAtC (c : Int → Int → Int → Heap → (Int → Heap → Prop) → Prop) : Prop := ∀ {a n i : Int} {h : Heap} {Q : Int → Heap → Prop}, n ≠ 0 → Q (atR a n i) h → c a n i h Q
def WLastC (c : Den KP2 → Int → Int → Int → Int → Int → Heap → (Wn → Heap → Prop) → Prop) : Prop := ∀ {base most v a n b i : Int} {h : Heap} {Q : Wn → Heap → Prop}, n ≠ 0 → Q (lastR base v a n b i) h → c (base, (most, ())) v a n b i h Q
def WPushC (c : Den KP2 → Int → Sl → Heap → (Wn → Heap → Prop) → Prop) : Prop := ∀ {base most v : Int} {s : Sl} {h : Heap} {hs : List Int} {Q : Wn → Heap → Prop}, Arr h ki s hs → hs.length ≤ 1000000000 → Q (pushR base most v hs) h → c (base, (most, ())) v s h Q
def WHC (f : Int → List Int → Wn) (c : Den KP2 → Sl → Heap → (Wn → Heap → Prop) → Prop) : Prop := ∀ {base most : Int} {s : Sl} {h : Heap} {hs : List Int} {Q : Wn → Heap → Prop}, Arr h ki s hs → hs.length ≤ 1000000000 → Q (f base hs) h → c (base, (most, ())) s h Q
theorem wload_spec : WLoadC ref3_load.M := fun q => q
theorem wstore_spec : WStoreC ref3_store.M := fun q => q
theorem wend_spec : WEndC ref3_end.M := fun q => q
theorem wmod_spec : WModC ref3_Mod.M := fun {x n h Q} hn hQ => ⟨hn, by unfold modR at hQ; exact ifw (Q := Q) (fun e q => q) (fun e q => q) hQ⟩
theorem wat_spec {cm} (iM : WModC cm) : WAtC (ref3_at.M cm) := fun hn hQ => iM hn hQ
theorem wlast_spec {ca cs ce} (iA : WAtC ca) (iS : WStoreC cs) (iE : WEndC ce) : WLastC (ref3_last.M ca cs ce) := by
  intro base most v a n b i h Q hn hQ
  exact ifw (fun e hQ => iA hn (iS hQ)) (fun e hQ => ifw (fun e hQ => iS hQ) (fun e hQ => iE hQ) hQ) hQ
theorem wlook_spec {cl ce} (iL : WLoadC cl) (iE : WEndC ce) : WHC lookR (ref3_look.M cl ce) := by
  intro base most s h hs Q a hl hQ
  have al := a.1
  unfold lookR at hQ
  rw [al] at hQ
  refine ifw (fun e hQ => iL hQ) (fun e0 hQ => ifw (fun e hQ => iL hQ) (fun e1 hQ => ?_) hQ) hQ
  obtain ⟨p, hp⟩ := a.addr (by omega)
  refine ⟨⟨by omega, by omega⟩, ?_⟩
  rw [hp]
  refine deref_some3 ⟨⟨by omega, by omega⟩, deref_some3 (a.getN hp (i := 0) (by omega) (a.getN hp (i := 1) (by omega) ?_))⟩
  exact ifw (fun e hQ => iE hQ) (fun e hQ => iE hQ) hQ
theorem nz {x : Int} (h : ¬ x < 1) : x ≠ 0 := by omega
theorem wsteal_spec {cl ce ca} (iL : WLoadC cl) (iE : WEndC ce) (iA : WAtC ca) : WHC stealR (ref3_steal.M cl ce ca) := by
  intro base most s h hs Q a hl hQ
  have al := a.1
  unfold stealR at hQ
  rw [al] at hQ
  refine ifw (fun e hQ => iL hQ) (fun e0 hQ => ifw (fun e hQ => iL hQ) (fun e1 hQ => ?_) hQ) hQ
  obtain ⟨p, hp⟩ := a.addr (by omega)
  refine ⟨⟨by omega, by omega⟩, ?_⟩
  rw [hp]
  refine deref_some3 ⟨⟨by omega, by omega⟩, deref_some3 (a.getN hp (i := 0) (by omega) (a.getN hp (i := 1) (by omega) ?_))⟩
  refine ifw (fun e hQ => iE hQ) (fun e2 hQ => ifw (fun e hQ => iL hQ) (fun e3 hQ => ifw (fun e hQ => ?_) (fun e4 hQ => ?_) hQ) hQ) hQ
  · exact ⟨⟨by omega, by omega⟩, deref_some3 (a.getN hp (i := 2) (by omega) (iL hQ))⟩
  refine ⟨⟨by omega, by omega⟩, deref_some3 (a.getN hp (i := 3) (by omega) ?_)⟩
  refine ifw (fun e hQ => iE hQ) (fun e5 hQ => ifw (fun e hQ => ?_) (fun e6 hQ => ifw (fun e hQ => ?_) (fun e7 hQ => ?_) hQ) hQ) hQ
  · refine ⟨⟨by omega, by omega⟩, deref_some3 ⟨⟨by omega, by omega⟩, deref_some3 ⟨⟨by omega, by omega⟩, deref_some3 (a.getN hp (i := 2) (by omega) (a.getN hp (i := 3) (by omega) (a.getN hp (i := 0) (by omega) ?_)))⟩⟩⟩
    exact iA (nz e5) (iL hQ)
  · exact ⟨⟨by omega, by omega⟩, deref_some3 ⟨⟨by omega, by omega⟩, deref_some3 (a.getN hp (i := 0) (by omega) (a.getN hp (i := 0) (by omega) hQ))⟩⟩
  refine ⟨⟨by omega, by omega⟩, deref_some3 (a.getN hp (i := 5) (by omega) (ifw (fun e hQ => ?_) (fun e hQ => iE hQ) hQ))⟩
  exact ⟨⟨by omega, by omega⟩, deref_some3 (a.getN hp (i := 4) (by omega) (iE hQ))⟩
theorem wpop_spec {cl cs ce ca} (iL : WLoadC cl) (iS : WStoreC cs) (iE : WEndC ce) (iA : WAtC ca) : WHC popR (ref3_pop.M cl cs ce ca) := by
  intro base most s h hs Q a hl hQ
  have al := a.1
  unfold popR at hQ
  rw [al] at hQ
  refine ifw (fun e hQ => iL hQ) (fun e0 hQ => ?_) hQ
  obtain ⟨p, hp⟩ := a.addr (by omega)
  refine ⟨⟨by omega, by omega⟩, ?_⟩
  rw [hp]
  refine deref_some3 (a.getN hp (i := 0) (by omega) ?_)
  refine ifw (fun e hQ => iL hQ) (fun e1 hQ => ifw (fun e hQ => iS hQ) (fun e2 hQ => ifw (fun e hQ => iL hQ) (fun e3 hQ => ?_) hQ) hQ) hQ
  refine ⟨⟨by omega, by omega⟩, deref_some3 ⟨⟨by omega, by omega⟩, deref_some3 (a.getN hp (i := 1) (by omega) (a.getN hp (i := 3) (by omega) ?_))⟩⟩
  refine ifw (fun e hQ => ifw (fun e hQ => iS hQ) (fun e hQ => iE hQ) hQ) (fun e4 hQ => ifw (fun e hQ => iL hQ) (fun e5 hQ => ?_) hQ) hQ
  refine ⟨⟨by omega, by omega⟩, deref_some3 (a.getN hp (i := 4) (by omega) ?_)⟩
  refine ifw (fun e hQ => iE hQ) (fun e6 hQ => ifw (fun e hQ => iA (nz e6) (iL hQ)) (fun e7 hQ => ifw (fun e hQ => ?_) (fun e8 hQ => ifw (fun e hQ => hQ) (fun e9 hQ => ifw (fun e hQ => iS hQ) (fun e10 hQ => ?_) hQ) hQ) hQ) hQ) hQ
  · exact ⟨⟨by omega, by omega⟩, deref_some3 (a.getN hp (i := 5) (by omega) (iE hQ))⟩
  refine ⟨⟨by omega, by omega⟩, deref_some3 (a.getN hp (i := 6) (by omega) (ifw (fun e hQ => ?_) (fun e hQ => iE hQ) hQ))⟩
  exact ⟨⟨by omega, by omega⟩, deref_some3 (a.getN hp (i := 5) (by omega) (iE hQ))⟩
theorem c2R_pos {most c : Int} (h1 : 1 ≤ most) (h2 : most ≤ 4096) (h3 : 1 ≤ c) (h4 : ¬ most ≤ c) : c2R most c ≠ 0 := by
  unfold c2R
  rw [w64_of (x := 2 * c) (by omega) (by omega)]
  split <;> omega
theorem wpush_spec {cl cs ce ca ct} (iL : WLoadC cl) (iS : WStoreC cs) (iE : WEndC ce) (iA : WAtC ca) (iT : WLastC ct) : ∀ {base most v : Int} {s : Sl} {h : Heap} {hs : List Int} {Q : Wn → Heap → Prop}, 1 ≤ most → most ≤ 4096 → Arr h ki s hs → hs.length ≤ 1000000000 → Q (pushR base most v hs) h → ref3_push.M cl ce ct cs ca (base, (most, ())) v s h Q := by
  intro base most v s h hs Q m1 m2 a hl hQ
  have al := a.1
  unfold pushR at hQ
  rw [al] at hQ
  refine ifw (fun e hQ => iL hQ) (fun e0 hQ => ifw (fun e hQ => iL hQ) (fun e1 hQ => ifw (fun e hQ => iL hQ) (fun e2 hQ => ?_) hQ) hQ) hQ
  obtain ⟨p, hp⟩ := a.addr (by omega)
  refine ifw (fun e hQ => ⟨⟨by omega, by omega⟩, ?_⟩) (fun e3 hQ => ⟨⟨by omega, by omega⟩, ?_⟩) hQ
  · rw [hp]
    exact deref_some3 (a.getN hp (i := 2) (by omega) (iL hQ))
  rw [hp]
  refine deref_some3 ⟨⟨by omega, by omega⟩, deref_some3 ⟨⟨by omega, by omega⟩, deref_some3 ⟨⟨by omega, by omega⟩, deref_some3 (a.getN hp (i := 0) (by omega) (a.getN hp (i := 1) (by omega) (a.getN hp (i := 2) (by omega) (a.getN hp (i := 3) (by omega) ?_))))⟩⟩⟩
  refine ifw (fun e hQ => iE hQ) (fun e4 hQ => ifw (fun e hQ => iT (nz e4) hQ) (fun e5 hQ => ifw (fun e hQ => iE hQ) (fun e6 hQ => ifw (fun e hQ => hQ) (fun e7 hQ => ?_) hQ) hQ) hQ) hQ
  have c2 := c2R_pos m1 m2 (Int.not_lt.1 e4) e6
  refine ⟨⟨by omega, by omega⟩, deref_some3 (a.getN hp (i := 4) (by omega) (ifw (fun e hQ => iS hQ) (fun e8 hQ => ⟨by decide, ?_⟩) hQ))⟩
  refine ifw (fun e hQ => ⟨by decide, by decide, ifw (fun e hQ => iA (nz e4) (iL hQ)) (fun e9 hQ => ?_) hQ⟩) (fun e10 hQ => ifw (fun e hQ => iS hQ) (fun e11 hQ => iT c2 hQ) hQ) hQ
  have hw : w64 ((s.len : Int) - 1) = ((s.len - 1 : Nat) : Int) := by rw [w64_of] <;> omega
  rw [hw]
  refine ⟨⟨by omega, by omega⟩, deref_some3 ?_⟩
  rw [Int.toNat_natCast]
  refine a.getN hp (i := s.len - 1) (by omega) (iA c2 ⟨ld_sees3 (a.getN hp (i := s.len - 1) (by omega) rfl), iS hQ⟩)
end Go.Mx
