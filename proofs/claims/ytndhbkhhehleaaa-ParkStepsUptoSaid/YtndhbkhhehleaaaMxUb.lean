/-
  The reference's deque machine: the walks.
-/
import Derived.Test.YtndhbkhhehleaaaMxUa
import Derived.Test.YtndhbkhhehleaaaMxMm
import Derived.Test.YtndhbkhhehleaaaMxPt
set_option linter.unusedVariables false
set_option linter.unusedSimpArgs false
set_option linter.unusedSectionVars false
namespace Go.Mx

theorem ifw {c : Prop} [Decidable c] {α : Type} {x y : α} {Q : α → Heap → Prop} {h : Heap} {A B : Prop} (hA : c → Q x h → A) (hB : ¬ c → Q y h → B) (hQ : Q (if c then x else y) h) : (decide c = true → A) ∧ (decide c = false → B) :=
  ⟨fun e => hA (of_decide_eq_true e) (by rw [if_pos (of_decide_eq_true e)] at hQ; exact hQ), fun e => hB (of_decide_eq_false e) (by rw [if_neg (of_decide_eq_false e)] at hQ; exact hQ)⟩
theorem ld_sees3 {h : Heap} {k : Kd} {a : Addr} {y : Den k} (H : ld k h a fun z => z = y) : sees h (some a) k y := by
  obtain ⟨z, q1, rfl⟩ := H
  exact q1
theorem deref_some3 {a : Addr} {K : Addr → Prop} (h : K a) : deref (some a) K := h
theorem Arr.getN {h : Heap} {s : Sl} {xs : List (Den ki)} (c : Arr h ki s xs) {a : Addr} (ha : s.a = some a) {i : Nat} (hi : i < s.len) {K : Int → Prop} (hK : K (xs.getD i (0 : Int))) : ld ki h (a.add (i * 1)) K := by
  have hl := c.1
  have hx : xs[i]? = some (xs.getD i (0 : Int)) := by rw [List.getD_eq_getElem?_getD, List.getElem?_eq_getElem (by omega)]; rfl
  exact c.ldAt ha hx (sz := 1) rfl hK
def WLoadC (c : Int → Heap → (Wn → Heap → Prop) → Prop) : Prop := ∀ {a : Int} {h : Heap} {Q : Wn → Heap → Prop}, Q (wLd a) h → c a h Q
def WStoreC (c : Int → Int → Heap → (Wn → Heap → Prop) → Prop) : Prop := ∀ {a v : Int} {h : Heap} {Q : Wn → Heap → Prop}, Q (wSt a v) h → c a v h Q
def WEndC (c : Int → Int → Heap → (Wn → Heap → Prop) → Prop) : Prop := ∀ {a v : Int} {h : Heap} {Q : Wn → Heap → Prop}, Q (wEnd a v) h → c a v h Q
def WModC (c : Int → Int → Heap → (Int → Heap → Prop) → Prop) : Prop := ∀ {x n : Int} {h : Heap} {Q : Int → Heap → Prop}, n ≠ 0 → Q (modR x n) h → c x n h Q
def WAtC (c : Int → Int → Int → Heap → (Int → Heap → Prop) → Prop) : Prop := ∀ {a n i : Int} {h : Heap} {Q : Int → Heap → Prop}, n ≠ 0 → Q (atR a n i) h → c a n i h Q
def WLastC (c : Den KP2 → Int → Int → Int → Int → Int → Heap → (Wn → Heap → Prop) → Prop) : Prop := ∀ {base most v a n b i : Int} {h : Heap} {Q : Wn → Heap → Prop}, n ≠ 0 → Q (lastR base v a n b i) h → c (base, (most, ())) v a n b i h Q
def WPushC (c : Den KP2 → Int → Sl → Heap → (Wn → Heap → Prop) → Prop) : Prop := ∀ {base most v : Int} {s : Sl} {h : Heap} {hs : List Int} {Q : Wn → Heap → Prop}, Arr h ki s hs → hs.length ≤ 1000000000 → Q (pushR base most v hs) h → c (base, (most, ())) v s h Q
def WHC (f : Int → List Int → Wn) (c : Den KP2 → Sl → Heap → (Wn → Heap → Prop) → Prop) : Prop := ∀ {base most : Int} {s : Sl} {h : Heap} {hs : List Int} {Q : Wn → Heap → Prop}, Arr h ki s hs → hs.length ≤ 1000000000 → Q (f base hs) h → c (base, (most, ())) s h Q
theorem nz {x : Int} (h : ¬ x < 1) : x ≠ 0 := by omega
theorem c2R_pos {most c : Int} (h1 : 1 ≤ most) (h2 : most ≤ 4096) (h3 : 1 ≤ c) (h4 : ¬ most ≤ c) : c2R most c ≠ 0 := by
  unfold c2R
  rw [w64_of (x := 2 * c) (by omega) (by omega)]
  split <;> omega
end Go.Mx
