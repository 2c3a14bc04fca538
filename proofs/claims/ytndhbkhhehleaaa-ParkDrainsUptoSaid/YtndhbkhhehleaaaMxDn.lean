/-
  deque.New over an arena; Cells.
-/
import Derived.Test.YtndhbkhhehleaaaMxAs
set_option linter.unusedVariables false
set_option linter.unusedSimpArgs false
namespace Go.Mx

def CapE (low most : Int) : Prop := 1 ≤ low ∧ low ≤ most ∧ most ≤ 4096
instance (low most : Int) : Decidable (CapE low most) := by unfold CapE; infer_instance
theorem caps_spec {low most : Int} {h : Heap} {Q : Bool → Heap → Prop} (hT : CapE low most → Q true h) (hF : ¬ CapE low most → Q false h) : deque_capsOK.M low most h Q := by
  refine ⟨fun e => ⟨fun f => ?_, fun f => ?_⟩, fun e => ?_⟩
  · have e : (1 : Int) ≤ low := of_decide_eq_true e
    have f : low ≤ most := of_decide_eq_true f
    by_cases g : most ≤ 4096
    · rw [decide_eq_true g]; exact hT ⟨e, f, g⟩
    · rw [decide_eq_false g]; exact hF fun q => g q.2.2
  · have f : ¬ low ≤ most := of_decide_eq_false f
    exact hF fun q => f q.2.1
  · have e : ¬ (1 : Int) ≤ low := of_decide_eq_false e
    exact hF fun q => e q.1
def cellsGo (most : Int) : Nat → Int → Int → Int
  | 0, n, _ => n
  | k + 1, n, c => if c < most then cellsGo most k (n + 1 + (if most < 2 * c then most else 2 * c)) (if most < 2 * c then most else 2 * c) else n
def cellsOf (low most : Int) : Int := cellsGo most 4096 (4 + low) low
theorem cellsGo_end {most n c : Int} (h : ¬ c < most) : ∀ k, cellsGo most k n c = n
  | 0 => rfl
  | k + 1 => by rw [cellsGo, if_neg h]

theorem cellsGo_ge (most : Int) : ∀ (k : Nat) (n c : Int), 0 ≤ c → n ≤ cellsGo most k n c
  | 0, n, c, h => Int.le_refl _
  | k + 1, n, c, h => by
    rw [cellsGo]
    by_cases q : c < most
    · rw [if_pos q]
      have h2 : 0 ≤ (if most < 2 * c then most else 2 * c) := by split <;> omega
      have := cellsGo_ge most k (n + 1 + (if most < 2 * c then most else 2 * c)) _ h2
      omega
    · rw [if_neg q]; exact Int.le_refl _
def CellI (low most : Int) (h : Heap) (n c : Int) (k : Heap) : Prop := k = h ∧ 1 ≤ c ∧ c ≤ most ∧ 4 ≤ n ∧ n ≤ 4100 * c + 4 ∧ ∃ f : Nat, most - c ≤ (f : Int) ∧ cellsGo most f n c = cellsOf low most
theorem dcells_spec {low most : Int} {h : Heap} {c1 : Int → Int → Heap → (Bool → Heap → Prop) → Prop} (i1 : ∀ {a b h Q}, deque_capsOK.M a b h Q → c1 a b h Q) {Q : Int → Heap → Prop} (hT : CapE low most → Q (cellsOf low most) h) (hF : ¬ CapE low most → Q 0 h) : deque_Cells.M c1 low most h Q := by
  refine i1 (caps_spec (fun q => ⟨fun e => (by cases e), fun _ => ?_⟩) (fun q => ⟨fun _ => hF q, fun e => (by cases e)⟩))
  obtain ⟨q1, q2, q3⟩ := q
  refine ⟨fun s k => CellI low most h s.1 s.2.1 k, fun s k => (most - s.2.1).toNat, ?_, ?_⟩
  · have w : w64 (4 + low) = 4 + low := by rw [w64_of] <;> omega
    show CellI low most h (w64 (4 + low)) low h
    rw [w]
    exact ⟨rfl, q1, q2, by omega, by omega, 4096, by omega, rfl⟩
  rintro ⟨n, c, u⟩ k hI
  change Int at n c
  obtain ⟨rfl, a1, a2, a3, a4, f, a5, a6⟩ : CellI low most h n c k := hI
  have w2 : w64 (2 * c) = 2 * c := by rw [w64_of] <;> omega
  refine ⟨fun e => ?_, fun e => ?_⟩
  · have e : c < most := of_decide_eq_true e
    dsimp only
    rw [w2]
    obtain ⟨f, rfl⟩ : ∃ g, f = g + 1 := ⟨f - 1, by omega⟩
    rw [cellsGo, if_pos e] at a6
    have hc : 1 ≤ (if most < 2 * c then most else 2 * c) ∧ (if most < 2 * c then most else 2 * c) ≤ most ∧ c < (if most < 2 * c then most else 2 * c) := by split <;> omega
    generalize (if most < 2 * c then most else 2 * c) = c' at *
    have w3 : w64 (1 + c') = 1 + c' := by rw [w64_of] <;> omega
    have w4 : w64 (n + (1 + c')) = n + 1 + c' := by rw [w64_of] <;> omega
    show CellI low most k (w64 (n + w64 (1 + c'))) c' k ∧ (most - c').toNat < (most - c).toNat
    rw [w3, w4]
    exact ⟨⟨rfl, hc.1, hc.2.1, by omega, by omega, f, by omega, a6⟩, by omega⟩
  · have e : ¬ c < most := of_decide_eq_false e
    rw [cellsGo_end e] at a6
    show Q n k
    rw [a6]
    exact hT ⟨q1, q2, q3⟩
def laid (low : Int) (cs : List Int) : List Int := ((cs ++ List.replicate (4 + low).toNat 0).set (cs.length + 2) ((cs.length : Int) + 3)).set (cs.length + 3) low
end Go.Mx
