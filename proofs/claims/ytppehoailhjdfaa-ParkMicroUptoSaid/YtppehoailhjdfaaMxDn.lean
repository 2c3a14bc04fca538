/-
  deque.New over an arena; Cells.
-/
import Derived.Test.YtppehoailhjdfaaMxAs
set_option linter.unusedVariables false
set_option linter.unusedSimpArgs false
namespace Go.Mx

def CapE (low most : Int) : Prop := 1 ≤ low ∧ low ≤ most ∧ most ≤ 4096
instance (low most : Int) : Decidable (CapE low most) := by unfold CapE; infer_instance
/-! ### Cells -/
def cellsGo (most : Int) : Nat → Int → Int → Int
  | 0, n, _ => n
  | k + 1, n, c => if c < most then cellsGo most k (n + 1 + (if most < 2 * c then most else 2 * c)) (if most < 2 * c then most else 2 * c) else n
def cellsOf (low most : Int) : Int := cellsGo most 4096 (4 + low) low
theorem cellsGo_end {most n c : Int} (h : ¬ c < most) : ∀ k, cellsGo most k n c = n
  | 0 => rfl
  | k + 1 => by rw [cellsGo, if_neg h]

theorem cellsGo_ge (most : Int) : ∀ (k : Nat) (n c : Int), 0 ≤ c → n ≤ cellsGo most k n c
  | 0, n, c, h => Int.le_refl _
  | k + 1, n, c, h => by
    rw [cellsGo]
    by_cases q : c < most
    · rw [if_pos q]
      have h2 : 0 ≤ (if most < 2 * c then most else 2 * c) := by split <;> omega
      have := cellsGo_ge most k (n + 1 + (if most < 2 * c then most else 2 * c)) _ h2
      omega
    · rw [if_neg q]; exact Int.le_refl _
def CellI (low most : Int) (h : Heap) (n c : Int) (k : Heap) : Prop := k = h ∧ 1 ≤ c ∧ c ≤ most ∧ 4 ≤ n ∧ n ≤ 4100 * c + 4 ∧ ∃ f : Nat, most - c ≤ (f : Int) ∧ cellsGo most f n c = cellsOf low most
/-! ### New -/
/-- What it lays, over n cells that are in use. -/
def laid (low : Int) (cs : List Int) : List Int := ((cs ++ List.replicate (4 + low).toNat 0).set (cs.length + 2) ((cs.length : Int) + 3)).set (cs.length + 3) low
def laidL (low : Int) (cs : List Int) (lg : List Acc) (who : Int) : List Acc :=
  ((lg ++ [(who, (4, ((cs.length : Int), (4 + low, (0, (true, ()))))))]) ++ [(who, (1, ((cs.length : Int) + 2, ((cs.length : Int) + 3, (0, (true, ()))))))]) ++ [(who, (1, ((cs.length : Int) + 3, (low, (0, (true, ()))))))]
/-- What New tells. -/
def dqR (sz low most : Int) (cs : List Int) : Den K2 × (Int × Unit) :=
  if ¬ CapE low most then ((0, (0, ())), (30, ())) else if sz - (cs.length : Int) < 4 + low then ((0, (0, ())), (22, ())) else (((cs.length : Int), (most, ())), (0, ()))
def dqC (sz low most : Int) (cs : List Int) : List Int :=
  if ¬ CapE low most then cs else if sz - (cs.length : Int) < 4 + low then cs else laid low cs
def dqL (sz low most : Int) (cs : List Int) (lg : List Acc) (who : Int) : List Acc :=
  if ¬ CapE low most then lg else if sz - (cs.length : Int) < 4 + low then lg else laidL low cs lg who


end Go.Mx
