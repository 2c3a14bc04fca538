/-
  No cell of these rows narrows 'for every input' (looked for: loops, veiled, ifaces, maps, wideKeys, modest, calm, conditions, laid).
  DERIVED. THE GIVEN ROWS OF THIS SEAT. 6 by the template 'for every input the law returns true; each argument reads behind the call as it read before'; 0 by the template 'total and deterministic' (their statements: YtppehoailhjdfaaTotals.lean).
  GIVEN WITH THE SEED: the statements are not yours to turn. If you find one false, say at which input.
  Laid BY PROGRAM, IN A SANDBOX (cutbox-rows.mjs): the forced cells as the released guide's own fill.sh prints them over the translation 92fdc9f226c536dd… (all of the seat's roots in one cut). By AI agents, Wed Nov 11 2026. No macro, syntax, notation, axiom, sorry.
-/
import Derived.Test.YtppehoailhjdfaaChecked
import GoSem.Claim
import GoSem.ClaimJoined
import GoSem.ClaimMapViews
import Derived.JoinedTies
import Derived.KernelRfl
namespace Go.Proofs.Ytppehoailhjdfaa
/- THE CELL 'sum', in the pinned program and in every row, IS THE sha256 OF THE DUMP (.gsa) THAT YtppehoailhjdfaaProg.lean LOADS. Nothing in Lean hashes anything: it is a label: what it is worth is what the hold of that sum in a sandbox is worth. -/
noncomputable def Try.pinned : Pinned := { name := "ytppehoailhjdfaa", sum := "92fdc9f226c536dd0f92250d1466f1d6a0d1937f805fa0ab31d97f2765ba21ef", checked := Try.checked }
namespace Rows
def none {H : Type} : Left H := { results := [], args := [] }

/-- 'plunderlaw9.ParkNew': WHATEVER THE INPUT: true; the input reads as it did. -/
def parkNewSpec : ChangeSpec := { name := "parkNew", fn := fun _ => fun
  | [d1, d2, d3] => { results := [.lit (.bool true)], args := [d1, d2, d3] }
  | _ => none }
def parkNewRow : OpenClaim := { program := "ytppehoailhjdfaa", sum := "92fdc9f226c536dd0f92250d1466f1d6a0d1937f805fa0ab31d97f2765ba21ef", func := "plunder/plunderlaw9.ParkNew", spec := "parkNew", unfollowed := true, recurses := true, apart := false }
def ParkNewSaid : Prop := parkNewRow.holds Try.pinned (OpenSpec.ofChange parkNewSpec)

/-- ITS FALSE NEIGHBOUR: 'it returns false'. Refute it at one input. -/
def parkNewWrong : ChangeSpec := { name := "parkNew", fn := fun _ => fun
  | [d1, d2, d3] => { results := [.lit (.bool false)], args := [d1, d2, d3] }
  | _ => none }
def ParkNewWrongFalsely : Prop := parkNewRow.holds Try.pinned (OpenSpec.ofChange parkNewWrong)

/-- 'plunderlaw3.DequeNew': WHATEVER THE INPUT: true; the input reads as it did. -/
def dequeNewSpec : ChangeSpec := { name := "dequeNew", fn := fun _ => fun
  | [d1, d2, d3, d4] => { results := [.lit (.bool true)], args := [d1, d2, d3, d4] }
  | _ => none }
def dequeNewRow : OpenClaim := { program := "ytppehoailhjdfaa", sum := "92fdc9f226c536dd0f92250d1466f1d6a0d1937f805fa0ab31d97f2765ba21ef", func := "plunder/plunderlaw3.DequeNew", spec := "dequeNew", unfollowed := true, recurses := true, apart := false }
def DequeNewSaid : Prop := dequeNewRow.holds Try.pinned (OpenSpec.ofChange dequeNewSpec)

/-- ITS FALSE NEIGHBOUR: 'it returns false'. Refute it at one input. -/
def dequeNewWrong : ChangeSpec := { name := "dequeNew", fn := fun _ => fun
  | [d1, d2, d3, d4] => { results := [.lit (.bool false)], args := [d1, d2, d3, d4] }
  | _ => none }
def DequeNewWrongFalsely : Prop := dequeNewRow.holds Try.pinned (OpenSpec.ofChange dequeNewWrong)

/-- 'plunderlaw3.DequeMicro': WHATEVER THE INPUT: true; the input reads as it did. -/
def dequeMicroSpec : ChangeSpec := { name := "dequeMicro", fn := fun _ => fun
  | [d1, d2, d3, d4, d5] => { results := [.lit (.bool true)], args := [d1, d2, d3, d4, d5] }
  | _ => none }
def dequeMicroRow : OpenClaim := { program := "ytppehoailhjdfaa", sum := "92fdc9f226c536dd0f92250d1466f1d6a0d1937f805fa0ab31d97f2765ba21ef", func := "plunder/plunderlaw3.DequeMicro", spec := "dequeMicro", unfollowed := true, recurses := true, apart := false }
def DequeMicroSaid : Prop := dequeMicroRow.holds Try.pinned (OpenSpec.ofChange dequeMicroSpec)

/-- ITS FALSE NEIGHBOUR: 'it returns false'. Refute it at one input. -/
def dequeMicroWrong : ChangeSpec := { name := "dequeMicro", fn := fun _ => fun
  | [d1, d2, d3, d4, d5] => { results := [.lit (.bool false)], args := [d1, d2, d3, d4, d5] }
  | _ => none }
def DequeMicroWrongFalsely : Prop := dequeMicroRow.holds Try.pinned (OpenSpec.ofChange dequeMicroWrong)

/-- 'plunderlaw3.DequeStack': WHATEVER THE INPUT: true; the input reads as it did. -/
def dequeStackSpec : ChangeSpec := { name := "dequeStack", fn := fun _ => fun
  | [d1, d2, d3] => { results := [.lit (.bool true)], args := [d1, d2, d3] }
  | _ => none }
def dequeStackRow : OpenClaim := { program := "ytppehoailhjdfaa", sum := "92fdc9f226c536dd0f92250d1466f1d6a0d1937f805fa0ab31d97f2765ba21ef", func := "plunder/plunderlaw3.DequeStack", spec := "dequeStack", unfollowed := true, recurses := true, apart := false }
def DequeStackSaid : Prop := dequeStackRow.holds Try.pinned (OpenSpec.ofChange dequeStackSpec)

/-- ITS FALSE NEIGHBOUR: 'it returns false'. Refute it at one input. -/
def dequeStackWrong : ChangeSpec := { name := "dequeStack", fn := fun _ => fun
  | [d1, d2, d3] => { results := [.lit (.bool false)], args := [d1, d2, d3] }
  | _ => none }
def DequeStackWrongFalsely : Prop := dequeStackRow.holds Try.pinned (OpenSpec.ofChange dequeStackWrong)

/-- 'plunderlaw3.DequeApart': WHATEVER THE INPUT: true; the input reads as it did. -/
def dequeApartSpec : ChangeSpec := { name := "dequeApart", fn := fun _ => fun
  | [d1, d2, d3, d4, d5] => { results := [.lit (.bool true)], args := [d1, d2, d3, d4, d5] }
  | _ => none }
def dequeApartRow : OpenClaim := { program := "ytppehoailhjdfaa", sum := "92fdc9f226c536dd0f92250d1466f1d6a0d1937f805fa0ab31d97f2765ba21ef", func := "plunder/plunderlaw3.DequeApart", spec := "dequeApart", unfollowed := true, recurses := true, apart := false }
def DequeApartSaid : Prop := dequeApartRow.holds Try.pinned (OpenSpec.ofChange dequeApartSpec)

/-- ITS FALSE NEIGHBOUR: 'it returns false'. Refute it at one input. -/
def dequeApartWrong : ChangeSpec := { name := "dequeApart", fn := fun _ => fun
  | [d1, d2, d3, d4, d5] => { results := [.lit (.bool false)], args := [d1, d2, d3, d4, d5] }
  | _ => none }
def DequeApartWrongFalsely : Prop := dequeApartRow.holds Try.pinned (OpenSpec.ofChange dequeApartWrong)

/-- 'plunderlaw9.ParkMicro': WHATEVER THE INPUT: true; the input reads as it did. -/
def parkMicroSpec : ChangeSpec := { name := "parkMicro", fn := fun _ => fun
  | [d1, d2, d3, d4, d5, d6] => { results := [.lit (.bool true)], args := [d1, d2, d3, d4, d5, d6] }
  | _ => none }
def parkMicroRow : OpenClaim := { program := "ytppehoailhjdfaa", sum := "92fdc9f226c536dd0f92250d1466f1d6a0d1937f805fa0ab31d97f2765ba21ef", func := "plunder/plunderlaw9.ParkMicro", spec := "parkMicro", unfollowed := true, recurses := true, apart := false }
def ParkMicroSaid : Prop := parkMicroRow.holds Try.pinned (OpenSpec.ofChange parkMicroSpec)

/-- ITS FALSE NEIGHBOUR: 'it returns false'. Refute it at one input. -/
def parkMicroWrong : ChangeSpec := { name := "parkMicro", fn := fun _ => fun
  | [d1, d2, d3, d4, d5, d6] => { results := [.lit (.bool false)], args := [d1, d2, d3, d4, d5, d6] }
  | _ => none }
def ParkMicroWrongFalsely : Prop := parkMicroRow.holds Try.pinned (OpenSpec.ofChange parkMicroWrong)

/- THE SECOND FORM. 'bulk': how many values and letters a reading holds, each counted each time it is reached (what is shared counts as often as it is met; a slice's spare places count too). A statement '..UptoSaid' is the law's where the arguments, and the package variables that the reading takes, are together of bulk at most 1048576: NARROWER than '..Said'. Prove '..Said' where nothing that the law and all that it calls make is longer than what came in: it says more and counts as full. Else prove '..UptoSaid'. A law counts once. -/
mutual
def uptoBulk {H : Type} : DataW H → Nat
  | .lit (.string bytes) => bytes.length + 1
  | .lit _ => 1
  | .nil => 1
  | .ptr d => uptoBulk d + 1
  | .slice elems spare => uptoBulkAll elems + uptoBulkAll spare + 1
  | .agg parts => uptoBulkAll parts + 1
  | .iface _ d => uptoBulk d + 1
  | .map entries => uptoBulkEntries entries + 1
  | .held _ => 1
def uptoBulkAll {H : Type} : List (DataW H) → Nat
  | [] => 0
  | d :: r => uptoBulk d + uptoBulkAll r
def uptoBulkEntries {H : Type} : List (Lit × DataW H) → Nat
  | [] => 0
  | x :: r => uptoBulkEntry x + uptoBulkEntries r
def uptoBulkEntry {H : Type} : Lit × DataW H → Nat
  | (.string bytes, d) => bytes.length + uptoBulk d + 1
  | (_, d) => uptoBulk d + 1
 end
def uptoSmall : (H : Type) → List (DataW H) → Bool := fun _ ds => decide (uptoBulkAll ds ≤ 1048576)
def OpenSpec.upto (s : _root_.Go.ChangeSpec) : _root_.Go.OpenSpec := { _root_.Go.OpenSpec.ofChange s with cond := some uptoSmall }

/-- 'plunderlaw9.ParkNew', WHERE WHAT IT READS IS OF BULK AT MOST 1048576: true; the input reads as it did. -/
def parkNewUptoRow : OpenClaim := { program := "ytppehoailhjdfaa", sum := "92fdc9f226c536dd0f92250d1466f1d6a0d1937f805fa0ab31d97f2765ba21ef", func := "plunder/plunderlaw9.ParkNew", spec := "parkNew", unfollowed := true, recurses := true, apart := false, narrowed := true }
def ParkNewUptoSaid : Prop := parkNewUptoRow.holds Try.pinned (OpenSpec.upto parkNewSpec)

/-- 'plunderlaw3.DequeNew', WHERE WHAT IT READS IS OF BULK AT MOST 1048576: true; the input reads as it did. -/
def dequeNewUptoRow : OpenClaim := { program := "ytppehoailhjdfaa", sum := "92fdc9f226c536dd0f92250d1466f1d6a0d1937f805fa0ab31d97f2765ba21ef", func := "plunder/plunderlaw3.DequeNew", spec := "dequeNew", unfollowed := true, recurses := true, apart := false, narrowed := true }
def DequeNewUptoSaid : Prop := dequeNewUptoRow.holds Try.pinned (OpenSpec.upto dequeNewSpec)

/-- 'plunderlaw3.DequeMicro', WHERE WHAT IT READS IS OF BULK AT MOST 1048576: true; the input reads as it did. -/
def dequeMicroUptoRow : OpenClaim := { program := "ytppehoailhjdfaa", sum := "92fdc9f226c536dd0f92250d1466f1d6a0d1937f805fa0ab31d97f2765ba21ef", func := "plunder/plunderlaw3.DequeMicro", spec := "dequeMicro", unfollowed := true, recurses := true, apart := false, narrowed := true }
def DequeMicroUptoSaid : Prop := dequeMicroUptoRow.holds Try.pinned (OpenSpec.upto dequeMicroSpec)

/-- 'plunderlaw3.DequeStack', WHERE WHAT IT READS IS OF BULK AT MOST 1048576: true; the input reads as it did. -/
def dequeStackUptoRow : OpenClaim := { program := "ytppehoailhjdfaa", sum := "92fdc9f226c536dd0f92250d1466f1d6a0d1937f805fa0ab31d97f2765ba21ef", func := "plunder/plunderlaw3.DequeStack", spec := "dequeStack", unfollowed := true, recurses := true, apart := false, narrowed := true }
def DequeStackUptoSaid : Prop := dequeStackUptoRow.holds Try.pinned (OpenSpec.upto dequeStackSpec)

/-- 'plunderlaw3.DequeApart', WHERE WHAT IT READS IS OF BULK AT MOST 1048576: true; the input reads as it did. -/
def dequeApartUptoRow : OpenClaim := { program := "ytppehoailhjdfaa", sum := "92fdc9f226c536dd0f92250d1466f1d6a0d1937f805fa0ab31d97f2765ba21ef", func := "plunder/plunderlaw3.DequeApart", spec := "dequeApart", unfollowed := true, recurses := true, apart := false, narrowed := true }
def DequeApartUptoSaid : Prop := dequeApartUptoRow.holds Try.pinned (OpenSpec.upto dequeApartSpec)

/-- 'plunderlaw9.ParkMicro', WHERE WHAT IT READS IS OF BULK AT MOST 1048576: true; the input reads as it did. -/
def parkMicroUptoRow : OpenClaim := { program := "ytppehoailhjdfaa", sum := "92fdc9f226c536dd0f92250d1466f1d6a0d1937f805fa0ab31d97f2765ba21ef", func := "plunder/plunderlaw9.ParkMicro", spec := "parkMicro", unfollowed := true, recurses := true, apart := false, narrowed := true }
def ParkMicroUptoSaid : Prop := parkMicroUptoRow.holds Try.pinned (OpenSpec.upto parkMicroSpec)

end Rows
end Go.Proofs.Ytppehoailhjdfaa
