/-
  No cell of these rows narrows 'for every input' (looked for: loops, veiled, ifaces, maps, wideKeys, modest, calm, conditions, laid).
  DERIVED. THE GIVEN ROWS OF THIS SEAT. 6 by the template 'for every input the law returns true; each argument reads behind the call as it read before'; 0 by the template 'total and deterministic' (their statements: YtjkecefbbijajaaTotals.lean).
  GIVEN WITH THE SEED: the statements are not yours to turn. If you find one false, say at which input.
  Laid BY PROGRAM, IN A SANDBOX (cutbox-rows.mjs): the forced cells as the released guide's own fill.sh prints them over the translation 60e002c9c003f6ef… (all of the seat's roots in one cut). By AI agents, Wed Nov 11 2026. No macro, syntax, notation, axiom, sorry.
-/
import Derived.Test.YtjkecefbbijajaaChecked
import GoSem.Claim
import GoSem.ClaimJoined
import GoSem.ClaimMapViews
import Derived.JoinedTies
import Derived.KernelRfl
namespace Go.Proofs.Ytjkecefbbijajaa
/- THE CELL 'sum', in the pinned program and in every row, IS THE sha256 OF THE DUMP (.gsa) THAT YtjkecefbbijajaaProg.lean LOADS. Nothing in Lean hashes anything: it is a label: what it is worth is what the hold of that sum in a sandbox is worth. -/
noncomputable def Try.pinned : Pinned := { name := "ytjkecefbbijajaa", sum := "60e002c9c003f6ef9d8af2752b3a8e2bd9628e4656038142791316b802f845db", checked := Try.checked }
namespace Rows
def none {H : Type} : Left H := { results := [], args := [] }

/-- 'plunderlaw3.DequePlay': WHATEVER THE INPUT: true; the input reads as it did. -/
def dequePlaySpec : ChangeSpec := { name := "dequePlay", fn := fun _ => fun
  | [d1, d2, d3, d4, d5] => { results := [.lit (.bool true)], args := [d1, d2, d3, d4, d5] }
  | _ => none }
def dequePlayRow : OpenClaim := { program := "ytjkecefbbijajaa", sum := "60e002c9c003f6ef9d8af2752b3a8e2bd9628e4656038142791316b802f845db", func := "plunder/plunderlaw3.DequePlay", spec := "dequePlay", unfollowed := true, recurses := true, apart := false }
def DequePlaySaid : Prop := dequePlayRow.holds Try.pinned (OpenSpec.ofChange dequePlaySpec)

/-- ITS FALSE NEIGHBOUR: 'it returns false'. Refute it at one input. -/
def dequePlayWrong : ChangeSpec := { name := "dequePlay", fn := fun _ => fun
  | [d1, d2, d3, d4, d5] => { results := [.lit (.bool false)], args := [d1, d2, d3, d4, d5] }
  | _ => none }
def DequePlayWrongFalsely : Prop := dequePlayRow.holds Try.pinned (OpenSpec.ofChange dequePlayWrong)

/-- 'plunderlaw3.DequeOnce': WHATEVER THE INPUT: true; the input reads as it did. -/
def dequeOnceSpec : ChangeSpec := { name := "dequeOnce", fn := fun _ => fun
  | [d1, d2, d3, d4, d5] => { results := [.lit (.bool true)], args := [d1, d2, d3, d4, d5] }
  | _ => none }
def dequeOnceRow : OpenClaim := { program := "ytjkecefbbijajaa", sum := "60e002c9c003f6ef9d8af2752b3a8e2bd9628e4656038142791316b802f845db", func := "plunder/plunderlaw3.DequeOnce", spec := "dequeOnce", unfollowed := true, recurses := true, apart := false }
def DequeOnceSaid : Prop := dequeOnceRow.holds Try.pinned (OpenSpec.ofChange dequeOnceSpec)

/-- ITS FALSE NEIGHBOUR: 'it returns false'. Refute it at one input. -/
def dequeOnceWrong : ChangeSpec := { name := "dequeOnce", fn := fun _ => fun
  | [d1, d2, d3, d4, d5] => { results := [.lit (.bool false)], args := [d1, d2, d3, d4, d5] }
  | _ => none }
def DequeOnceWrongFalsely : Prop := dequeOnceRow.holds Try.pinned (OpenSpec.ofChange dequeOnceWrong)

/-- 'plunderlaw3.DequeOld': WHATEVER THE INPUT: true; the input reads as it did. -/
def dequeOldSpec : ChangeSpec := { name := "dequeOld", fn := fun _ => fun
  | [d1, d2, d3, d4, d5] => { results := [.lit (.bool true)], args := [d1, d2, d3, d4, d5] }
  | _ => none }
def dequeOldRow : OpenClaim := { program := "ytjkecefbbijajaa", sum := "60e002c9c003f6ef9d8af2752b3a8e2bd9628e4656038142791316b802f845db", func := "plunder/plunderlaw3.DequeOld", spec := "dequeOld", unfollowed := true, recurses := true, apart := false }
def DequeOldSaid : Prop := dequeOldRow.holds Try.pinned (OpenSpec.ofChange dequeOldSpec)

/-- ITS FALSE NEIGHBOUR: 'it returns false'. Refute it at one input. -/
def dequeOldWrong : ChangeSpec := { name := "dequeOld", fn := fun _ => fun
  | [d1, d2, d3, d4, d5] => { results := [.lit (.bool false)], args := [d1, d2, d3, d4, d5] }
  | _ => none }
def DequeOldWrongFalsely : Prop := dequeOldRow.holds Try.pinned (OpenSpec.ofChange dequeOldWrong)

/-- 'plunderlaw3.DequeBounds': WHATEVER THE INPUT: true; the input reads as it did. -/
def dequeBoundsSpec : ChangeSpec := { name := "dequeBounds", fn := fun _ => fun
  | [d1, d2, d3, d4, d5] => { results := [.lit (.bool true)], args := [d1, d2, d3, d4, d5] }
  | _ => none }
def dequeBoundsRow : OpenClaim := { program := "ytjkecefbbijajaa", sum := "60e002c9c003f6ef9d8af2752b3a8e2bd9628e4656038142791316b802f845db", func := "plunder/plunderlaw3.DequeBounds", spec := "dequeBounds", unfollowed := true, recurses := true, apart := false }
def DequeBoundsSaid : Prop := dequeBoundsRow.holds Try.pinned (OpenSpec.ofChange dequeBoundsSpec)

/-- ITS FALSE NEIGHBOUR: 'it returns false'. Refute it at one input. -/
def dequeBoundsWrong : ChangeSpec := { name := "dequeBounds", fn := fun _ => fun
  | [d1, d2, d3, d4, d5] => { results := [.lit (.bool false)], args := [d1, d2, d3, d4, d5] }
  | _ => none }
def DequeBoundsWrongFalsely : Prop := dequeBoundsRow.holds Try.pinned (OpenSpec.ofChange dequeBoundsWrong)

/-- 'plunderlaw3.DequeWhy': WHATEVER THE INPUT: true; the input reads as it did. -/
def dequeWhySpec : ChangeSpec := { name := "dequeWhy", fn := fun _ => fun
  | [d1, d2, d3, d4, d5] => { results := [.lit (.bool true)], args := [d1, d2, d3, d4, d5] }
  | _ => none }
def dequeWhyRow : OpenClaim := { program := "ytjkecefbbijajaa", sum := "60e002c9c003f6ef9d8af2752b3a8e2bd9628e4656038142791316b802f845db", func := "plunder/plunderlaw3.DequeWhy", spec := "dequeWhy", unfollowed := true, recurses := true, apart := false }
def DequeWhySaid : Prop := dequeWhyRow.holds Try.pinned (OpenSpec.ofChange dequeWhySpec)

/-- ITS FALSE NEIGHBOUR: 'it returns false'. Refute it at one input. -/
def dequeWhyWrong : ChangeSpec := { name := "dequeWhy", fn := fun _ => fun
  | [d1, d2, d3, d4, d5] => { results := [.lit (.bool false)], args := [d1, d2, d3, d4, d5] }
  | _ => none }
def DequeWhyWrongFalsely : Prop := dequeWhyRow.holds Try.pinned (OpenSpec.ofChange dequeWhyWrong)

/-- 'plunderlaw3.DequeRace': WHATEVER THE INPUT: true; the input reads as it did. -/
def dequeRaceSpec : ChangeSpec := { name := "dequeRace", fn := fun _ => fun
  | [d1, d2, d3, d4, d5] => { results := [.lit (.bool true)], args := [d1, d2, d3, d4, d5] }
  | _ => none }
def dequeRaceRow : OpenClaim := { program := "ytjkecefbbijajaa", sum := "60e002c9c003f6ef9d8af2752b3a8e2bd9628e4656038142791316b802f845db", func := "plunder/plunderlaw3.DequeRace", spec := "dequeRace", unfollowed := true, recurses := true, apart := false }
def DequeRaceSaid : Prop := dequeRaceRow.holds Try.pinned (OpenSpec.ofChange dequeRaceSpec)

/-- ITS FALSE NEIGHBOUR: 'it returns false'. Refute it at one input. -/
def dequeRaceWrong : ChangeSpec := { name := "dequeRace", fn := fun _ => fun
  | [d1, d2, d3, d4, d5] => { results := [.lit (.bool false)], args := [d1, d2, d3, d4, d5] }
  | _ => none }
def DequeRaceWrongFalsely : Prop := dequeRaceRow.holds Try.pinned (OpenSpec.ofChange dequeRaceWrong)

/- THE SECOND FORM. 'bulk': how many values and letters a reading holds, each counted each time it is reached (what is shared counts as often as it is met; a slice's spare places count too). A statement '..UptoSaid' is the law's where the arguments, and the package variables that the reading takes, are together of bulk at most 1048576: NARROWER than '..Said'. Prove '..Said' where nothing that the law and all that it calls make is longer than what came in: it says more and counts as full. Else prove '..UptoSaid'. A law counts once. -/
mutual
def uptoBulk {H : Type} : DataW H → Nat
  | .lit (.string bytes) => bytes.length + 1
  | .lit _ => 1
  | .nil => 1
  | .ptr d => uptoBulk d + 1
  | .slice elems spare => uptoBulkAll elems + uptoBulkAll spare + 1
  | .agg parts => uptoBulkAll parts + 1
  | .iface _ d => uptoBulk d + 1
  | .map entries => uptoBulkEntries entries + 1
  | .held _ => 1
def uptoBulkAll {H : Type} : List (DataW H) → Nat
  | [] => 0
  | d :: r => uptoBulk d + uptoBulkAll r
def uptoBulkEntries {H : Type} : List (Lit × DataW H) → Nat
  | [] => 0
  | x :: r => uptoBulkEntry x + uptoBulkEntries r
def uptoBulkEntry {H : Type} : Lit × DataW H → Nat
  | (.string bytes, d) => bytes.length + uptoBulk d + 1
  | (_, d) => uptoBulk d + 1
 end
def uptoSmall : (H : Type) → List (DataW H) → Bool := fun _ ds => decide (uptoBulkAll ds ≤ 1048576)
def OpenSpec.upto (s : _root_.Go.ChangeSpec) : _root_.Go.OpenSpec := { _root_.Go.OpenSpec.ofChange s with cond := some uptoSmall }

/-- 'plunderlaw3.DequePlay', WHERE WHAT IT READS IS OF BULK AT MOST 1048576: true; the input reads as it did. -/
def dequePlayUptoRow : OpenClaim := { program := "ytjkecefbbijajaa", sum := "60e002c9c003f6ef9d8af2752b3a8e2bd9628e4656038142791316b802f845db", func := "plunder/plunderlaw3.DequePlay", spec := "dequePlay", unfollowed := true, recurses := true, apart := false, narrowed := true }
def DequePlayUptoSaid : Prop := dequePlayUptoRow.holds Try.pinned (OpenSpec.upto dequePlaySpec)

/-- 'plunderlaw3.DequeOnce', WHERE WHAT IT READS IS OF BULK AT MOST 1048576: true; the input reads as it did. -/
def dequeOnceUptoRow : OpenClaim := { program := "ytjkecefbbijajaa", sum := "60e002c9c003f6ef9d8af2752b3a8e2bd9628e4656038142791316b802f845db", func := "plunder/plunderlaw3.DequeOnce", spec := "dequeOnce", unfollowed := true, recurses := true, apart := false, narrowed := true }
def DequeOnceUptoSaid : Prop := dequeOnceUptoRow.holds Try.pinned (OpenSpec.upto dequeOnceSpec)

/-- 'plunderlaw3.DequeOld', WHERE WHAT IT READS IS OF BULK AT MOST 1048576: true; the input reads as it did. -/
def dequeOldUptoRow : OpenClaim := { program := "ytjkecefbbijajaa", sum := "60e002c9c003f6ef9d8af2752b3a8e2bd9628e4656038142791316b802f845db", func := "plunder/plunderlaw3.DequeOld", spec := "dequeOld", unfollowed := true, recurses := true, apart := false, narrowed := true }
def DequeOldUptoSaid : Prop := dequeOldUptoRow.holds Try.pinned (OpenSpec.upto dequeOldSpec)

/-- 'plunderlaw3.DequeBounds', WHERE WHAT IT READS IS OF BULK AT MOST 1048576: true; the input reads as it did. -/
def dequeBoundsUptoRow : OpenClaim := { program := "ytjkecefbbijajaa", sum := "60e002c9c003f6ef9d8af2752b3a8e2bd9628e4656038142791316b802f845db", func := "plunder/plunderlaw3.DequeBounds", spec := "dequeBounds", unfollowed := true, recurses := true, apart := false, narrowed := true }
def DequeBoundsUptoSaid : Prop := dequeBoundsUptoRow.holds Try.pinned (OpenSpec.upto dequeBoundsSpec)

/-- 'plunderlaw3.DequeWhy', WHERE WHAT IT READS IS OF BULK AT MOST 1048576: true; the input reads as it did. -/
def dequeWhyUptoRow : OpenClaim := { program := "ytjkecefbbijajaa", sum := "60e002c9c003f6ef9d8af2752b3a8e2bd9628e4656038142791316b802f845db", func := "plunder/plunderlaw3.DequeWhy", spec := "dequeWhy", unfollowed := true, recurses := true, apart := false, narrowed := true }
def DequeWhyUptoSaid : Prop := dequeWhyUptoRow.holds Try.pinned (OpenSpec.upto dequeWhySpec)

/-- 'plunderlaw3.DequeRace', WHERE WHAT IT READS IS OF BULK AT MOST 1048576: true; the input reads as it did. -/
def dequeRaceUptoRow : OpenClaim := { program := "ytjkecefbbijajaa", sum := "60e002c9c003f6ef9d8af2752b3a8e2bd9628e4656038142791316b802f845db", func := "plunder/plunderlaw3.DequeRace", spec := "dequeRace", unfollowed := true, recurses := true, apart := false, narrowed := true }
def DequeRaceUptoSaid : Prop := dequeRaceUptoRow.holds Try.pinned (OpenSpec.upto dequeRaceSpec)

end Rows
end Go.Proofs.Ytjkecefbbijajaa
