/-
  No cell of these rows narrows 'for every input' (looked for: loops, veiled, ifaces, maps, wideKeys, modest, calm, conditions, laid).
  DERIVED. THE GIVEN ROWS OF THIS SEAT. 6 by the template 'for every input the law returns true; each argument reads behind the call as it read before'; 0 by the template 'total and deterministic' (their statements: YtjkecefbbijajabTotals.lean).
  GIVEN WITH THE SEED: the statements are not yours to turn. If you find one false, say at which input.
  Laid BY PROGRAM, IN A SANDBOX (cutbox-rows.mjs): the forced cells as the released guide's own fill.sh prints them over the translation 986185f3a7a86142… (all of the seat's roots in one cut). By AI agents, Wed Nov 11 2026. No macro, syntax, notation, axiom, sorry.
-/
import Derived.Test.YtjkecefbbijajabChecked
import GoSem.Claim
import GoSem.ClaimJoined
import GoSem.ClaimMapViews
import Derived.JoinedTies
import Derived.KernelRfl
namespace Go.Proofs.Ytjkecefbbijajab
/- THE CELL 'sum', in the pinned program and in every row, IS THE sha256 OF THE DUMP (.gsa) THAT YtjkecefbbijajabProg.lean LOADS. Nothing in Lean hashes anything: it is a label: what it is worth is what the hold of that sum in a sandbox is worth. -/
noncomputable def Try.pinned : Pinned := { name := "ytjkecefbbijajab", sum := "986185f3a7a861421734e5a75d8ccbe5c309e2d65918c49fbb3b55123cd897b5", checked := Try.checked }
namespace Rows
def none {H : Type} : Left H := { results := [], args := [] }

/-- 'plunderlaw3.DequeBuffers': WHATEVER THE INPUT: true; the input reads as it did. -/
def dequeBuffersSpec : ChangeSpec := { name := "dequeBuffers", fn := fun _ => fun
  | [d1, d2, d3, d4, d5] => { results := [.lit (.bool true)], args := [d1, d2, d3, d4, d5] }
  | _ => none }
def dequeBuffersRow : OpenClaim := { program := "ytjkecefbbijajab", sum := "986185f3a7a861421734e5a75d8ccbe5c309e2d65918c49fbb3b55123cd897b5", func := "plunder/plunderlaw3.DequeBuffers", spec := "dequeBuffers", unfollowed := true, recurses := true, plainKeys := false, apart := false }
def DequeBuffersSaid : Prop := dequeBuffersRow.holds Try.pinned (OpenSpec.ofChange dequeBuffersSpec)

/-- ITS FALSE NEIGHBOUR: 'it returns false'. Refute it at one input. -/
def dequeBuffersWrong : ChangeSpec := { name := "dequeBuffers", fn := fun _ => fun
  | [d1, d2, d3, d4, d5] => { results := [.lit (.bool false)], args := [d1, d2, d3, d4, d5] }
  | _ => none }
def DequeBuffersWrongFalsely : Prop := dequeBuffersRow.holds Try.pinned (OpenSpec.ofChange dequeBuffersWrong)

/-- 'plunderlaw4.HistDequeLost': WHATEVER THE INPUT: true; the input reads as it did. -/
def histDequeLostSpec : ChangeSpec := { name := "histDequeLost", fn := fun _ => fun
  | [d] => { results := [.lit (.bool true)], args := [d] }
  | _ => none }
def histDequeLostRow : OpenClaim := { program := "ytjkecefbbijajab", sum := "986185f3a7a861421734e5a75d8ccbe5c309e2d65918c49fbb3b55123cd897b5", func := "plunder/plunderlaw4.HistDequeLost", spec := "histDequeLost", unfollowed := true, recurses := true, plainKeys := false, apart := false }
def HistDequeLostSaid : Prop := histDequeLostRow.holds Try.pinned (OpenSpec.ofChange histDequeLostSpec)

/-- ITS FALSE NEIGHBOUR: 'it returns false'. Refute it at one input. -/
def histDequeLostWrong : ChangeSpec := { name := "histDequeLost", fn := fun _ => fun
  | [d] => { results := [.lit (.bool false)], args := [d] }
  | _ => none }
def HistDequeLostWrongFalsely : Prop := histDequeLostRow.holds Try.pinned (OpenSpec.ofChange histDequeLostWrong)

/-- 'plunderlaw4.HistDequePrefix': WHATEVER THE INPUT: true; the input reads as it did. -/
def histDequePrefixSpec : ChangeSpec := { name := "histDequePrefix", fn := fun _ => fun
  | [d1, d2] => { results := [.lit (.bool true)], args := [d1, d2] }
  | _ => none }
def histDequePrefixRow : OpenClaim := { program := "ytjkecefbbijajab", sum := "986185f3a7a861421734e5a75d8ccbe5c309e2d65918c49fbb3b55123cd897b5", func := "plunder/plunderlaw4.HistDequePrefix", spec := "histDequePrefix", unfollowed := true, recurses := true, plainKeys := false, apart := false }
def HistDequePrefixSaid : Prop := histDequePrefixRow.holds Try.pinned (OpenSpec.ofChange histDequePrefixSpec)

/-- ITS FALSE NEIGHBOUR: 'it returns false'. Refute it at one input. -/
def histDequePrefixWrong : ChangeSpec := { name := "histDequePrefix", fn := fun _ => fun
  | [d1, d2] => { results := [.lit (.bool false)], args := [d1, d2] }
  | _ => none }
def HistDequePrefixWrongFalsely : Prop := histDequePrefixRow.holds Try.pinned (OpenSpec.ofChange histDequePrefixWrong)

/-- 'plunderlaw4.HistDequeAlone': WHATEVER THE INPUT: true; the input reads as it did. -/
def histDequeAloneSpec : ChangeSpec := { name := "histDequeAlone", fn := fun _ => fun
  | [d] => { results := [.lit (.bool true)], args := [d] }
  | _ => none }
def histDequeAloneRow : OpenClaim := { program := "ytjkecefbbijajab", sum := "986185f3a7a861421734e5a75d8ccbe5c309e2d65918c49fbb3b55123cd897b5", func := "plunder/plunderlaw4.HistDequeAlone", spec := "histDequeAlone", unfollowed := true, recurses := true, plainKeys := false, apart := false }
def HistDequeAloneSaid : Prop := histDequeAloneRow.holds Try.pinned (OpenSpec.ofChange histDequeAloneSpec)

/-- ITS FALSE NEIGHBOUR: 'it returns false'. Refute it at one input. -/
def histDequeAloneWrong : ChangeSpec := { name := "histDequeAlone", fn := fun _ => fun
  | [d] => { results := [.lit (.bool false)], args := [d] }
  | _ => none }
def HistDequeAloneWrongFalsely : Prop := histDequeAloneRow.holds Try.pinned (OpenSpec.ofChange histDequeAloneWrong)

/-- 'plunderlaw4.HistDequeLinear': WHATEVER THE INPUT: true; the input reads as it did. -/
def histDequeLinearSpec : ChangeSpec := { name := "histDequeLinear", fn := fun _ => fun
  | [d] => { results := [.lit (.bool true)], args := [d] }
  | _ => none }
def histDequeLinearRow : OpenClaim := { program := "ytjkecefbbijajab", sum := "986185f3a7a861421734e5a75d8ccbe5c309e2d65918c49fbb3b55123cd897b5", func := "plunder/plunderlaw4.HistDequeLinear", spec := "histDequeLinear", unfollowed := true, recurses := true, plainKeys := false, apart := false }
def HistDequeLinearSaid : Prop := histDequeLinearRow.holds Try.pinned (OpenSpec.ofChange histDequeLinearSpec)

/-- ITS FALSE NEIGHBOUR: 'it returns false'. Refute it at one input. -/
def histDequeLinearWrong : ChangeSpec := { name := "histDequeLinear", fn := fun _ => fun
  | [d] => { results := [.lit (.bool false)], args := [d] }
  | _ => none }
def HistDequeLinearWrongFalsely : Prop := histDequeLinearRow.holds Try.pinned (OpenSpec.ofChange histDequeLinearWrong)

/-- 'plunderlaw4.HistDequeRest': WHATEVER THE INPUT: true; the input reads as it did. -/
def histDequeRestSpec : ChangeSpec := { name := "histDequeRest", fn := fun _ => fun
  | [d] => { results := [.lit (.bool true)], args := [d] }
  | _ => none }
def histDequeRestRow : OpenClaim := { program := "ytjkecefbbijajab", sum := "986185f3a7a861421734e5a75d8ccbe5c309e2d65918c49fbb3b55123cd897b5", func := "plunder/plunderlaw4.HistDequeRest", spec := "histDequeRest", unfollowed := true, recurses := true, plainKeys := false, apart := false }
def HistDequeRestSaid : Prop := histDequeRestRow.holds Try.pinned (OpenSpec.ofChange histDequeRestSpec)

/-- ITS FALSE NEIGHBOUR: 'it returns false'. Refute it at one input. -/
def histDequeRestWrong : ChangeSpec := { name := "histDequeRest", fn := fun _ => fun
  | [d] => { results := [.lit (.bool false)], args := [d] }
  | _ => none }
def HistDequeRestWrongFalsely : Prop := histDequeRestRow.holds Try.pinned (OpenSpec.ofChange histDequeRestWrong)

/- THE SECOND FORM. 'bulk': how many values and letters a reading holds, each counted each time it is reached (what is shared counts as often as it is met; a slice's spare places count too). A statement '..UptoSaid' is the law's where the arguments, and the package variables that the reading takes, are together of bulk at most 1048576: NARROWER than '..Said'. Prove '..Said' where nothing that the law and all that it calls make is longer than what came in: it says more and counts as full. Else prove '..UptoSaid'. A law counts once. -/
mutual
def uptoBulk {H : Type} : DataW H → Nat
  | .lit (.string bytes) => bytes.length + 1
  | .lit _ => 1
  | .nil => 1
  | .ptr d => uptoBulk d + 1
  | .slice elems spare => uptoBulkAll elems + uptoBulkAll spare + 1
  | .agg parts => uptoBulkAll parts + 1
  | .iface _ d => uptoBulk d + 1
  | .map entries => uptoBulkEntries entries + 1
  | .held _ => 1
def uptoBulkAll {H : Type} : List (DataW H) → Nat
  | [] => 0
  | d :: r => uptoBulk d + uptoBulkAll r
def uptoBulkEntries {H : Type} : List (Lit × DataW H) → Nat
  | [] => 0
  | x :: r => uptoBulkEntry x + uptoBulkEntries r
def uptoBulkEntry {H : Type} : Lit × DataW H → Nat
  | (.string bytes, d) => bytes.length + uptoBulk d + 1
  | (_, d) => uptoBulk d + 1
 end
def uptoSmall : (H : Type) → List (DataW H) → Bool := fun _ ds => decide (uptoBulkAll ds ≤ 1048576)
def OpenSpec.upto (s : _root_.Go.ChangeSpec) : _root_.Go.OpenSpec := { _root_.Go.OpenSpec.ofChange s with cond := some uptoSmall }

/-- 'plunderlaw3.DequeBuffers', WHERE WHAT IT READS IS OF BULK AT MOST 1048576: true; the input reads as it did. -/
def dequeBuffersUptoRow : OpenClaim := { program := "ytjkecefbbijajab", sum := "986185f3a7a861421734e5a75d8ccbe5c309e2d65918c49fbb3b55123cd897b5", func := "plunder/plunderlaw3.DequeBuffers", spec := "dequeBuffers", unfollowed := true, recurses := true, plainKeys := false, apart := false, narrowed := true }
def DequeBuffersUptoSaid : Prop := dequeBuffersUptoRow.holds Try.pinned (OpenSpec.upto dequeBuffersSpec)

/-- 'plunderlaw4.HistDequeLost', WHERE WHAT IT READS IS OF BULK AT MOST 1048576: true; the input reads as it did. -/
def histDequeLostUptoRow : OpenClaim := { program := "ytjkecefbbijajab", sum := "986185f3a7a861421734e5a75d8ccbe5c309e2d65918c49fbb3b55123cd897b5", func := "plunder/plunderlaw4.HistDequeLost", spec := "histDequeLost", unfollowed := true, recurses := true, plainKeys := false, apart := false, narrowed := true }
def HistDequeLostUptoSaid : Prop := histDequeLostUptoRow.holds Try.pinned (OpenSpec.upto histDequeLostSpec)

/-- 'plunderlaw4.HistDequePrefix', WHERE WHAT IT READS IS OF BULK AT MOST 1048576: true; the input reads as it did. -/
def histDequePrefixUptoRow : OpenClaim := { program := "ytjkecefbbijajab", sum := "986185f3a7a861421734e5a75d8ccbe5c309e2d65918c49fbb3b55123cd897b5", func := "plunder/plunderlaw4.HistDequePrefix", spec := "histDequePrefix", unfollowed := true, recurses := true, plainKeys := false, apart := false, narrowed := true }
def HistDequePrefixUptoSaid : Prop := histDequePrefixUptoRow.holds Try.pinned (OpenSpec.upto histDequePrefixSpec)

/-- 'plunderlaw4.HistDequeAlone', WHERE WHAT IT READS IS OF BULK AT MOST 1048576: true; the input reads as it did. -/
def histDequeAloneUptoRow : OpenClaim := { program := "ytjkecefbbijajab", sum := "986185f3a7a861421734e5a75d8ccbe5c309e2d65918c49fbb3b55123cd897b5", func := "plunder/plunderlaw4.HistDequeAlone", spec := "histDequeAlone", unfollowed := true, recurses := true, plainKeys := false, apart := false, narrowed := true }
def HistDequeAloneUptoSaid : Prop := histDequeAloneUptoRow.holds Try.pinned (OpenSpec.upto histDequeAloneSpec)

/-- 'plunderlaw4.HistDequeLinear', WHERE WHAT IT READS IS OF BULK AT MOST 1048576: true; the input reads as it did. -/
def histDequeLinearUptoRow : OpenClaim := { program := "ytjkecefbbijajab", sum := "986185f3a7a861421734e5a75d8ccbe5c309e2d65918c49fbb3b55123cd897b5", func := "plunder/plunderlaw4.HistDequeLinear", spec := "histDequeLinear", unfollowed := true, recurses := true, plainKeys := false, apart := false, narrowed := true }
def HistDequeLinearUptoSaid : Prop := histDequeLinearUptoRow.holds Try.pinned (OpenSpec.upto histDequeLinearSpec)

/-- 'plunderlaw4.HistDequeRest', WHERE WHAT IT READS IS OF BULK AT MOST 1048576: true; the input reads as it did. -/
def histDequeRestUptoRow : OpenClaim := { program := "ytjkecefbbijajab", sum := "986185f3a7a861421734e5a75d8ccbe5c309e2d65918c49fbb3b55123cd897b5", func := "plunder/plunderlaw4.HistDequeRest", spec := "histDequeRest", unfollowed := true, recurses := true, plainKeys := false, apart := false, narrowed := true }
def HistDequeRestUptoSaid : Prop := histDequeRestUptoRow.holds Try.pinned (OpenSpec.upto histDequeRestSpec)

end Rows
end Go.Proofs.Ytjkecefbbijajab
