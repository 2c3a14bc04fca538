/-
  No cell of these rows narrows 'for every input' (looked for: loops, veiled, ifaces, maps, wideKeys, modest, calm, conditions, laid).
  DERIVED. THE GIVEN ROWS OF THIS SEAT. 6 by the template 'for every input the law returns true; each argument reads behind the call as it read before'; 0 by the template 'total and deterministic' (their statements: YtppehoailhjdfabTotals.lean).
  GIVEN WITH THE SEED: the statements are not yours to turn. If you find one false, say at which input.
  Laid BY PROGRAM, IN A SANDBOX (cutbox-rows.mjs): the forced cells as the released guide's own fill.sh prints them over the translation 6a838459aeb87cbe… (all of the seat's roots in one cut). By AI agents, Wed Nov 11 2026. No macro, syntax, notation, axiom, sorry.
-/
import Derived.Test.YtppehoailhjdfabChecked
import GoSem.Claim
import GoSem.ClaimJoined
import GoSem.ClaimMapViews
import Derived.JoinedTies
import Derived.KernelRfl
namespace Go.Proofs.Ytppehoailhjdfab
/- THE CELL 'sum', in the pinned program and in every row, IS THE sha256 OF THE DUMP (.gsa) THAT YtppehoailhjdfabProg.lean LOADS. Nothing in Lean hashes anything: it is a label: what it is worth is what the hold of that sum in a sandbox is worth. -/
noncomputable def Try.pinned : Pinned := { name := "ytppehoailhjdfab", sum := "6a838459aeb87cbef69f42fb44a0ff39a36bae1f968b817d26f5fecd499cc829", checked := Try.checked }
namespace Rows
def none {H : Type} : Left H := { results := [], args := [] }

/-- 'plunderlaw21.BuffersNone': WHATEVER THE INPUT: true; the input reads as it did. -/
def buffersNoneSpec : ChangeSpec := { name := "buffersNone", fn := fun _ => fun
  | [] => { results := [.lit (.bool true)], args := [] }
  | _ => none }
def buffersNoneRow : OpenClaim := { program := "ytppehoailhjdfab", sum := "6a838459aeb87cbef69f42fb44a0ff39a36bae1f968b817d26f5fecd499cc829", func := "plunder/plunderlaw21.BuffersNone", spec := "buffersNone", apart := false }
def BuffersNoneSaid : Prop := buffersNoneRow.holds Try.pinned (OpenSpec.ofChange buffersNoneSpec)

/-- ITS FALSE NEIGHBOUR: 'it returns false'. Refute it at one input. -/
def buffersNoneWrong : ChangeSpec := { name := "buffersNone", fn := fun _ => fun
  | [] => { results := [.lit (.bool false)], args := [] }
  | _ => none }
def BuffersNoneWrongFalsely : Prop := buffersNoneRow.holds Try.pinned (OpenSpec.ofChange buffersNoneWrong)

/-- 'plunderlaw21.BuffersViews': WHATEVER THE INPUT: true; the input reads as it did. -/
def buffersViewsSpec : ChangeSpec := { name := "buffersViews", fn := fun _ => fun
  | [d1, d2, d3, d4] => { results := [.lit (.bool true)], args := [d1, d2, d3, d4] }
  | _ => none }
def buffersViewsRow : OpenClaim := { program := "ytppehoailhjdfab", sum := "6a838459aeb87cbef69f42fb44a0ff39a36bae1f968b817d26f5fecd499cc829", func := "plunder/plunderlaw21.BuffersViews", spec := "buffersViews", apart := false }
def BuffersViewsSaid : Prop := buffersViewsRow.holds Try.pinned (OpenSpec.ofChange buffersViewsSpec)

/-- ITS FALSE NEIGHBOUR: 'it returns false'. Refute it at one input. -/
def buffersViewsWrong : ChangeSpec := { name := "buffersViews", fn := fun _ => fun
  | [d1, d2, d3, d4] => { results := [.lit (.bool false)], args := [d1, d2, d3, d4] }
  | _ => none }
def BuffersViewsWrongFalsely : Prop := buffersViewsRow.holds Try.pinned (OpenSpec.ofChange buffersViewsWrong)

/-- 'plunderlaw21.BuffersPlay': WHATEVER THE INPUT: true; the input reads as it did. -/
def buffersPlaySpec : ChangeSpec := { name := "buffersPlay", fn := fun _ => fun
  | [d1, d2, d3, d4, d5] => { results := [.lit (.bool true)], args := [d1, d2, d3, d4, d5] }
  | _ => none }
def buffersPlayRow : OpenClaim := { program := "ytppehoailhjdfab", sum := "6a838459aeb87cbef69f42fb44a0ff39a36bae1f968b817d26f5fecd499cc829", func := "plunder/plunderlaw21.BuffersPlay", spec := "buffersPlay", apart := false }
def BuffersPlaySaid : Prop := buffersPlayRow.holds Try.pinned (OpenSpec.ofChange buffersPlaySpec)

/-- ITS FALSE NEIGHBOUR: 'it returns false'. Refute it at one input. -/
def buffersPlayWrong : ChangeSpec := { name := "buffersPlay", fn := fun _ => fun
  | [d1, d2, d3, d4, d5] => { results := [.lit (.bool false)], args := [d1, d2, d3, d4, d5] }
  | _ => none }
def BuffersPlayWrongFalsely : Prop := buffersPlayRow.holds Try.pinned (OpenSpec.ofChange buffersPlayWrong)

/-- 'plunderlaw21.BuffersOrder': WHATEVER THE INPUT: true; the input reads as it did. -/
def buffersOrderSpec : ChangeSpec := { name := "buffersOrder", fn := fun _ => fun
  | [d1, d2, d3, d4, d5] => { results := [.lit (.bool true)], args := [d1, d2, d3, d4, d5] }
  | _ => none }
def buffersOrderRow : OpenClaim := { program := "ytppehoailhjdfab", sum := "6a838459aeb87cbef69f42fb44a0ff39a36bae1f968b817d26f5fecd499cc829", func := "plunder/plunderlaw21.BuffersOrder", spec := "buffersOrder", apart := false }
def BuffersOrderSaid : Prop := buffersOrderRow.holds Try.pinned (OpenSpec.ofChange buffersOrderSpec)

/-- ITS FALSE NEIGHBOUR: 'it returns false'. Refute it at one input. -/
def buffersOrderWrong : ChangeSpec := { name := "buffersOrder", fn := fun _ => fun
  | [d1, d2, d3, d4, d5] => { results := [.lit (.bool false)], args := [d1, d2, d3, d4, d5] }
  | _ => none }
def BuffersOrderWrongFalsely : Prop := buffersOrderRow.holds Try.pinned (OpenSpec.ofChange buffersOrderWrong)

/-- 'plunderlaw21.BuffersAlone': WHATEVER THE INPUT: true; the input reads as it did. -/
def buffersAloneSpec : ChangeSpec := { name := "buffersAlone", fn := fun _ => fun
  | [d1, d2, d3, d4, d5] => { results := [.lit (.bool true)], args := [d1, d2, d3, d4, d5] }
  | _ => none }
def buffersAloneRow : OpenClaim := { program := "ytppehoailhjdfab", sum := "6a838459aeb87cbef69f42fb44a0ff39a36bae1f968b817d26f5fecd499cc829", func := "plunder/plunderlaw21.BuffersAlone", spec := "buffersAlone", apart := false }
def BuffersAloneSaid : Prop := buffersAloneRow.holds Try.pinned (OpenSpec.ofChange buffersAloneSpec)

/-- ITS FALSE NEIGHBOUR: 'it returns false'. Refute it at one input. -/
def buffersAloneWrong : ChangeSpec := { name := "buffersAlone", fn := fun _ => fun
  | [d1, d2, d3, d4, d5] => { results := [.lit (.bool false)], args := [d1, d2, d3, d4, d5] }
  | _ => none }
def BuffersAloneWrongFalsely : Prop := buffersAloneRow.holds Try.pinned (OpenSpec.ofChange buffersAloneWrong)

/-- 'plunderlaw21.BuffersFenced': WHATEVER THE INPUT: true; the input reads as it did. -/
def buffersFencedSpec : ChangeSpec := { name := "buffersFenced", fn := fun _ => fun
  | [d1, d2, d3, d4, d5] => { results := [.lit (.bool true)], args := [d1, d2, d3, d4, d5] }
  | _ => none }
def buffersFencedRow : OpenClaim := { program := "ytppehoailhjdfab", sum := "6a838459aeb87cbef69f42fb44a0ff39a36bae1f968b817d26f5fecd499cc829", func := "plunder/plunderlaw21.BuffersFenced", spec := "buffersFenced", apart := false }
def BuffersFencedSaid : Prop := buffersFencedRow.holds Try.pinned (OpenSpec.ofChange buffersFencedSpec)

/-- ITS FALSE NEIGHBOUR: 'it returns false'. Refute it at one input. -/
def buffersFencedWrong : ChangeSpec := { name := "buffersFenced", fn := fun _ => fun
  | [d1, d2, d3, d4, d5] => { results := [.lit (.bool false)], args := [d1, d2, d3, d4, d5] }
  | _ => none }
def BuffersFencedWrongFalsely : Prop := buffersFencedRow.holds Try.pinned (OpenSpec.ofChange buffersFencedWrong)

/- THE SECOND FORM. 'bulk': how many values and letters a reading holds, each counted each time it is reached (what is shared counts as often as it is met; a slice's spare places count too). A statement '..UptoSaid' is the law's where the arguments, and the package variables that the reading takes, are together of bulk at most 1048576: NARROWER than '..Said'. Prove '..Said' where nothing that the law and all that it calls make is longer than what came in: it says more and counts as full. Else prove '..UptoSaid'. A law counts once. -/
mutual
def uptoBulk {H : Type} : DataW H → Nat
  | .lit (.string bytes) => bytes.length + 1
  | .lit _ => 1
  | .nil => 1
  | .ptr d => uptoBulk d + 1
  | .slice elems spare => uptoBulkAll elems + uptoBulkAll spare + 1
  | .agg parts => uptoBulkAll parts + 1
  | .iface _ d => uptoBulk d + 1
  | .map entries => uptoBulkEntries entries + 1
  | .held _ => 1
def uptoBulkAll {H : Type} : List (DataW H) → Nat
  | [] => 0
  | d :: r => uptoBulk d + uptoBulkAll r
def uptoBulkEntries {H : Type} : List (Lit × DataW H) → Nat
  | [] => 0
  | x :: r => uptoBulkEntry x + uptoBulkEntries r
def uptoBulkEntry {H : Type} : Lit × DataW H → Nat
  | (.string bytes, d) => bytes.length + uptoBulk d + 1
  | (_, d) => uptoBulk d + 1
 end
def uptoSmall : (H : Type) → List (DataW H) → Bool := fun _ ds => decide (uptoBulkAll ds ≤ 1048576)
def OpenSpec.upto (s : _root_.Go.ChangeSpec) : _root_.Go.OpenSpec := { _root_.Go.OpenSpec.ofChange s with cond := some uptoSmall }

/-- 'plunderlaw21.BuffersNone', WHERE WHAT IT READS IS OF BULK AT MOST 1048576: true; the input reads as it did. -/
def buffersNoneUptoRow : OpenClaim := { program := "ytppehoailhjdfab", sum := "6a838459aeb87cbef69f42fb44a0ff39a36bae1f968b817d26f5fecd499cc829", func := "plunder/plunderlaw21.BuffersNone", spec := "buffersNone", apart := false, narrowed := true }
def BuffersNoneUptoSaid : Prop := buffersNoneUptoRow.holds Try.pinned (OpenSpec.upto buffersNoneSpec)

/-- 'plunderlaw21.BuffersViews', WHERE WHAT IT READS IS OF BULK AT MOST 1048576: true; the input reads as it did. -/
def buffersViewsUptoRow : OpenClaim := { program := "ytppehoailhjdfab", sum := "6a838459aeb87cbef69f42fb44a0ff39a36bae1f968b817d26f5fecd499cc829", func := "plunder/plunderlaw21.BuffersViews", spec := "buffersViews", apart := false, narrowed := true }
def BuffersViewsUptoSaid : Prop := buffersViewsUptoRow.holds Try.pinned (OpenSpec.upto buffersViewsSpec)

/-- 'plunderlaw21.BuffersPlay', WHERE WHAT IT READS IS OF BULK AT MOST 1048576: true; the input reads as it did. -/
def buffersPlayUptoRow : OpenClaim := { program := "ytppehoailhjdfab", sum := "6a838459aeb87cbef69f42fb44a0ff39a36bae1f968b817d26f5fecd499cc829", func := "plunder/plunderlaw21.BuffersPlay", spec := "buffersPlay", apart := false, narrowed := true }
def BuffersPlayUptoSaid : Prop := buffersPlayUptoRow.holds Try.pinned (OpenSpec.upto buffersPlaySpec)

/-- 'plunderlaw21.BuffersOrder', WHERE WHAT IT READS IS OF BULK AT MOST 1048576: true; the input reads as it did. -/
def buffersOrderUptoRow : OpenClaim := { program := "ytppehoailhjdfab", sum := "6a838459aeb87cbef69f42fb44a0ff39a36bae1f968b817d26f5fecd499cc829", func := "plunder/plunderlaw21.BuffersOrder", spec := "buffersOrder", apart := false, narrowed := true }
def BuffersOrderUptoSaid : Prop := buffersOrderUptoRow.holds Try.pinned (OpenSpec.upto buffersOrderSpec)

/-- 'plunderlaw21.BuffersAlone', WHERE WHAT IT READS IS OF BULK AT MOST 1048576: true; the input reads as it did. -/
def buffersAloneUptoRow : OpenClaim := { program := "ytppehoailhjdfab", sum := "6a838459aeb87cbef69f42fb44a0ff39a36bae1f968b817d26f5fecd499cc829", func := "plunder/plunderlaw21.BuffersAlone", spec := "buffersAlone", apart := false, narrowed := true }
def BuffersAloneUptoSaid : Prop := buffersAloneUptoRow.holds Try.pinned (OpenSpec.upto buffersAloneSpec)

/-- 'plunderlaw21.BuffersFenced', WHERE WHAT IT READS IS OF BULK AT MOST 1048576: true; the input reads as it did. -/
def buffersFencedUptoRow : OpenClaim := { program := "ytppehoailhjdfab", sum := "6a838459aeb87cbef69f42fb44a0ff39a36bae1f968b817d26f5fecd499cc829", func := "plunder/plunderlaw21.BuffersFenced", spec := "buffersFenced", apart := false, narrowed := true }
def BuffersFencedUptoSaid : Prop := buffersFencedUptoRow.holds Try.pinned (OpenSpec.upto buffersFencedSpec)

end Rows
end Go.Proofs.Ytppehoailhjdfab
