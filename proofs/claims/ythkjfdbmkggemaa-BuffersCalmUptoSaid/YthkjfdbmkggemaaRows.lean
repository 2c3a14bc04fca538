/-
  No cell of these rows narrows 'for every input' (looked for: loops, veiled, ifaces, maps, wideKeys, modest, calm, conditions, laid).
  DERIVED. THE GIVEN ROWS OF THIS SEAT. 4 by the template 'for every input the law returns true; each argument reads behind the call as it read before'; 0 by the template 'total and deterministic' (their statements: YthkjfdbmkggemaaTotals.lean).
  GIVEN WITH THE SEED: the statements are not yours to turn. If you find one false, say at which input.
  Laid BY PROGRAM, IN A SANDBOX (cutbox-rows.mjs): the forced cells as the released guide's own fill.sh prints them over the translation 7a4d8dd1c411de87… (all of the seat's roots in one cut). By AI agents, Wed Nov 11 2026. No macro, syntax, notation, axiom, sorry.
-/
import Derived.Test.YthkjfdbmkggemaaChecked
import GoSem.Claim
import GoSem.ClaimJoined
import GoSem.ClaimMapViews
import Derived.JoinedTies
import Derived.KernelRfl
namespace Go.Proofs.Ythkjfdbmkggemaa
/- THE CELL 'sum', in the pinned program and in every row, IS THE sha256 OF THE DUMP (.gsa) THAT YthkjfdbmkggemaaProg.lean LOADS. Nothing in Lean hashes anything: it is a label: what it is worth is what the hold of that sum in a sandbox is worth. -/
noncomputable def Try.pinned : Pinned := { name := "ythkjfdbmkggemaa", sum := "7a4d8dd1c411de871c665e4c78cdfbb3f7598b9f976891c6d16cc684e5be600e", checked := Try.checked }
namespace Rows
def none {H : Type} : Left H := { results := [], args := [] }

/-- 'plunderlaw21.BuffersCalm': WHATEVER THE INPUT: true; the input reads as it did. -/
def buffersCalmSpec : ChangeSpec := { name := "buffersCalm", fn := fun _ => fun
  | [d1, d2, d3] => { results := [.lit (.bool true)], args := [d1, d2, d3] }
  | _ => none }
def buffersCalmRow : OpenClaim := { program := "ythkjfdbmkggemaa", sum := "7a4d8dd1c411de871c665e4c78cdfbb3f7598b9f976891c6d16cc684e5be600e", func := "plunder/plunderlaw21.BuffersCalm", spec := "buffersCalm", apart := false }
def BuffersCalmSaid : Prop := buffersCalmRow.holds Try.pinned (OpenSpec.ofChange buffersCalmSpec)

/-- ITS FALSE NEIGHBOUR: 'it returns false'. Refute it at one input. -/
def buffersCalmWrong : ChangeSpec := { name := "buffersCalm", fn := fun _ => fun
  | [d1, d2, d3] => { results := [.lit (.bool false)], args := [d1, d2, d3] }
  | _ => none }
def BuffersCalmWrongFalsely : Prop := buffersCalmRow.holds Try.pinned (OpenSpec.ofChange buffersCalmWrong)

/-- 'plunderlaw21.BuffersOnce': WHATEVER THE INPUT: true; the input reads as it did. -/
def buffersOnceSpec : ChangeSpec := { name := "buffersOnce", fn := fun _ => fun
  | [d1, d2, d3, d4, d5, d6] => { results := [.lit (.bool true)], args := [d1, d2, d3, d4, d5, d6] }
  | _ => none }
def buffersOnceRow : OpenClaim := { program := "ythkjfdbmkggemaa", sum := "7a4d8dd1c411de871c665e4c78cdfbb3f7598b9f976891c6d16cc684e5be600e", func := "plunder/plunderlaw21.BuffersOnce", spec := "buffersOnce", unfollowed := true, recurses := true, apart := false }
def BuffersOnceSaid : Prop := buffersOnceRow.holds Try.pinned (OpenSpec.ofChange buffersOnceSpec)

/-- ITS FALSE NEIGHBOUR: 'it returns false'. Refute it at one input. -/
def buffersOnceWrong : ChangeSpec := { name := "buffersOnce", fn := fun _ => fun
  | [d1, d2, d3, d4, d5, d6] => { results := [.lit (.bool false)], args := [d1, d2, d3, d4, d5, d6] }
  | _ => none }
def BuffersOnceWrongFalsely : Prop := buffersOnceRow.holds Try.pinned (OpenSpec.ofChange buffersOnceWrong)

/-- 'plunderlaw21.BuffersTwice': WHATEVER THE INPUT: true; the input reads as it did. -/
def buffersTwiceSpec : ChangeSpec := { name := "buffersTwice", fn := fun _ => fun
  | [] => { results := [.lit (.bool true)], args := [] }
  | _ => none }
def buffersTwiceRow : OpenClaim := { program := "ythkjfdbmkggemaa", sum := "7a4d8dd1c411de871c665e4c78cdfbb3f7598b9f976891c6d16cc684e5be600e", func := "plunder/plunderlaw21.BuffersTwice", spec := "buffersTwice", unfollowed := true, recurses := true, apart := false }
def BuffersTwiceSaid : Prop := buffersTwiceRow.holds Try.pinned (OpenSpec.ofChange buffersTwiceSpec)

/-- ITS FALSE NEIGHBOUR: 'it returns false'. Refute it at one input. -/
def buffersTwiceWrong : ChangeSpec := { name := "buffersTwice", fn := fun _ => fun
  | [] => { results := [.lit (.bool false)], args := [] }
  | _ => none }
def BuffersTwiceWrongFalsely : Prop := buffersTwiceRow.holds Try.pinned (OpenSpec.ofChange buffersTwiceWrong)

/-- 'plunderlaw21.BuffersPrompt': WHATEVER THE INPUT: true; the input reads as it did. -/
def buffersPromptSpec : ChangeSpec := { name := "buffersPrompt", fn := fun _ => fun
  | [d1, d2, d3, d4, d5, d6, d7] => { results := [.lit (.bool true)], args := [d1, d2, d3, d4, d5, d6, d7] }
  | _ => none }
def buffersPromptRow : OpenClaim := { program := "ythkjfdbmkggemaa", sum := "7a4d8dd1c411de871c665e4c78cdfbb3f7598b9f976891c6d16cc684e5be600e", func := "plunder/plunderlaw21.BuffersPrompt", spec := "buffersPrompt", unfollowed := true, recurses := true, apart := false }
def BuffersPromptSaid : Prop := buffersPromptRow.holds Try.pinned (OpenSpec.ofChange buffersPromptSpec)

/-- ITS FALSE NEIGHBOUR: 'it returns false'. Refute it at one input. -/
def buffersPromptWrong : ChangeSpec := { name := "buffersPrompt", fn := fun _ => fun
  | [d1, d2, d3, d4, d5, d6, d7] => { results := [.lit (.bool false)], args := [d1, d2, d3, d4, d5, d6, d7] }
  | _ => none }
def BuffersPromptWrongFalsely : Prop := buffersPromptRow.holds Try.pinned (OpenSpec.ofChange buffersPromptWrong)

/- THE SECOND FORM. 'bulk': how many values and letters a reading holds, each counted each time it is reached (what is shared counts as often as it is met; a slice's spare places count too). A statement '..UptoSaid' is the law's where the arguments, and the package variables that the reading takes, are together of bulk at most 1048576: NARROWER than '..Said'. Prove '..Said' where nothing that the law and all that it calls make is longer than what came in: it says more and counts as full. Else prove '..UptoSaid'. A law counts once. -/
mutual
def uptoBulk {H : Type} : DataW H → Nat
  | .lit (.string bytes) => bytes.length + 1
  | .lit _ => 1
  | .nil => 1
  | .ptr d => uptoBulk d + 1
  | .slice elems spare => uptoBulkAll elems + uptoBulkAll spare + 1
  | .agg parts => uptoBulkAll parts + 1
  | .iface _ d => uptoBulk d + 1
  | .map entries => uptoBulkEntries entries + 1
  | .held _ => 1
def uptoBulkAll {H : Type} : List (DataW H) → Nat
  | [] => 0
  | d :: r => uptoBulk d + uptoBulkAll r
def uptoBulkEntries {H : Type} : List (Lit × DataW H) → Nat
  | [] => 0
  | x :: r => uptoBulkEntry x + uptoBulkEntries r
def uptoBulkEntry {H : Type} : Lit × DataW H → Nat
  | (.string bytes, d) => bytes.length + uptoBulk d + 1
  | (_, d) => uptoBulk d + 1
 end
def uptoSmall : (H : Type) → List (DataW H) → Bool := fun _ ds => decide (uptoBulkAll ds ≤ 1048576)
def OpenSpec.upto (s : _root_.Go.ChangeSpec) : _root_.Go.OpenSpec := { _root_.Go.OpenSpec.ofChange s with cond := some uptoSmall }

/-- 'plunderlaw21.BuffersCalm', WHERE WHAT IT READS IS OF BULK AT MOST 1048576: true; the input reads as it did. -/
def buffersCalmUptoRow : OpenClaim := { program := "ythkjfdbmkggemaa", sum := "7a4d8dd1c411de871c665e4c78cdfbb3f7598b9f976891c6d16cc684e5be600e", func := "plunder/plunderlaw21.BuffersCalm", spec := "buffersCalm", apart := false, narrowed := true }
def BuffersCalmUptoSaid : Prop := buffersCalmUptoRow.holds Try.pinned (OpenSpec.upto buffersCalmSpec)

/-- 'plunderlaw21.BuffersOnce', WHERE WHAT IT READS IS OF BULK AT MOST 1048576: true; the input reads as it did. -/
def buffersOnceUptoRow : OpenClaim := { program := "ythkjfdbmkggemaa", sum := "7a4d8dd1c411de871c665e4c78cdfbb3f7598b9f976891c6d16cc684e5be600e", func := "plunder/plunderlaw21.BuffersOnce", spec := "buffersOnce", unfollowed := true, recurses := true, apart := false, narrowed := true }
def BuffersOnceUptoSaid : Prop := buffersOnceUptoRow.holds Try.pinned (OpenSpec.upto buffersOnceSpec)

/-- 'plunderlaw21.BuffersTwice', WHERE WHAT IT READS IS OF BULK AT MOST 1048576: true; the input reads as it did. -/
def buffersTwiceUptoRow : OpenClaim := { program := "ythkjfdbmkggemaa", sum := "7a4d8dd1c411de871c665e4c78cdfbb3f7598b9f976891c6d16cc684e5be600e", func := "plunder/plunderlaw21.BuffersTwice", spec := "buffersTwice", unfollowed := true, recurses := true, apart := false, narrowed := true }
def BuffersTwiceUptoSaid : Prop := buffersTwiceUptoRow.holds Try.pinned (OpenSpec.upto buffersTwiceSpec)

/-- 'plunderlaw21.BuffersPrompt', WHERE WHAT IT READS IS OF BULK AT MOST 1048576: true; the input reads as it did. -/
def buffersPromptUptoRow : OpenClaim := { program := "ythkjfdbmkggemaa", sum := "7a4d8dd1c411de871c665e4c78cdfbb3f7598b9f976891c6d16cc684e5be600e", func := "plunder/plunderlaw21.BuffersPrompt", spec := "buffersPrompt", unfollowed := true, recurses := true, apart := false, narrowed := true }
def BuffersPromptUptoSaid : Prop := buffersPromptUptoRow.holds Try.pinned (OpenSpec.upto buffersPromptSpec)

end Rows
end Go.Proofs.Ythkjfdbmkggemaa
