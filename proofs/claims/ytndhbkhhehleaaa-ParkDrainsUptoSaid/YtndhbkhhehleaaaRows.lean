/-
  No cell of these rows narrows 'for every input' (looked for: loops, veiled, ifaces, maps, wideKeys, modest, calm, conditions, laid).
  DERIVED. THE GIVEN ROWS OF THIS SEAT. 6 by the template 'for every input the law returns true; each argument reads behind the call as it read before'; 0 by the template 'total and deterministic' (their statements: YtndhbkhhehleaaaTotals.lean).
  GIVEN WITH THE SEED: the statements are not yours to turn. If you find one false, say at which input.
  Laid BY PROGRAM, IN A SANDBOX (cutbox-rows.mjs): the forced cells as the released guide's own fill.sh prints them over the translation 7c43747ed23a05dc… (all of the seat's roots in one cut). By AI agents, Wed Nov 11 2026. No macro, syntax, notation, axiom, sorry.
-/
import Derived.Test.YtndhbkhhehleaaaChecked
import GoSem.Claim
import GoSem.ClaimJoined
import GoSem.ClaimMapViews
import Derived.JoinedTies
import Derived.KernelRfl
namespace Go.Proofs.Ytndhbkhhehleaaa
/- THE CELL 'sum', in the pinned program and in every row, IS THE sha256 OF THE DUMP (.gsa) THAT YtndhbkhhehleaaaProg.lean LOADS. Nothing in Lean hashes anything: it is a label: what it is worth is what the hold of that sum in a sandbox is worth. -/
noncomputable def Try.pinned : Pinned := { name := "ytndhbkhhehleaaa", sum := "7c43747ed23a05dcbc56115e82eca9a5b7a258df55748305e550c208af905d41", checked := Try.checked }
namespace Rows
def none {H : Type} : Left H := { results := [], args := [] }

/-- 'plunderlaw9.ParkSteps': WHATEVER THE INPUT: true; the input reads as it did. -/
def parkStepsSpec : ChangeSpec := { name := "parkSteps", fn := fun _ => fun
  | [d1, d2, d3, d4, d5, d6, d7] => { results := [.lit (.bool true)], args := [d1, d2, d3, d4, d5, d6, d7] }
  | _ => none }
def parkStepsRow : OpenClaim := { program := "ytndhbkhhehleaaa", sum := "7c43747ed23a05dcbc56115e82eca9a5b7a258df55748305e550c208af905d41", func := "plunder/plunderlaw9.ParkSteps", spec := "parkSteps", unfollowed := true, recurses := true, apart := false }
def ParkStepsSaid : Prop := parkStepsRow.holds Try.pinned (OpenSpec.ofChange parkStepsSpec)

/-- ITS FALSE NEIGHBOUR: 'it returns false'. Refute it at one input. -/
def parkStepsWrong : ChangeSpec := { name := "parkSteps", fn := fun _ => fun
  | [d1, d2, d3, d4, d5, d6, d7] => { results := [.lit (.bool false)], args := [d1, d2, d3, d4, d5, d6, d7] }
  | _ => none }
def ParkStepsWrongFalsely : Prop := parkStepsRow.holds Try.pinned (OpenSpec.ofChange parkStepsWrong)

/-- 'plunderlaw9.ParkLost': WHATEVER THE INPUT: true; the input reads as it did. -/
def parkLostSpec : ChangeSpec := { name := "parkLost", fn := fun _ => fun
  | [d1, d2, d3, d4, d5] => { results := [.lit (.bool true)], args := [d1, d2, d3, d4, d5] }
  | _ => none }
def parkLostRow : OpenClaim := { program := "ytndhbkhhehleaaa", sum := "7c43747ed23a05dcbc56115e82eca9a5b7a258df55748305e550c208af905d41", func := "plunder/plunderlaw9.ParkLost", spec := "parkLost", unfollowed := true, recurses := true, apart := false }
def ParkLostSaid : Prop := parkLostRow.holds Try.pinned (OpenSpec.ofChange parkLostSpec)

/-- ITS FALSE NEIGHBOUR: 'it returns false'. Refute it at one input. -/
def parkLostWrong : ChangeSpec := { name := "parkLost", fn := fun _ => fun
  | [d1, d2, d3, d4, d5] => { results := [.lit (.bool false)], args := [d1, d2, d3, d4, d5] }
  | _ => none }
def ParkLostWrongFalsely : Prop := parkLostRow.holds Try.pinned (OpenSpec.ofChange parkLostWrong)

/-- 'plunderlaw9.ParkCount': WHATEVER THE INPUT: true; the input reads as it did. -/
def parkCountSpec : ChangeSpec := { name := "parkCount", fn := fun _ => fun
  | [d1, d2, d3, d4, d5] => { results := [.lit (.bool true)], args := [d1, d2, d3, d4, d5] }
  | _ => none }
def parkCountRow : OpenClaim := { program := "ytndhbkhhehleaaa", sum := "7c43747ed23a05dcbc56115e82eca9a5b7a258df55748305e550c208af905d41", func := "plunder/plunderlaw9.ParkCount", spec := "parkCount", unfollowed := true, recurses := true, apart := false }
def ParkCountSaid : Prop := parkCountRow.holds Try.pinned (OpenSpec.ofChange parkCountSpec)

/-- ITS FALSE NEIGHBOUR: 'it returns false'. Refute it at one input. -/
def parkCountWrong : ChangeSpec := { name := "parkCount", fn := fun _ => fun
  | [d1, d2, d3, d4, d5] => { results := [.lit (.bool false)], args := [d1, d2, d3, d4, d5] }
  | _ => none }
def ParkCountWrongFalsely : Prop := parkCountRow.holds Try.pinned (OpenSpec.ofChange parkCountWrong)

/-- 'plunderlaw9.ParkDrains': WHATEVER THE INPUT: true; the input reads as it did. -/
def parkDrainsSpec : ChangeSpec := { name := "parkDrains", fn := fun _ => fun
  | [d1, d2, d3, d4, d5] => { results := [.lit (.bool true)], args := [d1, d2, d3, d4, d5] }
  | _ => none }
def parkDrainsRow : OpenClaim := { program := "ytndhbkhhehleaaa", sum := "7c43747ed23a05dcbc56115e82eca9a5b7a258df55748305e550c208af905d41", func := "plunder/plunderlaw9.ParkDrains", spec := "parkDrains", unfollowed := true, recurses := true, apart := false }
def ParkDrainsSaid : Prop := parkDrainsRow.holds Try.pinned (OpenSpec.ofChange parkDrainsSpec)

/-- ITS FALSE NEIGHBOUR: 'it returns false'. Refute it at one input. -/
def parkDrainsWrong : ChangeSpec := { name := "parkDrains", fn := fun _ => fun
  | [d1, d2, d3, d4, d5] => { results := [.lit (.bool false)], args := [d1, d2, d3, d4, d5] }
  | _ => none }
def ParkDrainsWrongFalsely : Prop := parkDrainsRow.holds Try.pinned (OpenSpec.ofChange parkDrainsWrong)

/-- 'plunderlaw9.ParkHalts': WHATEVER THE INPUT: true; the input reads as it did. -/
def parkHaltsSpec : ChangeSpec := { name := "parkHalts", fn := fun _ => fun
  | [d1, d2, d3, d4, d5, d6] => { results := [.lit (.bool true)], args := [d1, d2, d3, d4, d5, d6] }
  | _ => none }
def parkHaltsRow : OpenClaim := { program := "ytndhbkhhehleaaa", sum := "7c43747ed23a05dcbc56115e82eca9a5b7a258df55748305e550c208af905d41", func := "plunder/plunderlaw9.ParkHalts", spec := "parkHalts", unfollowed := true, recurses := true, apart := false }
def ParkHaltsSaid : Prop := parkHaltsRow.holds Try.pinned (OpenSpec.ofChange parkHaltsSpec)

/-- ITS FALSE NEIGHBOUR: 'it returns false'. Refute it at one input. -/
def parkHaltsWrong : ChangeSpec := { name := "parkHalts", fn := fun _ => fun
  | [d1, d2, d3, d4, d5, d6] => { results := [.lit (.bool false)], args := [d1, d2, d3, d4, d5, d6] }
  | _ => none }
def ParkHaltsWrongFalsely : Prop := parkHaltsRow.holds Try.pinned (OpenSpec.ofChange parkHaltsWrong)

/-- 'plunderlaw9.ParkFlags': WHATEVER THE INPUT: true; the input reads as it did. -/
def parkFlagsSpec : ChangeSpec := { name := "parkFlags", fn := fun _ => fun
  | [d1, d2, d3, d4, d5] => { results := [.lit (.bool true)], args := [d1, d2, d3, d4, d5] }
  | _ => none }
def parkFlagsRow : OpenClaim := { program := "ytndhbkhhehleaaa", sum := "7c43747ed23a05dcbc56115e82eca9a5b7a258df55748305e550c208af905d41", func := "plunder/plunderlaw9.ParkFlags", spec := "parkFlags", unfollowed := true, recurses := true, apart := false }
def ParkFlagsSaid : Prop := parkFlagsRow.holds Try.pinned (OpenSpec.ofChange parkFlagsSpec)

/-- ITS FALSE NEIGHBOUR: 'it returns false'. Refute it at one input. -/
def parkFlagsWrong : ChangeSpec := { name := "parkFlags", fn := fun _ => fun
  | [d1, d2, d3, d4, d5] => { results := [.lit (.bool false)], args := [d1, d2, d3, d4, d5] }
  | _ => none }
def ParkFlagsWrongFalsely : Prop := parkFlagsRow.holds Try.pinned (OpenSpec.ofChange parkFlagsWrong)

/- THE SECOND FORM. 'bulk': how many values and letters a reading holds, each counted each time it is reached (what is shared counts as often as it is met; a slice's spare places count too). A statement '..UptoSaid' is the law's where the arguments, and the package variables that the reading takes, are together of bulk at most 1048576: NARROWER than '..Said'. Prove '..Said' where nothing that the law and all that it calls make is longer than what came in: it says more and counts as full. Else prove '..UptoSaid'. A law counts once. -/
mutual
def uptoBulk {H : Type} : DataW H → Nat
  | .lit (.string bytes) => bytes.length + 1
  | .lit _ => 1
  | .nil => 1
  | .ptr d => uptoBulk d + 1
  | .slice elems spare => uptoBulkAll elems + uptoBulkAll spare + 1
  | .agg parts => uptoBulkAll parts + 1
  | .iface _ d => uptoBulk d + 1
  | .map entries => uptoBulkEntries entries + 1
  | .held _ => 1
def uptoBulkAll {H : Type} : List (DataW H) → Nat
  | [] => 0
  | d :: r => uptoBulk d + uptoBulkAll r
def uptoBulkEntries {H : Type} : List (Lit × DataW H) → Nat
  | [] => 0
  | x :: r => uptoBulkEntry x + uptoBulkEntries r
def uptoBulkEntry {H : Type} : Lit × DataW H → Nat
  | (.string bytes, d) => bytes.length + uptoBulk d + 1
  | (_, d) => uptoBulk d + 1
 end
def uptoSmall : (H : Type) → List (DataW H) → Bool := fun _ ds => decide (uptoBulkAll ds ≤ 1048576)
def OpenSpec.upto (s : _root_.Go.ChangeSpec) : _root_.Go.OpenSpec := { _root_.Go.OpenSpec.ofChange s with cond := some uptoSmall }

/-- 'plunderlaw9.ParkSteps', WHERE WHAT IT READS IS OF BULK AT MOST 1048576: true; the input reads as it did. -/
def parkStepsUptoRow : OpenClaim := { program := "ytndhbkhhehleaaa", sum := "7c43747ed23a05dcbc56115e82eca9a5b7a258df55748305e550c208af905d41", func := "plunder/plunderlaw9.ParkSteps", spec := "parkSteps", unfollowed := true, recurses := true, apart := false, narrowed := true }
def ParkStepsUptoSaid : Prop := parkStepsUptoRow.holds Try.pinned (OpenSpec.upto parkStepsSpec)

/-- 'plunderlaw9.ParkLost', WHERE WHAT IT READS IS OF BULK AT MOST 1048576: true; the input reads as it did. -/
def parkLostUptoRow : OpenClaim := { program := "ytndhbkhhehleaaa", sum := "7c43747ed23a05dcbc56115e82eca9a5b7a258df55748305e550c208af905d41", func := "plunder/plunderlaw9.ParkLost", spec := "parkLost", unfollowed := true, recurses := true, apart := false, narrowed := true }
def ParkLostUptoSaid : Prop := parkLostUptoRow.holds Try.pinned (OpenSpec.upto parkLostSpec)

/-- 'plunderlaw9.ParkCount', WHERE WHAT IT READS IS OF BULK AT MOST 1048576: true; the input reads as it did. -/
def parkCountUptoRow : OpenClaim := { program := "ytndhbkhhehleaaa", sum := "7c43747ed23a05dcbc56115e82eca9a5b7a258df55748305e550c208af905d41", func := "plunder/plunderlaw9.ParkCount", spec := "parkCount", unfollowed := true, recurses := true, apart := false, narrowed := true }
def ParkCountUptoSaid : Prop := parkCountUptoRow.holds Try.pinned (OpenSpec.upto parkCountSpec)

/-- 'plunderlaw9.ParkDrains', WHERE WHAT IT READS IS OF BULK AT MOST 1048576: true; the input reads as it did. -/
def parkDrainsUptoRow : OpenClaim := { program := "ytndhbkhhehleaaa", sum := "7c43747ed23a05dcbc56115e82eca9a5b7a258df55748305e550c208af905d41", func := "plunder/plunderlaw9.ParkDrains", spec := "parkDrains", unfollowed := true, recurses := true, apart := false, narrowed := true }
def ParkDrainsUptoSaid : Prop := parkDrainsUptoRow.holds Try.pinned (OpenSpec.upto parkDrainsSpec)

/-- 'plunderlaw9.ParkHalts', WHERE WHAT IT READS IS OF BULK AT MOST 1048576: true; the input reads as it did. -/
def parkHaltsUptoRow : OpenClaim := { program := "ytndhbkhhehleaaa", sum := "7c43747ed23a05dcbc56115e82eca9a5b7a258df55748305e550c208af905d41", func := "plunder/plunderlaw9.ParkHalts", spec := "parkHalts", unfollowed := true, recurses := true, apart := false, narrowed := true }
def ParkHaltsUptoSaid : Prop := parkHaltsUptoRow.holds Try.pinned (OpenSpec.upto parkHaltsSpec)

/-- 'plunderlaw9.ParkFlags', WHERE WHAT IT READS IS OF BULK AT MOST 1048576: true; the input reads as it did. -/
def parkFlagsUptoRow : OpenClaim := { program := "ytndhbkhhehleaaa", sum := "7c43747ed23a05dcbc56115e82eca9a5b7a258df55748305e550c208af905d41", func := "plunder/plunderlaw9.ParkFlags", spec := "parkFlags", unfollowed := true, recurses := true, apart := false, narrowed := true }
def ParkFlagsUptoSaid : Prop := parkFlagsUptoRow.holds Try.pinned (OpenSpec.upto parkFlagsSpec)

end Rows
end Go.Proofs.Ytndhbkhhehleaaa
