/-
  No cell of these rows narrows 'for every input' (looked for: loops, veiled, ifaces, maps, wideKeys, modest, calm, conditions, laid).
  DERIVED. THE GIVEN ROWS OF THIS SEAT. 6 by the template 'for every input the law returns true; each argument reads behind the call as it read before'; 0 by the template 'total and deterministic' (their statements: YtanfmmcpjifgiaaTotals.lean).
  GIVEN WITH THE SEED: the statements are not yours to turn. If you find one false, say at which input.
  Laid BY PROGRAM, IN A SANDBOX (cutbox-rows.mjs): the forced cells as the released guide's own fill.sh prints them over the translation 6df640a1569b1b54… (all of the seat's roots in one cut). By AI agents, Wed Nov 11 2026. No macro, syntax, notation, axiom, sorry.
-/
import Derived.Test.YtanfmmcpjifgiaaChecked
import GoSem.Claim
import GoSem.ClaimJoined
import GoSem.ClaimMapViews
import Derived.JoinedTies
import Derived.KernelRfl
namespace Go.Proofs.Ytanfmmcpjifgiaa
/- THE CELL 'sum', in the pinned program and in every row, IS THE sha256 OF THE DUMP (.gsa) THAT YtanfmmcpjifgiaaProg.lean LOADS. Nothing in Lean hashes anything: it is a label: what it is worth is what the hold of that sum in a sandbox is worth. -/
noncomputable def Try.pinned : Pinned := { name := "ytanfmmcpjifgiaa", sum := "6df640a1569b1b5404a979c8e376e8c7c743623475348ed3a047dbb82be39739", checked := Try.checked }
namespace Rows
def none {H : Type} : Left H := { results := [], args := [] }

/-- 'plunderlaw4.HistCut': WHATEVER THE INPUT: true; the input reads as it did. -/
def histCutSpec : ChangeSpec := { name := "histCut", fn := fun _ => fun
  | [d1, d2] => { results := [.lit (.bool true)], args := [d1, d2] }
  | _ => none }
def histCutRow : OpenClaim := { program := "ytanfmmcpjifgiaa", sum := "6df640a1569b1b5404a979c8e376e8c7c743623475348ed3a047dbb82be39739", func := "plunder/plunderlaw4.HistCut", spec := "histCut", plainKeys := false, apart := false }
def HistCutSaid : Prop := histCutRow.holds Try.pinned (OpenSpec.ofChange histCutSpec)

/-- ITS FALSE NEIGHBOUR: 'it returns false'. Refute it at one input. -/
def histCutWrong : ChangeSpec := { name := "histCut", fn := fun _ => fun
  | [d1, d2] => { results := [.lit (.bool false)], args := [d1, d2] }
  | _ => none }
def HistCutWrongFalsely : Prop := histCutRow.holds Try.pinned (OpenSpec.ofChange histCutWrong)

/-- 'plunderlaw4.HistSerial': WHATEVER THE INPUT: true; the input reads as it did. -/
def histSerialSpec : ChangeSpec := { name := "histSerial", fn := fun _ => fun
  | [d1, d2] => { results := [.lit (.bool true)], args := [d1, d2] }
  | _ => none }
def histSerialRow : OpenClaim := { program := "ytanfmmcpjifgiaa", sum := "6df640a1569b1b5404a979c8e376e8c7c743623475348ed3a047dbb82be39739", func := "plunder/plunderlaw4.HistSerial", spec := "histSerial", plainKeys := false, apart := false }
def HistSerialSaid : Prop := histSerialRow.holds Try.pinned (OpenSpec.ofChange histSerialSpec)

/-- ITS FALSE NEIGHBOUR: 'it returns false'. Refute it at one input. -/
def histSerialWrong : ChangeSpec := { name := "histSerial", fn := fun _ => fun
  | [d1, d2] => { results := [.lit (.bool false)], args := [d1, d2] }
  | _ => none }
def HistSerialWrongFalsely : Prop := histSerialRow.holds Try.pinned (OpenSpec.ofChange histSerialWrong)

/-- 'plunderlaw4.HistLegal': WHATEVER THE INPUT: true; the input reads as it did. -/
def histLegalSpec : ChangeSpec := { name := "histLegal", fn := fun _ => fun
  | [d1, d2, d3] => { results := [.lit (.bool true)], args := [d1, d2, d3] }
  | _ => none }
def histLegalRow : OpenClaim := { program := "ytanfmmcpjifgiaa", sum := "6df640a1569b1b5404a979c8e376e8c7c743623475348ed3a047dbb82be39739", func := "plunder/plunderlaw4.HistLegal", spec := "histLegal", plainKeys := false, apart := false }
def HistLegalSaid : Prop := histLegalRow.holds Try.pinned (OpenSpec.ofChange histLegalSpec)

/-- ITS FALSE NEIGHBOUR: 'it returns false'. Refute it at one input. -/
def histLegalWrong : ChangeSpec := { name := "histLegal", fn := fun _ => fun
  | [d1, d2, d3] => { results := [.lit (.bool false)], args := [d1, d2, d3] }
  | _ => none }
def HistLegalWrongFalsely : Prop := histLegalRow.holds Try.pinned (OpenSpec.ofChange histLegalWrong)

/-- 'plunderlaw4.HistOrder': WHATEVER THE INPUT: true; the input reads as it did. -/
def histOrderSpec : ChangeSpec := { name := "histOrder", fn := fun _ => fun
  | [d1, d2] => { results := [.lit (.bool true)], args := [d1, d2] }
  | _ => none }
def histOrderRow : OpenClaim := { program := "ytanfmmcpjifgiaa", sum := "6df640a1569b1b5404a979c8e376e8c7c743623475348ed3a047dbb82be39739", func := "plunder/plunderlaw4.HistOrder", spec := "histOrder", recurses := true, plainKeys := false, apart := false }
def HistOrderSaid : Prop := histOrderRow.holds Try.pinned (OpenSpec.ofChange histOrderSpec)

/-- ITS FALSE NEIGHBOUR: 'it returns false'. Refute it at one input. -/
def histOrderWrong : ChangeSpec := { name := "histOrder", fn := fun _ => fun
  | [d1, d2] => { results := [.lit (.bool false)], args := [d1, d2] }
  | _ => none }
def HistOrderWrongFalsely : Prop := histOrderRow.holds Try.pinned (OpenSpec.ofChange histOrderWrong)

/-- 'plunderlaw4.HistKeeps': WHATEVER THE INPUT: true; the input reads as it did. -/
def histKeepsSpec : ChangeSpec := { name := "histKeeps", fn := fun _ => fun
  | [d1, d2] => { results := [.lit (.bool true)], args := [d1, d2] }
  | _ => none }
def histKeepsRow : OpenClaim := { program := "ytanfmmcpjifgiaa", sum := "6df640a1569b1b5404a979c8e376e8c7c743623475348ed3a047dbb82be39739", func := "plunder/plunderlaw4.HistKeeps", spec := "histKeeps", recurses := true, plainKeys := false, apart := false }
def HistKeepsSaid : Prop := histKeepsRow.holds Try.pinned (OpenSpec.ofChange histKeepsSpec)

/-- ITS FALSE NEIGHBOUR: 'it returns false'. Refute it at one input. -/
def histKeepsWrong : ChangeSpec := { name := "histKeeps", fn := fun _ => fun
  | [d1, d2] => { results := [.lit (.bool false)], args := [d1, d2] }
  | _ => none }
def HistKeepsWrongFalsely : Prop := histKeepsRow.holds Try.pinned (OpenSpec.ofChange histKeepsWrong)

/-- 'plunderlaw4.HistWitness': WHATEVER THE INPUT: true; the input reads as it did. -/
def histWitnessSpec : ChangeSpec := { name := "histWitness", fn := fun _ => fun
  | [d1, d2, d3, d4] => { results := [.lit (.bool true)], args := [d1, d2, d3, d4] }
  | _ => none }
def histWitnessRow : OpenClaim := { program := "ytanfmmcpjifgiaa", sum := "6df640a1569b1b5404a979c8e376e8c7c743623475348ed3a047dbb82be39739", func := "plunder/plunderlaw4.HistWitness", spec := "histWitness", recurses := true, plainKeys := false, apart := false }
def HistWitnessSaid : Prop := histWitnessRow.holds Try.pinned (OpenSpec.ofChange histWitnessSpec)

/-- ITS FALSE NEIGHBOUR: 'it returns false'. Refute it at one input. -/
def histWitnessWrong : ChangeSpec := { name := "histWitness", fn := fun _ => fun
  | [d1, d2, d3, d4] => { results := [.lit (.bool false)], args := [d1, d2, d3, d4] }
  | _ => none }
def HistWitnessWrongFalsely : Prop := histWitnessRow.holds Try.pinned (OpenSpec.ofChange histWitnessWrong)

/- THE SECOND FORM. 'bulk': how many values and letters a reading holds, each counted each time it is reached (what is shared counts as often as it is met; a slice's spare places count too). A statement '..UptoSaid' is the law's where the arguments, and the package variables that the reading takes, are together of bulk at most 1048576: NARROWER than '..Said'. Prove '..Said' where nothing that the law and all that it calls make is longer than what came in: it says more and counts as full. Else prove '..UptoSaid'. A law counts once. -/
mutual
def uptoBulk {H : Type} : DataW H → Nat
  | .lit (.string bytes) => bytes.length + 1
  | .lit _ => 1
  | .nil => 1
  | .ptr d => uptoBulk d + 1
  | .slice elems spare => uptoBulkAll elems + uptoBulkAll spare + 1
  | .agg parts => uptoBulkAll parts + 1
  | .iface _ d => uptoBulk d + 1
  | .map entries => uptoBulkEntries entries + 1
  | .held _ => 1
def uptoBulkAll {H : Type} : List (DataW H) → Nat
  | [] => 0
  | d :: r => uptoBulk d + uptoBulkAll r
def uptoBulkEntries {H : Type} : List (Lit × DataW H) → Nat
  | [] => 0
  | x :: r => uptoBulkEntry x + uptoBulkEntries r
def uptoBulkEntry {H : Type} : Lit × DataW H → Nat
  | (.string bytes, d) => bytes.length + uptoBulk d + 1
  | (_, d) => uptoBulk d + 1
 end
def uptoSmall : (H : Type) → List (DataW H) → Bool := fun _ ds => decide (uptoBulkAll ds ≤ 1048576)
def OpenSpec.upto (s : _root_.Go.ChangeSpec) : _root_.Go.OpenSpec := { _root_.Go.OpenSpec.ofChange s with cond := some uptoSmall }

/-- 'plunderlaw4.HistCut', WHERE WHAT IT READS IS OF BULK AT MOST 1048576: true; the input reads as it did. -/
def histCutUptoRow : OpenClaim := { program := "ytanfmmcpjifgiaa", sum := "6df640a1569b1b5404a979c8e376e8c7c743623475348ed3a047dbb82be39739", func := "plunder/plunderlaw4.HistCut", spec := "histCut", plainKeys := false, apart := false, narrowed := true }
def HistCutUptoSaid : Prop := histCutUptoRow.holds Try.pinned (OpenSpec.upto histCutSpec)

/-- 'plunderlaw4.HistSerial', WHERE WHAT IT READS IS OF BULK AT MOST 1048576: true; the input reads as it did. -/
def histSerialUptoRow : OpenClaim := { program := "ytanfmmcpjifgiaa", sum := "6df640a1569b1b5404a979c8e376e8c7c743623475348ed3a047dbb82be39739", func := "plunder/plunderlaw4.HistSerial", spec := "histSerial", plainKeys := false, apart := false, narrowed := true }
def HistSerialUptoSaid : Prop := histSerialUptoRow.holds Try.pinned (OpenSpec.upto histSerialSpec)

/-- 'plunderlaw4.HistLegal', WHERE WHAT IT READS IS OF BULK AT MOST 1048576: true; the input reads as it did. -/
def histLegalUptoRow : OpenClaim := { program := "ytanfmmcpjifgiaa", sum := "6df640a1569b1b5404a979c8e376e8c7c743623475348ed3a047dbb82be39739", func := "plunder/plunderlaw4.HistLegal", spec := "histLegal", plainKeys := false, apart := false, narrowed := true }
def HistLegalUptoSaid : Prop := histLegalUptoRow.holds Try.pinned (OpenSpec.upto histLegalSpec)

/-- 'plunderlaw4.HistOrder', WHERE WHAT IT READS IS OF BULK AT MOST 1048576: true; the input reads as it did. -/
def histOrderUptoRow : OpenClaim := { program := "ytanfmmcpjifgiaa", sum := "6df640a1569b1b5404a979c8e376e8c7c743623475348ed3a047dbb82be39739", func := "plunder/plunderlaw4.HistOrder", spec := "histOrder", recurses := true, plainKeys := false, apart := false, narrowed := true }
def HistOrderUptoSaid : Prop := histOrderUptoRow.holds Try.pinned (OpenSpec.upto histOrderSpec)

/-- 'plunderlaw4.HistKeeps', WHERE WHAT IT READS IS OF BULK AT MOST 1048576: true; the input reads as it did. -/
def histKeepsUptoRow : OpenClaim := { program := "ytanfmmcpjifgiaa", sum := "6df640a1569b1b5404a979c8e376e8c7c743623475348ed3a047dbb82be39739", func := "plunder/plunderlaw4.HistKeeps", spec := "histKeeps", recurses := true, plainKeys := false, apart := false, narrowed := true }
def HistKeepsUptoSaid : Prop := histKeepsUptoRow.holds Try.pinned (OpenSpec.upto histKeepsSpec)

/-- 'plunderlaw4.HistWitness', WHERE WHAT IT READS IS OF BULK AT MOST 1048576: true; the input reads as it did. -/
def histWitnessUptoRow : OpenClaim := { program := "ytanfmmcpjifgiaa", sum := "6df640a1569b1b5404a979c8e376e8c7c743623475348ed3a047dbb82be39739", func := "plunder/plunderlaw4.HistWitness", spec := "histWitness", recurses := true, plainKeys := false, apart := false, narrowed := true }
def HistWitnessUptoSaid : Prop := histWitnessUptoRow.holds Try.pinned (OpenSpec.upto histWitnessSpec)

end Rows
end Go.Proofs.Ytanfmmcpjifgiaa
