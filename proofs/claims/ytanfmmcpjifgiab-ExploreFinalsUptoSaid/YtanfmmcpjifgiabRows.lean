/-
  No cell of these rows narrows 'for every input' (looked for: loops, veiled, ifaces, maps, wideKeys, modest, calm, conditions, laid).
  DERIVED. THE GIVEN ROWS OF THIS SEAT. 6 by the template 'for every input the law returns true; each argument reads behind the call as it read before'; 0 by the template 'total and deterministic' (their statements: YtanfmmcpjifgiabTotals.lean).
  GIVEN WITH THE SEED: the statements are not yours to turn. If you find one false, say at which input.
  Laid BY PROGRAM, IN A SANDBOX (cutbox-rows.mjs): the forced cells as the released guide's own fill.sh prints them over the translation 0907918805672d8c… (all of the seat's roots in one cut). By AI agents, Wed Nov 11 2026. No macro, syntax, notation, axiom, sorry.
-/
import Derived.Test.YtanfmmcpjifgiabChecked
import GoSem.Claim
import GoSem.ClaimJoined
import GoSem.ClaimMapViews
import Derived.JoinedTies
import Derived.KernelRfl
namespace Go.Proofs.Ytanfmmcpjifgiab
/- THE CELL 'sum', in the pinned program and in every row, IS THE sha256 OF THE DUMP (.gsa) THAT YtanfmmcpjifgiabProg.lean LOADS. Nothing in Lean hashes anything: it is a label: what it is worth is what the hold of that sum in a sandbox is worth. -/
noncomputable def Try.pinned : Pinned := { name := "ytanfmmcpjifgiab", sum := "0907918805672d8c821cbcf5511931dbba5359c4ce667d3468e5a200e01f37e3", checked := Try.checked }
namespace Rows
def none {H : Type} : Left H := { results := [], args := [] }

/-- 'plunderlaw22.ExploreDepends': WHATEVER THE INPUT: true; the input reads as it did. -/
def exploreDependsSpec : ChangeSpec := { name := "exploreDepends", fn := fun _ => fun
  | [d1, d2, d3] => { results := [.lit (.bool true)], args := [d1, d2, d3] }
  | _ => none }
def exploreDependsRow : OpenClaim := { program := "ytanfmmcpjifgiab", sum := "0907918805672d8c821cbcf5511931dbba5359c4ce667d3468e5a200e01f37e3", func := "plunder/plunderlaw22.ExploreDepends", spec := "exploreDepends", plainKeys := false, apart := false }
def ExploreDependsSaid : Prop := exploreDependsRow.holds Try.pinned (OpenSpec.ofChange exploreDependsSpec)

/-- ITS FALSE NEIGHBOUR: 'it returns false'. Refute it at one input. -/
def exploreDependsWrong : ChangeSpec := { name := "exploreDepends", fn := fun _ => fun
  | [d1, d2, d3] => { results := [.lit (.bool false)], args := [d1, d2, d3] }
  | _ => none }
def ExploreDependsWrongFalsely : Prop := exploreDependsRow.holds Try.pinned (OpenSpec.ofChange exploreDependsWrong)

/-- 'plunderlaw22.ExploreCheck': WHATEVER THE INPUT: true; the input reads as it did. -/
def exploreCheckSpec : ChangeSpec := { name := "exploreCheck", fn := fun _ => fun
  | [d] => { results := [.lit (.bool true)], args := [d] }
  | _ => none }
def exploreCheckRow : OpenClaim := { program := "ytanfmmcpjifgiab", sum := "0907918805672d8c821cbcf5511931dbba5359c4ce667d3468e5a200e01f37e3", func := "plunder/plunderlaw22.ExploreCheck", spec := "exploreCheck", plainKeys := false, apart := false }
def ExploreCheckSaid : Prop := exploreCheckRow.holds Try.pinned (OpenSpec.ofChange exploreCheckSpec)

/-- ITS FALSE NEIGHBOUR: 'it returns false'. Refute it at one input. -/
def exploreCheckWrong : ChangeSpec := { name := "exploreCheck", fn := fun _ => fun
  | [d] => { results := [.lit (.bool false)], args := [d] }
  | _ => none }
def ExploreCheckWrongFalsely : Prop := exploreCheckRow.holds Try.pinned (OpenSpec.ofChange exploreCheckWrong)

/-- 'plunderlaw22.ExploreAll': WHATEVER THE INPUT: true; the input reads as it did. -/
def exploreAllSpec : ChangeSpec := { name := "exploreAll", fn := fun _ => fun
  | [d] => { results := [.lit (.bool true)], args := [d] }
  | _ => none }
def exploreAllRow : OpenClaim := { program := "ytanfmmcpjifgiab", sum := "0907918805672d8c821cbcf5511931dbba5359c4ce667d3468e5a200e01f37e3", func := "plunder/plunderlaw22.ExploreAll", spec := "exploreAll", inPlace := ["maps.clone"], unfollowed := true, recurses := true, plainKeys := false, apart := false }
def ExploreAllSaid : Prop := exploreAllRow.holds Try.pinned (OpenSpec.ofChange exploreAllSpec)

/-- ITS FALSE NEIGHBOUR: 'it returns false'. Refute it at one input. -/
def exploreAllWrong : ChangeSpec := { name := "exploreAll", fn := fun _ => fun
  | [d] => { results := [.lit (.bool false)], args := [d] }
  | _ => none }
def ExploreAllWrongFalsely : Prop := exploreAllRow.holds Try.pinned (OpenSpec.ofChange exploreAllWrong)

/-- 'plunderlaw22.ExploreKin': WHATEVER THE INPUT: true; the input reads as it did. -/
def exploreKinSpec : ChangeSpec := { name := "exploreKin", fn := fun _ => fun
  | [d1, d2] => { results := [.lit (.bool true)], args := [d1, d2] }
  | _ => none }
def exploreKinRow : OpenClaim := { program := "ytanfmmcpjifgiab", sum := "0907918805672d8c821cbcf5511931dbba5359c4ce667d3468e5a200e01f37e3", func := "plunder/plunderlaw22.ExploreKin", spec := "exploreKin", unfollowed := true, recurses := true, plainKeys := false, apart := false }
def ExploreKinSaid : Prop := exploreKinRow.holds Try.pinned (OpenSpec.ofChange exploreKinSpec)

/-- ITS FALSE NEIGHBOUR: 'it returns false'. Refute it at one input. -/
def exploreKinWrong : ChangeSpec := { name := "exploreKin", fn := fun _ => fun
  | [d1, d2] => { results := [.lit (.bool false)], args := [d1, d2] }
  | _ => none }
def ExploreKinWrongFalsely : Prop := exploreKinRow.holds Try.pinned (OpenSpec.ofChange exploreKinWrong)

/-- 'plunderlaw22.ExploreRun': WHATEVER THE INPUT: true; the input reads as it did. -/
def exploreRunSpec : ChangeSpec := { name := "exploreRun", fn := fun _ => fun
  | [d1, d2] => { results := [.lit (.bool true)], args := [d1, d2] }
  | _ => none }
def exploreRunRow : OpenClaim := { program := "ytanfmmcpjifgiab", sum := "0907918805672d8c821cbcf5511931dbba5359c4ce667d3468e5a200e01f37e3", func := "plunder/plunderlaw22.ExploreRun", spec := "exploreRun", unfollowed := true, recurses := true, plainKeys := false, apart := false }
def ExploreRunSaid : Prop := exploreRunRow.holds Try.pinned (OpenSpec.ofChange exploreRunSpec)

/-- ITS FALSE NEIGHBOUR: 'it returns false'. Refute it at one input. -/
def exploreRunWrong : ChangeSpec := { name := "exploreRun", fn := fun _ => fun
  | [d1, d2] => { results := [.lit (.bool false)], args := [d1, d2] }
  | _ => none }
def ExploreRunWrongFalsely : Prop := exploreRunRow.holds Try.pinned (OpenSpec.ofChange exploreRunWrong)

/-- 'plunderlaw22.ExploreFinals': WHATEVER THE INPUT: true; the input reads as it did. -/
def exploreFinalsSpec : ChangeSpec := { name := "exploreFinals", fn := fun _ => fun
  | [d] => { results := [.lit (.bool true)], args := [d] }
  | _ => none }
def exploreFinalsRow : OpenClaim := { program := "ytanfmmcpjifgiab", sum := "0907918805672d8c821cbcf5511931dbba5359c4ce667d3468e5a200e01f37e3", func := "plunder/plunderlaw22.ExploreFinals", spec := "exploreFinals", inPlace := ["maps.clone", "slices.overlaps[[]int64]"], unfollowed := true, recurses := true, plainKeys := false, apart := false }
def ExploreFinalsSaid : Prop := exploreFinalsRow.holds Try.pinned (OpenSpec.ofChange exploreFinalsSpec)

/-- ITS FALSE NEIGHBOUR: 'it returns false'. Refute it at one input. -/
def exploreFinalsWrong : ChangeSpec := { name := "exploreFinals", fn := fun _ => fun
  | [d] => { results := [.lit (.bool false)], args := [d] }
  | _ => none }
def ExploreFinalsWrongFalsely : Prop := exploreFinalsRow.holds Try.pinned (OpenSpec.ofChange exploreFinalsWrong)

/- THE SECOND FORM. 'bulk': how many values and letters a reading holds, each counted each time it is reached (what is shared counts as often as it is met; a slice's spare places count too). A statement '..UptoSaid' is the law's where the arguments, and the package variables that the reading takes, are together of bulk at most 1048576: NARROWER than '..Said'. Prove '..Said' where nothing that the law and all that it calls make is longer than what came in: it says more and counts as full. Else prove '..UptoSaid'. A law counts once. -/
mutual
def uptoBulk {H : Type} : DataW H → Nat
  | .lit (.string bytes) => bytes.length + 1
  | .lit _ => 1
  | .nil => 1
  | .ptr d => uptoBulk d + 1
  | .slice elems spare => uptoBulkAll elems + uptoBulkAll spare + 1
  | .agg parts => uptoBulkAll parts + 1
  | .iface _ d => uptoBulk d + 1
  | .map entries => uptoBulkEntries entries + 1
  | .held _ => 1
def uptoBulkAll {H : Type} : List (DataW H) → Nat
  | [] => 0
  | d :: r => uptoBulk d + uptoBulkAll r
def uptoBulkEntries {H : Type} : List (Lit × DataW H) → Nat
  | [] => 0
  | x :: r => uptoBulkEntry x + uptoBulkEntries r
def uptoBulkEntry {H : Type} : Lit × DataW H → Nat
  | (.string bytes, d) => bytes.length + uptoBulk d + 1
  | (_, d) => uptoBulk d + 1
 end
def uptoSmall : (H : Type) → List (DataW H) → Bool := fun _ ds => decide (uptoBulkAll ds ≤ 1048576)
def OpenSpec.upto (s : _root_.Go.ChangeSpec) : _root_.Go.OpenSpec := { _root_.Go.OpenSpec.ofChange s with cond := some uptoSmall }

/-- 'plunderlaw22.ExploreDepends', WHERE WHAT IT READS IS OF BULK AT MOST 1048576: true; the input reads as it did. -/
def exploreDependsUptoRow : OpenClaim := { program := "ytanfmmcpjifgiab", sum := "0907918805672d8c821cbcf5511931dbba5359c4ce667d3468e5a200e01f37e3", func := "plunder/plunderlaw22.ExploreDepends", spec := "exploreDepends", plainKeys := false, apart := false, narrowed := true }
def ExploreDependsUptoSaid : Prop := exploreDependsUptoRow.holds Try.pinned (OpenSpec.upto exploreDependsSpec)

/-- 'plunderlaw22.ExploreCheck', WHERE WHAT IT READS IS OF BULK AT MOST 1048576: true; the input reads as it did. -/
def exploreCheckUptoRow : OpenClaim := { program := "ytanfmmcpjifgiab", sum := "0907918805672d8c821cbcf5511931dbba5359c4ce667d3468e5a200e01f37e3", func := "plunder/plunderlaw22.ExploreCheck", spec := "exploreCheck", plainKeys := false, apart := false, narrowed := true }
def ExploreCheckUptoSaid : Prop := exploreCheckUptoRow.holds Try.pinned (OpenSpec.upto exploreCheckSpec)

/-- 'plunderlaw22.ExploreAll', WHERE WHAT IT READS IS OF BULK AT MOST 1048576: true; the input reads as it did. -/
def exploreAllUptoRow : OpenClaim := { program := "ytanfmmcpjifgiab", sum := "0907918805672d8c821cbcf5511931dbba5359c4ce667d3468e5a200e01f37e3", func := "plunder/plunderlaw22.ExploreAll", spec := "exploreAll", inPlace := ["maps.clone"], unfollowed := true, recurses := true, plainKeys := false, apart := false, narrowed := true }
def ExploreAllUptoSaid : Prop := exploreAllUptoRow.holds Try.pinned (OpenSpec.upto exploreAllSpec)

/-- 'plunderlaw22.ExploreKin', WHERE WHAT IT READS IS OF BULK AT MOST 1048576: true; the input reads as it did. -/
def exploreKinUptoRow : OpenClaim := { program := "ytanfmmcpjifgiab", sum := "0907918805672d8c821cbcf5511931dbba5359c4ce667d3468e5a200e01f37e3", func := "plunder/plunderlaw22.ExploreKin", spec := "exploreKin", unfollowed := true, recurses := true, plainKeys := false, apart := false, narrowed := true }
def ExploreKinUptoSaid : Prop := exploreKinUptoRow.holds Try.pinned (OpenSpec.upto exploreKinSpec)

/-- 'plunderlaw22.ExploreRun', WHERE WHAT IT READS IS OF BULK AT MOST 1048576: true; the input reads as it did. -/
def exploreRunUptoRow : OpenClaim := { program := "ytanfmmcpjifgiab", sum := "0907918805672d8c821cbcf5511931dbba5359c4ce667d3468e5a200e01f37e3", func := "plunder/plunderlaw22.ExploreRun", spec := "exploreRun", unfollowed := true, recurses := true, plainKeys := false, apart := false, narrowed := true }
def ExploreRunUptoSaid : Prop := exploreRunUptoRow.holds Try.pinned (OpenSpec.upto exploreRunSpec)

/-- 'plunderlaw22.ExploreFinals', WHERE WHAT IT READS IS OF BULK AT MOST 1048576: true; the input reads as it did. -/
def exploreFinalsUptoRow : OpenClaim := { program := "ytanfmmcpjifgiab", sum := "0907918805672d8c821cbcf5511931dbba5359c4ce667d3468e5a200e01f37e3", func := "plunder/plunderlaw22.ExploreFinals", spec := "exploreFinals", inPlace := ["maps.clone", "slices.overlaps[[]int64]"], unfollowed := true, recurses := true, plainKeys := false, apart := false, narrowed := true }
def ExploreFinalsUptoSaid : Prop := exploreFinalsUptoRow.holds Try.pinned (OpenSpec.upto exploreFinalsSpec)

end Rows
end Go.Proofs.Ytanfmmcpjifgiab
