/-
  No cell of these rows narrows 'for every input' (looked for: loops, veiled, ifaces, maps, wideKeys, modest, calm, conditions, laid).
  DERIVED. THE GIVEN ROWS OF THIS SEAT. 7 by the template 'for every input the law returns true; each argument reads behind the call as it read before'; 0 by the template 'total and deterministic' (their statements: YtipihecaaakagaaTotals.lean).
  GIVEN WITH THE SEED: the statements are not yours to turn. If you find one false, say at which input.
  Laid BY PROGRAM, IN A SANDBOX (cutbox-rows.mjs): the forced cells as the released guide's own fill.sh prints them over the translation 2f791dbf60fc48e6… (all of the seat's roots in one cut). By AI agents, Wed Nov 11 2026. No macro, syntax, notation, axiom, sorry.
-/
import Derived.Test.YtipihecaaakagaaChecked
import GoSem.Claim
import GoSem.ClaimJoined
import GoSem.ClaimMapViews
import Derived.JoinedTies
import Derived.KernelRfl
namespace Go.Proofs.Ytipihecaaakagaa
/- THE CELL 'sum', in the pinned program and in every row, IS THE sha256 OF THE DUMP (.gsa) THAT YtipihecaaakagaaProg.lean LOADS. Nothing in Lean hashes anything: it is a label: what it is worth is what the hold of that sum in a sandbox is worth. -/
noncomputable def Try.pinned : Pinned := { name := "ytipihecaaakagaa", sum := "2f791dbf60fc48e6c4afc1323a6328cb95e83dc509b467e29c6888547c3708b3", checked := Try.checked }
namespace Rows
def none {H : Type} : Left H := { results := [], args := [] }

/-- 'plunderlaw22.ExploreFoata': WHATEVER THE INPUT: true; the input reads as it did. -/
def exploreFoataSpec : ChangeSpec := { name := "exploreFoata", fn := fun _ => fun
  | [d1, d2] => { results := [.lit (.bool true)], args := [d1, d2] }
  | _ => none }
def exploreFoataRow : OpenClaim := { program := "ytipihecaaakagaa", sum := "2f791dbf60fc48e6c4afc1323a6328cb95e83dc509b467e29c6888547c3708b3", func := "plunder/plunderlaw22.ExploreFoata", spec := "exploreFoata", unfollowed := true, recurses := true, plainKeys := false, apart := false }
def ExploreFoataSaid : Prop := exploreFoataRow.holds Try.pinned (OpenSpec.ofChange exploreFoataSpec)

/-- ITS FALSE NEIGHBOUR: 'it returns false'. Refute it at one input. -/
def exploreFoataWrong : ChangeSpec := { name := "exploreFoata", fn := fun _ => fun
  | [d1, d2] => { results := [.lit (.bool false)], args := [d1, d2] }
  | _ => none }
def ExploreFoataWrongFalsely : Prop := exploreFoataRow.holds Try.pinned (OpenSpec.ofChange exploreFoataWrong)

/-- 'plunderlaw22.ExploreEnds': WHATEVER THE INPUT: true; the input reads as it did. -/
def exploreEndsSpec : ChangeSpec := { name := "exploreEnds", fn := fun _ => fun
  | [d1, d2] => { results := [.lit (.bool true)], args := [d1, d2] }
  | _ => none }
def exploreEndsRow : OpenClaim := { program := "ytipihecaaakagaa", sum := "2f791dbf60fc48e6c4afc1323a6328cb95e83dc509b467e29c6888547c3708b3", func := "plunder/plunderlaw22.ExploreEnds", spec := "exploreEnds", inPlace := ["maps.clone", "slices.overlaps[[]int64]"], unfollowed := true, recurses := true, plainKeys := false, apart := false }
def ExploreEndsSaid : Prop := exploreEndsRow.holds Try.pinned (OpenSpec.ofChange exploreEndsSpec)

/-- ITS FALSE NEIGHBOUR: 'it returns false'. Refute it at one input. -/
def exploreEndsWrong : ChangeSpec := { name := "exploreEnds", fn := fun _ => fun
  | [d1, d2] => { results := [.lit (.bool false)], args := [d1, d2] }
  | _ => none }
def ExploreEndsWrongFalsely : Prop := exploreEndsRow.holds Try.pinned (OpenSpec.ofChange exploreEndsWrong)

/-- 'plunderlaw22.ExploreAlike': WHATEVER THE INPUT: true; the input reads as it did. -/
def exploreAlikeSpec : ChangeSpec := { name := "exploreAlike", fn := fun _ => fun
  | [d1, d2, d3] => { results := [.lit (.bool true)], args := [d1, d2, d3] }
  | _ => none }
def exploreAlikeRow : OpenClaim := { program := "ytipihecaaakagaa", sum := "2f791dbf60fc48e6c4afc1323a6328cb95e83dc509b467e29c6888547c3708b3", func := "plunder/plunderlaw22.ExploreAlike", spec := "exploreAlike", unfollowed := true, recurses := true, plainKeys := false, apart := false }
def ExploreAlikeSaid : Prop := exploreAlikeRow.holds Try.pinned (OpenSpec.ofChange exploreAlikeSpec)

/-- ITS FALSE NEIGHBOUR: 'it returns false'. Refute it at one input. -/
def exploreAlikeWrong : ChangeSpec := { name := "exploreAlike", fn := fun _ => fun
  | [d1, d2, d3] => { results := [.lit (.bool false)], args := [d1, d2, d3] }
  | _ => none }
def ExploreAlikeWrongFalsely : Prop := exploreAlikeRow.holds Try.pinned (OpenSpec.ofChange exploreAlikeWrong)

/-- 'plunderlaw22.ExploreApart': WHATEVER THE INPUT: true; the input reads as it did. -/
def exploreApartSpec : ChangeSpec := { name := "exploreApart", fn := fun _ => fun
  | [d1, d2] => { results := [.lit (.bool true)], args := [d1, d2] }
  | _ => none }
def exploreApartRow : OpenClaim := { program := "ytipihecaaakagaa", sum := "2f791dbf60fc48e6c4afc1323a6328cb95e83dc509b467e29c6888547c3708b3", func := "plunder/plunderlaw22.ExploreApart", spec := "exploreApart", inPlace := ["maps.clone", "slices.overlaps[[]int64]"], unfollowed := true, recurses := true, plainKeys := false, apart := false }
def ExploreApartSaid : Prop := exploreApartRow.holds Try.pinned (OpenSpec.ofChange exploreApartSpec)

/-- ITS FALSE NEIGHBOUR: 'it returns false'. Refute it at one input. -/
def exploreApartWrong : ChangeSpec := { name := "exploreApart", fn := fun _ => fun
  | [d1, d2] => { results := [.lit (.bool false)], args := [d1, d2] }
  | _ => none }
def ExploreApartWrongFalsely : Prop := exploreApartRow.holds Try.pinned (OpenSpec.ofChange exploreApartWrong)

/-- 'plunderlaw22.ExploreSwaps': WHATEVER THE INPUT: true; the input reads as it did. -/
def exploreSwapsSpec : ChangeSpec := { name := "exploreSwaps", fn := fun _ => fun
  | [d1, d2, d3] => { results := [.lit (.bool true)], args := [d1, d2, d3] }
  | _ => none }
def exploreSwapsRow : OpenClaim := { program := "ytipihecaaakagaa", sum := "2f791dbf60fc48e6c4afc1323a6328cb95e83dc509b467e29c6888547c3708b3", func := "plunder/plunderlaw22.ExploreSwaps", spec := "exploreSwaps", inPlace := ["maps.clone", "slices.overlaps[[]int64]"], unfollowed := true, recurses := true, plainKeys := false, apart := false }
def ExploreSwapsSaid : Prop := exploreSwapsRow.holds Try.pinned (OpenSpec.ofChange exploreSwapsSpec)

/-- ITS FALSE NEIGHBOUR: 'it returns false'. Refute it at one input. -/
def exploreSwapsWrong : ChangeSpec := { name := "exploreSwaps", fn := fun _ => fun
  | [d1, d2, d3] => { results := [.lit (.bool false)], args := [d1, d2, d3] }
  | _ => none }
def ExploreSwapsWrongFalsely : Prop := exploreSwapsRow.holds Try.pinned (OpenSpec.ofChange exploreSwapsWrong)

/-- 'plunderlaw22.ExploreOnce': WHATEVER THE INPUT: true; the input reads as it did. -/
def exploreOnceSpec : ChangeSpec := { name := "exploreOnce", fn := fun _ => fun
  | [d1, d2] => { results := [.lit (.bool true)], args := [d1, d2] }
  | _ => none }
def exploreOnceRow : OpenClaim := { program := "ytipihecaaakagaa", sum := "2f791dbf60fc48e6c4afc1323a6328cb95e83dc509b467e29c6888547c3708b3", func := "plunder/plunderlaw22.ExploreOnce", spec := "exploreOnce", inPlace := ["maps.clone", "slices.overlaps[[]int64]"], unfollowed := true, recurses := true, plainKeys := false, apart := false }
def ExploreOnceSaid : Prop := exploreOnceRow.holds Try.pinned (OpenSpec.ofChange exploreOnceSpec)

/-- ITS FALSE NEIGHBOUR: 'it returns false'. Refute it at one input. -/
def exploreOnceWrong : ChangeSpec := { name := "exploreOnce", fn := fun _ => fun
  | [d1, d2] => { results := [.lit (.bool false)], args := [d1, d2] }
  | _ => none }
def ExploreOnceWrongFalsely : Prop := exploreOnceRow.holds Try.pinned (OpenSpec.ofChange exploreOnceWrong)

/-- 'plunderlaw22.ExploreForms': WHATEVER THE INPUT: true; the input reads as it did. -/
def exploreFormsSpec : ChangeSpec := { name := "exploreForms", fn := fun _ => fun
  | [d1, d2, d3] => { results := [.lit (.bool true)], args := [d1, d2, d3] }
  | _ => none }
def exploreFormsRow : OpenClaim := { program := "ytipihecaaakagaa", sum := "2f791dbf60fc48e6c4afc1323a6328cb95e83dc509b467e29c6888547c3708b3", func := "plunder/plunderlaw22.ExploreForms", spec := "exploreForms", inPlace := ["maps.clone", "slices.overlaps[[]int64]"], unfollowed := true, recurses := true, plainKeys := false, apart := false }
def ExploreFormsSaid : Prop := exploreFormsRow.holds Try.pinned (OpenSpec.ofChange exploreFormsSpec)

/-- ITS FALSE NEIGHBOUR: 'it returns false'. Refute it at one input. -/
def exploreFormsWrong : ChangeSpec := { name := "exploreForms", fn := fun _ => fun
  | [d1, d2, d3] => { results := [.lit (.bool false)], args := [d1, d2, d3] }
  | _ => none }
def ExploreFormsWrongFalsely : Prop := exploreFormsRow.holds Try.pinned (OpenSpec.ofChange exploreFormsWrong)

/- THE SECOND FORM. 'bulk': how many values and letters a reading holds, each counted each time it is reached (what is shared counts as often as it is met; a slice's spare places count too). A statement '..UptoSaid' is the law's where the arguments, and the package variables that the reading takes, are together of bulk at most 1048576: NARROWER than '..Said'. Prove '..Said' where nothing that the law and all that it calls make is longer than what came in: it says more and counts as full. Else prove '..UptoSaid'. A law counts once. -/
mutual
def uptoBulk {H : Type} : DataW H → Nat
  | .lit (.string bytes) => bytes.length + 1
  | .lit _ => 1
  | .nil => 1
  | .ptr d => uptoBulk d + 1
  | .slice elems spare => uptoBulkAll elems + uptoBulkAll spare + 1
  | .agg parts => uptoBulkAll parts + 1
  | .iface _ d => uptoBulk d + 1
  | .map entries => uptoBulkEntries entries + 1
  | .held _ => 1
def uptoBulkAll {H : Type} : List (DataW H) → Nat
  | [] => 0
  | d :: r => uptoBulk d + uptoBulkAll r
def uptoBulkEntries {H : Type} : List (Lit × DataW H) → Nat
  | [] => 0
  | x :: r => uptoBulkEntry x + uptoBulkEntries r
def uptoBulkEntry {H : Type} : Lit × DataW H → Nat
  | (.string bytes, d) => bytes.length + uptoBulk d + 1
  | (_, d) => uptoBulk d + 1
 end
def uptoSmall : (H : Type) → List (DataW H) → Bool := fun _ ds => decide (uptoBulkAll ds ≤ 1048576)
def OpenSpec.upto (s : _root_.Go.ChangeSpec) : _root_.Go.OpenSpec := { _root_.Go.OpenSpec.ofChange s with cond := some uptoSmall }

/-- 'plunderlaw22.ExploreFoata', WHERE WHAT IT READS IS OF BULK AT MOST 1048576: true; the input reads as it did. -/
def exploreFoataUptoRow : OpenClaim := { program := "ytipihecaaakagaa", sum := "2f791dbf60fc48e6c4afc1323a6328cb95e83dc509b467e29c6888547c3708b3", func := "plunder/plunderlaw22.ExploreFoata", spec := "exploreFoata", unfollowed := true, recurses := true, plainKeys := false, apart := false, narrowed := true }
def ExploreFoataUptoSaid : Prop := exploreFoataUptoRow.holds Try.pinned (OpenSpec.upto exploreFoataSpec)

/-- 'plunderlaw22.ExploreEnds', WHERE WHAT IT READS IS OF BULK AT MOST 1048576: true; the input reads as it did. -/
def exploreEndsUptoRow : OpenClaim := { program := "ytipihecaaakagaa", sum := "2f791dbf60fc48e6c4afc1323a6328cb95e83dc509b467e29c6888547c3708b3", func := "plunder/plunderlaw22.ExploreEnds", spec := "exploreEnds", inPlace := ["maps.clone", "slices.overlaps[[]int64]"], unfollowed := true, recurses := true, plainKeys := false, apart := false, narrowed := true }
def ExploreEndsUptoSaid : Prop := exploreEndsUptoRow.holds Try.pinned (OpenSpec.upto exploreEndsSpec)

/-- 'plunderlaw22.ExploreAlike', WHERE WHAT IT READS IS OF BULK AT MOST 1048576: true; the input reads as it did. -/
def exploreAlikeUptoRow : OpenClaim := { program := "ytipihecaaakagaa", sum := "2f791dbf60fc48e6c4afc1323a6328cb95e83dc509b467e29c6888547c3708b3", func := "plunder/plunderlaw22.ExploreAlike", spec := "exploreAlike", unfollowed := true, recurses := true, plainKeys := false, apart := false, narrowed := true }
def ExploreAlikeUptoSaid : Prop := exploreAlikeUptoRow.holds Try.pinned (OpenSpec.upto exploreAlikeSpec)

/-- 'plunderlaw22.ExploreApart', WHERE WHAT IT READS IS OF BULK AT MOST 1048576: true; the input reads as it did. -/
def exploreApartUptoRow : OpenClaim := { program := "ytipihecaaakagaa", sum := "2f791dbf60fc48e6c4afc1323a6328cb95e83dc509b467e29c6888547c3708b3", func := "plunder/plunderlaw22.ExploreApart", spec := "exploreApart", inPlace := ["maps.clone", "slices.overlaps[[]int64]"], unfollowed := true, recurses := true, plainKeys := false, apart := false, narrowed := true }
def ExploreApartUptoSaid : Prop := exploreApartUptoRow.holds Try.pinned (OpenSpec.upto exploreApartSpec)

/-- 'plunderlaw22.ExploreSwaps', WHERE WHAT IT READS IS OF BULK AT MOST 1048576: true; the input reads as it did. -/
def exploreSwapsUptoRow : OpenClaim := { program := "ytipihecaaakagaa", sum := "2f791dbf60fc48e6c4afc1323a6328cb95e83dc509b467e29c6888547c3708b3", func := "plunder/plunderlaw22.ExploreSwaps", spec := "exploreSwaps", inPlace := ["maps.clone", "slices.overlaps[[]int64]"], unfollowed := true, recurses := true, plainKeys := false, apart := false, narrowed := true }
def ExploreSwapsUptoSaid : Prop := exploreSwapsUptoRow.holds Try.pinned (OpenSpec.upto exploreSwapsSpec)

/-- 'plunderlaw22.ExploreOnce', WHERE WHAT IT READS IS OF BULK AT MOST 1048576: true; the input reads as it did. -/
def exploreOnceUptoRow : OpenClaim := { program := "ytipihecaaakagaa", sum := "2f791dbf60fc48e6c4afc1323a6328cb95e83dc509b467e29c6888547c3708b3", func := "plunder/plunderlaw22.ExploreOnce", spec := "exploreOnce", inPlace := ["maps.clone", "slices.overlaps[[]int64]"], unfollowed := true, recurses := true, plainKeys := false, apart := false, narrowed := true }
def ExploreOnceUptoSaid : Prop := exploreOnceUptoRow.holds Try.pinned (OpenSpec.upto exploreOnceSpec)

/-- 'plunderlaw22.ExploreForms', WHERE WHAT IT READS IS OF BULK AT MOST 1048576: true; the input reads as it did. -/
def exploreFormsUptoRow : OpenClaim := { program := "ytipihecaaakagaa", sum := "2f791dbf60fc48e6c4afc1323a6328cb95e83dc509b467e29c6888547c3708b3", func := "plunder/plunderlaw22.ExploreForms", spec := "exploreForms", inPlace := ["maps.clone", "slices.overlaps[[]int64]"], unfollowed := true, recurses := true, plainKeys := false, apart := false, narrowed := true }
def ExploreFormsUptoSaid : Prop := exploreFormsUptoRow.holds Try.pinned (OpenSpec.upto exploreFormsSpec)

end Rows
end Go.Proofs.Ytipihecaaakagaa
