/-
  No cell of these rows narrows 'for every input' (looked for: loops, veiled, ifaces, maps, wideKeys, modest, calm, conditions, laid).
  DERIVED. THE GIVEN ROWS OF THIS SEAT. 18 by the template 'for every input the law returns true; each argument reads behind the call as it read before'; 0 by the template 'total and deterministic' (their statements: YtmodhpgnkbnbaaaTotals.lean).
  GIVEN WITH THE SEED: the statements are not yours to turn. If you find one false, say at which input.
  Laid BY PROGRAM, IN A SANDBOX (cutbox-rows.mjs): the forced cells as the released guide's own fill.sh prints them over the translation 8b616c41595e5cd2… (all of the seat's roots in one cut). By AI agents, Wed Nov 11 2026. No macro, syntax, notation, axiom, sorry.
-/
import Derived.Test.YtmodhpgnkbnbaaaChecked
import GoSem.Claim
import GoSem.ClaimJoined
import GoSem.ClaimMapViews
import Derived.JoinedTies
import Derived.KernelRfl
namespace Go.Proofs.Ytmodhpgnkbnbaaa
/- THE CELL 'sum', in the pinned program and in every row, IS THE sha256 OF THE DUMP (.gsa) THAT YtmodhpgnkbnbaaaProg.lean LOADS. Nothing in Lean hashes anything: it is a label: what it is worth is what the hold of that sum in a sandbox is worth. -/
noncomputable def Try.pinned : Pinned := { name := "ytmodhpgnkbnbaaa", sum := "8b616c41595e5cd22cd648504bf58134a9a001481b8f505c91ac73fa10e2633e", checked := Try.checked }
namespace Rows
def none {H : Type} : Left H := { results := [], args := [] }

/-- 'laws.FnExactValidRegion': WHATEVER THE INPUT: true; the input reads as it did. -/
def fnExactValidRegionSpec : ChangeSpec := { name := "fnExactValidRegion", fn := fun _ => fun
  | [d] => { results := [.lit (.bool true)], args := [d] }
  | _ => none }
def fnExactValidRegionRow : OpenClaim := { program := "ytmodhpgnkbnbaaa", sum := "8b616c41595e5cd22cd648504bf58134a9a001481b8f505c91ac73fa10e2633e", func := "loop.example/g01149/laws.FnExactValidRegion", spec := "fnExactValidRegion", apart := false }
def FnExactValidRegionSaid : Prop := fnExactValidRegionRow.holds Try.pinned (OpenSpec.ofChange fnExactValidRegionSpec)

/-- ITS FALSE NEIGHBOUR: 'it returns false'. Refute it at one input. -/
def fnExactValidRegionWrong : ChangeSpec := { name := "fnExactValidRegion", fn := fun _ => fun
  | [d] => { results := [.lit (.bool false)], args := [d] }
  | _ => none }
def FnExactValidRegionWrongFalsely : Prop := fnExactValidRegionRow.holds Try.pinned (OpenSpec.ofChange fnExactValidRegionWrong)

/-- 'laws.FnExactDistanceOf': WHATEVER THE INPUT: true; the input reads as it did. -/
def fnExactDistanceOfSpec : ChangeSpec := { name := "fnExactDistanceOf", fn := fun _ => fun
  | [d1, d2] => { results := [.lit (.bool true)], args := [d1, d2] }
  | _ => none }
def fnExactDistanceOfRow : OpenClaim := { program := "ytmodhpgnkbnbaaa", sum := "8b616c41595e5cd22cd648504bf58134a9a001481b8f505c91ac73fa10e2633e", func := "loop.example/g01149/laws.FnExactDistanceOf", spec := "fnExactDistanceOf", apart := false }
def FnExactDistanceOfSaid : Prop := fnExactDistanceOfRow.holds Try.pinned (OpenSpec.ofChange fnExactDistanceOfSpec)

/-- ITS FALSE NEIGHBOUR: 'it returns false'. Refute it at one input. -/
def fnExactDistanceOfWrong : ChangeSpec := { name := "fnExactDistanceOf", fn := fun _ => fun
  | [d1, d2] => { results := [.lit (.bool false)], args := [d1, d2] }
  | _ => none }
def FnExactDistanceOfWrongFalsely : Prop := fnExactDistanceOfRow.holds Try.pinned (OpenSpec.ofChange fnExactDistanceOfWrong)

/-- 'laws.FnExactFarRegions': WHATEVER THE INPUT: true; the input reads as it did. -/
def fnExactFarRegionsSpec : ChangeSpec := { name := "fnExactFarRegions", fn := fun _ => fun
  | [d1, d2] => { results := [.lit (.bool true)], args := [d1, d2] }
  | _ => none }
def fnExactFarRegionsRow : OpenClaim := { program := "ytmodhpgnkbnbaaa", sum := "8b616c41595e5cd22cd648504bf58134a9a001481b8f505c91ac73fa10e2633e", func := "loop.example/g01149/laws.FnExactFarRegions", spec := "fnExactFarRegions", apart := false }
def FnExactFarRegionsSaid : Prop := fnExactFarRegionsRow.holds Try.pinned (OpenSpec.ofChange fnExactFarRegionsSpec)

/-- ITS FALSE NEIGHBOUR: 'it returns false'. Refute it at one input. -/
def fnExactFarRegionsWrong : ChangeSpec := { name := "fnExactFarRegions", fn := fun _ => fun
  | [d1, d2] => { results := [.lit (.bool false)], args := [d1, d2] }
  | _ => none }
def FnExactFarRegionsWrongFalsely : Prop := fnExactFarRegionsRow.holds Try.pinned (OpenSpec.ofChange fnExactFarRegionsWrong)

/-- 'laws.FnExactLeafRegion': WHATEVER THE INPUT: true; the input reads as it did. -/
def fnExactLeafRegionSpec : ChangeSpec := { name := "fnExactLeafRegion", fn := fun _ => fun
  | [d] => { results := [.lit (.bool true)], args := [d] }
  | _ => none }
def fnExactLeafRegionRow : OpenClaim := { program := "ytmodhpgnkbnbaaa", sum := "8b616c41595e5cd22cd648504bf58134a9a001481b8f505c91ac73fa10e2633e", func := "loop.example/g01149/laws.FnExactLeafRegion", spec := "fnExactLeafRegion", apart := false }
def FnExactLeafRegionSaid : Prop := fnExactLeafRegionRow.holds Try.pinned (OpenSpec.ofChange fnExactLeafRegionSpec)

/-- ITS FALSE NEIGHBOUR: 'it returns false'. Refute it at one input. -/
def fnExactLeafRegionWrong : ChangeSpec := { name := "fnExactLeafRegion", fn := fun _ => fun
  | [d] => { results := [.lit (.bool false)], args := [d] }
  | _ => none }
def FnExactLeafRegionWrongFalsely : Prop := fnExactLeafRegionRow.holds Try.pinned (OpenSpec.ofChange fnExactLeafRegionWrong)

/-- 'laws.FnExactGrowRegion': WHATEVER THE INPUT: true; the input reads as it did. -/
def fnExactGrowRegionSpec : ChangeSpec := { name := "fnExactGrowRegion", fn := fun _ => fun
  | [d1, d2] => { results := [.lit (.bool true)], args := [d1, d2] }
  | _ => none }
def fnExactGrowRegionRow : OpenClaim := { program := "ytmodhpgnkbnbaaa", sum := "8b616c41595e5cd22cd648504bf58134a9a001481b8f505c91ac73fa10e2633e", func := "loop.example/g01149/laws.FnExactGrowRegion", spec := "fnExactGrowRegion", apart := false }
def FnExactGrowRegionSaid : Prop := fnExactGrowRegionRow.holds Try.pinned (OpenSpec.ofChange fnExactGrowRegionSpec)

/-- ITS FALSE NEIGHBOUR: 'it returns false'. Refute it at one input. -/
def fnExactGrowRegionWrong : ChangeSpec := { name := "fnExactGrowRegion", fn := fun _ => fun
  | [d1, d2] => { results := [.lit (.bool false)], args := [d1, d2] }
  | _ => none }
def FnExactGrowRegionWrongFalsely : Prop := fnExactGrowRegionRow.holds Try.pinned (OpenSpec.ofChange fnExactGrowRegionWrong)

/-- 'laws.FnExactMeetRegions': WHATEVER THE INPUT: true; the input reads as it did. -/
def fnExactMeetRegionsSpec : ChangeSpec := { name := "fnExactMeetRegions", fn := fun _ => fun
  | [d1, d2] => { results := [.lit (.bool true)], args := [d1, d2] }
  | _ => none }
def fnExactMeetRegionsRow : OpenClaim := { program := "ytmodhpgnkbnbaaa", sum := "8b616c41595e5cd22cd648504bf58134a9a001481b8f505c91ac73fa10e2633e", func := "loop.example/g01149/laws.FnExactMeetRegions", spec := "fnExactMeetRegions", apart := false }
def FnExactMeetRegionsSaid : Prop := fnExactMeetRegionsRow.holds Try.pinned (OpenSpec.ofChange fnExactMeetRegionsSpec)

/-- ITS FALSE NEIGHBOUR: 'it returns false'. Refute it at one input. -/
def fnExactMeetRegionsWrong : ChangeSpec := { name := "fnExactMeetRegions", fn := fun _ => fun
  | [d1, d2] => { results := [.lit (.bool false)], args := [d1, d2] }
  | _ => none }
def FnExactMeetRegionsWrongFalsely : Prop := fnExactMeetRegionsRow.holds Try.pinned (OpenSpec.ofChange fnExactMeetRegionsWrong)

/-- 'laws.FnExactIsJoins': WHATEVER THE INPUT: true; the input reads as it did. -/
def fnExactIsJoinsSpec : ChangeSpec := { name := "fnExactIsJoins", fn := fun _ => fun
  | [d1, d2] => { results := [.lit (.bool true)], args := [d1, d2] }
  | _ => none }
def fnExactIsJoinsRow : OpenClaim := { program := "ytmodhpgnkbnbaaa", sum := "8b616c41595e5cd22cd648504bf58134a9a001481b8f505c91ac73fa10e2633e", func := "loop.example/g01149/laws.FnExactIsJoins", spec := "fnExactIsJoins", apart := false }
def FnExactIsJoinsSaid : Prop := fnExactIsJoinsRow.holds Try.pinned (OpenSpec.ofChange fnExactIsJoinsSpec)

/-- ITS FALSE NEIGHBOUR: 'it returns false'. Refute it at one input. -/
def fnExactIsJoinsWrong : ChangeSpec := { name := "fnExactIsJoins", fn := fun _ => fun
  | [d1, d2] => { results := [.lit (.bool false)], args := [d1, d2] }
  | _ => none }
def FnExactIsJoinsWrongFalsely : Prop := fnExactIsJoinsRow.holds Try.pinned (OpenSpec.ofChange fnExactIsJoinsWrong)

/-- 'laws.FnMerges': WHATEVER THE INPUT: true; the input reads as it did. -/
def fnMergesSpec : ChangeSpec := { name := "fnMerges", fn := fun _ => fun
  | [d1, d2] => { results := [.lit (.bool true)], args := [d1, d2] }
  | _ => none }
def fnMergesRow : OpenClaim := { program := "ytmodhpgnkbnbaaa", sum := "8b616c41595e5cd22cd648504bf58134a9a001481b8f505c91ac73fa10e2633e", func := "loop.example/g01149/laws.FnMerges", spec := "fnMerges", apart := false }
def FnMergesSaid : Prop := fnMergesRow.holds Try.pinned (OpenSpec.ofChange fnMergesSpec)

/-- ITS FALSE NEIGHBOUR: 'it returns false'. Refute it at one input. -/
def fnMergesWrong : ChangeSpec := { name := "fnMerges", fn := fun _ => fun
  | [d1, d2] => { results := [.lit (.bool false)], args := [d1, d2] }
  | _ => none }
def FnMergesWrongFalsely : Prop := fnMergesRow.holds Try.pinned (OpenSpec.ofChange fnMergesWrong)

/-- 'laws.FnExactNearestPoint': WHATEVER THE INPUT: true; the input reads as it did. -/
def fnExactNearestPointSpec : ChangeSpec := { name := "fnExactNearestPoint", fn := fun _ => fun
  | [d1, d2] => { results := [.lit (.bool true)], args := [d1, d2] }
  | _ => none }
def fnExactNearestPointRow : OpenClaim := { program := "ytmodhpgnkbnbaaa", sum := "8b616c41595e5cd22cd648504bf58134a9a001481b8f505c91ac73fa10e2633e", func := "loop.example/g01149/laws.FnExactNearestPoint", spec := "fnExactNearestPoint", unfollowed := true, recurses := true, apart := false }
def FnExactNearestPointSaid : Prop := fnExactNearestPointRow.holds Try.pinned (OpenSpec.ofChange fnExactNearestPointSpec)

/-- ITS FALSE NEIGHBOUR: 'it returns false'. Refute it at one input. -/
def fnExactNearestPointWrong : ChangeSpec := { name := "fnExactNearestPoint", fn := fun _ => fun
  | [d1, d2] => { results := [.lit (.bool false)], args := [d1, d2] }
  | _ => none }
def FnExactNearestPointWrongFalsely : Prop := fnExactNearestPointRow.holds Try.pinned (OpenSpec.ofChange fnExactNearestPointWrong)

/-- 'laws.FnExactMergePair': WHATEVER THE INPUT: true; the input reads as it did. -/
def fnExactMergePairSpec : ChangeSpec := { name := "fnExactMergePair", fn := fun _ => fun
  | [d1, d2] => { results := [.lit (.bool true)], args := [d1, d2] }
  | _ => none }
def fnExactMergePairRow : OpenClaim := { program := "ytmodhpgnkbnbaaa", sum := "8b616c41595e5cd22cd648504bf58134a9a001481b8f505c91ac73fa10e2633e", func := "loop.example/g01149/laws.FnExactMergePair", spec := "fnExactMergePair", apart := false }
def FnExactMergePairSaid : Prop := fnExactMergePairRow.holds Try.pinned (OpenSpec.ofChange fnExactMergePairSpec)

/-- ITS FALSE NEIGHBOUR: 'it returns false'. Refute it at one input. -/
def fnExactMergePairWrong : ChangeSpec := { name := "fnExactMergePair", fn := fun _ => fun
  | [d1, d2] => { results := [.lit (.bool false)], args := [d1, d2] }
  | _ => none }
def FnExactMergePairWrongFalsely : Prop := fnExactMergePairRow.holds Try.pinned (OpenSpec.ofChange fnExactMergePairWrong)

/-- 'laws.FnExactSkewOf': WHATEVER THE INPUT: true; the input reads as it did. -/
def fnExactSkewOfSpec : ChangeSpec := { name := "fnExactSkewOf", fn := fun _ => fun
  | [d1, d2, d3] => { results := [.lit (.bool true)], args := [d1, d2, d3] }
  | _ => none }
def fnExactSkewOfRow : OpenClaim := { program := "ytmodhpgnkbnbaaa", sum := "8b616c41595e5cd22cd648504bf58134a9a001481b8f505c91ac73fa10e2633e", func := "loop.example/g01149/laws.FnExactSkewOf", spec := "fnExactSkewOf", unfollowed := true, recurses := true, apart := false }
def FnExactSkewOfSaid : Prop := fnExactSkewOfRow.holds Try.pinned (OpenSpec.ofChange fnExactSkewOfSpec)

/-- ITS FALSE NEIGHBOUR: 'it returns false'. Refute it at one input. -/
def fnExactSkewOfWrong : ChangeSpec := { name := "fnExactSkewOf", fn := fun _ => fun
  | [d1, d2, d3] => { results := [.lit (.bool false)], args := [d1, d2, d3] }
  | _ => none }
def FnExactSkewOfWrongFalsely : Prop := fnExactSkewOfRow.holds Try.pinned (OpenSpec.ofChange fnExactSkewOfWrong)

/-- 'laws.FnClocks': WHATEVER THE INPUT: true; the input reads as it did. -/
def fnClocksSpec : ChangeSpec := { name := "fnClocks", fn := fun _ => fun
  | [d1, d2] => { results := [.lit (.bool true)], args := [d1, d2] }
  | _ => none }
def fnClocksRow : OpenClaim := { program := "ytmodhpgnkbnbaaa", sum := "8b616c41595e5cd22cd648504bf58134a9a001481b8f505c91ac73fa10e2633e", func := "loop.example/g01149/laws.FnClocks", spec := "fnClocks", unfollowed := true, recurses := true, apart := false }
def FnClocksSaid : Prop := fnClocksRow.holds Try.pinned (OpenSpec.ofChange fnClocksSpec)

/-- ITS FALSE NEIGHBOUR: 'it returns false'. Refute it at one input. -/
def fnClocksWrong : ChangeSpec := { name := "fnClocks", fn := fun _ => fun
  | [d1, d2] => { results := [.lit (.bool false)], args := [d1, d2] }
  | _ => none }
def FnClocksWrongFalsely : Prop := fnClocksRow.holds Try.pinned (OpenSpec.ofChange fnClocksWrong)

/-- 'laws.FnBestClocks': WHATEVER THE INPUT: true; the input reads as it did. -/
def fnBestClocksSpec : ChangeSpec := { name := "fnBestClocks", fn := fun _ => fun
  | [d1, d2] => { results := [.lit (.bool true)], args := [d1, d2] }
  | _ => none }
def fnBestClocksRow : OpenClaim := { program := "ytmodhpgnkbnbaaa", sum := "8b616c41595e5cd22cd648504bf58134a9a001481b8f505c91ac73fa10e2633e", func := "loop.example/g01149/laws.FnBestClocks", spec := "fnBestClocks", unfollowed := true, recurses := true, apart := false }
def FnBestClocksSaid : Prop := fnBestClocksRow.holds Try.pinned (OpenSpec.ofChange fnBestClocksSpec)

/-- ITS FALSE NEIGHBOUR: 'it returns false'. Refute it at one input. -/
def fnBestClocksWrong : ChangeSpec := { name := "fnBestClocks", fn := fun _ => fun
  | [d1, d2] => { results := [.lit (.bool false)], args := [d1, d2] }
  | _ => none }
def FnBestClocksWrongFalsely : Prop := fnBestClocksRow.holds Try.pinned (OpenSpec.ofChange fnBestClocksWrong)

/-- 'laws.FnExactNearestJoins': WHATEVER THE INPUT: true; the input reads as it did. -/
def fnExactNearestJoinsSpec : ChangeSpec := { name := "fnExactNearestJoins", fn := fun _ => fun
  | [d] => { results := [.lit (.bool true)], args := [d] }
  | _ => none }
def fnExactNearestJoinsRow : OpenClaim := { program := "ytmodhpgnkbnbaaa", sum := "8b616c41595e5cd22cd648504bf58134a9a001481b8f505c91ac73fa10e2633e", func := "loop.example/g01149/laws.FnExactNearestJoins", spec := "fnExactNearestJoins", unfollowed := true, recurses := true, apart := false }
def FnExactNearestJoinsSaid : Prop := fnExactNearestJoinsRow.holds Try.pinned (OpenSpec.ofChange fnExactNearestJoinsSpec)

/-- ITS FALSE NEIGHBOUR: 'it returns false'. Refute it at one input. -/
def fnExactNearestJoinsWrong : ChangeSpec := { name := "fnExactNearestJoins", fn := fun _ => fun
  | [d] => { results := [.lit (.bool false)], args := [d] }
  | _ => none }
def FnExactNearestJoinsWrongFalsely : Prop := fnExactNearestJoinsRow.holds Try.pinned (OpenSpec.ofChange fnExactNearestJoinsWrong)

/-- 'laws.FnExactClockWires': WHATEVER THE INPUT: true; the input reads as it did. -/
def fnExactClockWiresSpec : ChangeSpec := { name := "fnExactClockWires", fn := fun _ => fun
  | [d1, d2] => { results := [.lit (.bool true)], args := [d1, d2] }
  | _ => none }
def fnExactClockWiresRow : OpenClaim := { program := "ytmodhpgnkbnbaaa", sum := "8b616c41595e5cd22cd648504bf58134a9a001481b8f505c91ac73fa10e2633e", func := "loop.example/g01149/laws.FnExactClockWires", spec := "fnExactClockWires", unfollowed := true, recurses := true, apart := false }
def FnExactClockWiresSaid : Prop := fnExactClockWiresRow.holds Try.pinned (OpenSpec.ofChange fnExactClockWiresSpec)

/-- ITS FALSE NEIGHBOUR: 'it returns false'. Refute it at one input. -/
def fnExactClockWiresWrong : ChangeSpec := { name := "fnExactClockWires", fn := fun _ => fun
  | [d1, d2] => { results := [.lit (.bool false)], args := [d1, d2] }
  | _ => none }
def FnExactClockWiresWrongFalsely : Prop := fnExactClockWiresRow.holds Try.pinned (OpenSpec.ofChange fnExactClockWiresWrong)

/-- 'laws.FnExactBestJoins': WHATEVER THE INPUT: true; the input reads as it did. -/
def fnExactBestJoinsSpec : ChangeSpec := { name := "fnExactBestJoins", fn := fun _ => fun
  | [d] => { results := [.lit (.bool true)], args := [d] }
  | _ => none }
def fnExactBestJoinsRow : OpenClaim := { program := "ytmodhpgnkbnbaaa", sum := "8b616c41595e5cd22cd648504bf58134a9a001481b8f505c91ac73fa10e2633e", func := "loop.example/g01149/laws.FnExactBestJoins", spec := "fnExactBestJoins", unfollowed := true, recurses := true, apart := false }
def FnExactBestJoinsSaid : Prop := fnExactBestJoinsRow.holds Try.pinned (OpenSpec.ofChange fnExactBestJoinsSpec)

/-- ITS FALSE NEIGHBOUR: 'it returns false'. Refute it at one input. -/
def fnExactBestJoinsWrong : ChangeSpec := { name := "fnExactBestJoins", fn := fun _ => fun
  | [d] => { results := [.lit (.bool false)], args := [d] }
  | _ => none }
def FnExactBestJoinsWrongFalsely : Prop := fnExactBestJoinsRow.holds Try.pinned (OpenSpec.ofChange fnExactBestJoinsWrong)

/-- 'laws.FnExactClockPlaces': WHATEVER THE INPUT: true; the input reads as it did. -/
def fnExactClockPlacesSpec : ChangeSpec := { name := "fnExactClockPlaces", fn := fun _ => fun
  | [d1, d2] => { results := [.lit (.bool true)], args := [d1, d2] }
  | _ => none }
def fnExactClockPlacesRow : OpenClaim := { program := "ytmodhpgnkbnbaaa", sum := "8b616c41595e5cd22cd648504bf58134a9a001481b8f505c91ac73fa10e2633e", func := "loop.example/g01149/laws.FnExactClockPlaces", spec := "fnExactClockPlaces", unfollowed := true, recurses := true, apart := false }
def FnExactClockPlacesSaid : Prop := fnExactClockPlacesRow.holds Try.pinned (OpenSpec.ofChange fnExactClockPlacesSpec)

/-- ITS FALSE NEIGHBOUR: 'it returns false'. Refute it at one input. -/
def fnExactClockPlacesWrong : ChangeSpec := { name := "fnExactClockPlaces", fn := fun _ => fun
  | [d1, d2] => { results := [.lit (.bool false)], args := [d1, d2] }
  | _ => none }
def FnExactClockPlacesWrongFalsely : Prop := fnExactClockPlacesRow.holds Try.pinned (OpenSpec.ofChange fnExactClockPlacesWrong)

/-- 'laws.FnExactClockMerges': WHATEVER THE INPUT: true; the input reads as it did. -/
def fnExactClockMergesSpec : ChangeSpec := { name := "fnExactClockMerges", fn := fun _ => fun
  | [d1, d2] => { results := [.lit (.bool true)], args := [d1, d2] }
  | _ => none }
def fnExactClockMergesRow : OpenClaim := { program := "ytmodhpgnkbnbaaa", sum := "8b616c41595e5cd22cd648504bf58134a9a001481b8f505c91ac73fa10e2633e", func := "loop.example/g01149/laws.FnExactClockMerges", spec := "fnExactClockMerges", unfollowed := true, recurses := true, apart := false }
def FnExactClockMergesSaid : Prop := fnExactClockMergesRow.holds Try.pinned (OpenSpec.ofChange fnExactClockMergesSpec)

/-- ITS FALSE NEIGHBOUR: 'it returns false'. Refute it at one input. -/
def fnExactClockMergesWrong : ChangeSpec := { name := "fnExactClockMerges", fn := fun _ => fun
  | [d1, d2] => { results := [.lit (.bool false)], args := [d1, d2] }
  | _ => none }
def FnExactClockMergesWrongFalsely : Prop := fnExactClockMergesRow.holds Try.pinned (OpenSpec.ofChange fnExactClockMergesWrong)

/- THE SECOND FORM. 'bulk': how many values and letters a reading holds, each counted each time it is reached (what is shared counts as often as it is met; a slice's spare places count too). A statement '..UptoSaid' is the law's where the arguments, and the package variables that the reading takes, are together of bulk at most 1048576: NARROWER than '..Said'. Prove '..Said' where nothing that the law and all that it calls make is longer than what came in: it says more and counts as full. Else prove '..UptoSaid'. A law counts once. -/
mutual
def uptoBulk {H : Type} : DataW H → Nat
  | .lit (.string bytes) => bytes.length + 1
  | .lit _ => 1
  | .nil => 1
  | .ptr d => uptoBulk d + 1
  | .slice elems spare => uptoBulkAll elems + uptoBulkAll spare + 1
  | .agg parts => uptoBulkAll parts + 1
  | .iface _ d => uptoBulk d + 1
  | .map entries => uptoBulkEntries entries + 1
  | .held _ => 1
def uptoBulkAll {H : Type} : List (DataW H) → Nat
  | [] => 0
  | d :: r => uptoBulk d + uptoBulkAll r
def uptoBulkEntries {H : Type} : List (Lit × DataW H) → Nat
  | [] => 0
  | x :: r => uptoBulkEntry x + uptoBulkEntries r
def uptoBulkEntry {H : Type} : Lit × DataW H → Nat
  | (.string bytes, d) => bytes.length + uptoBulk d + 1
  | (_, d) => uptoBulk d + 1
 end
def uptoSmall : (H : Type) → List (DataW H) → Bool := fun _ ds => decide (uptoBulkAll ds ≤ 1048576)
def OpenSpec.upto (s : _root_.Go.ChangeSpec) : _root_.Go.OpenSpec := { _root_.Go.OpenSpec.ofChange s with cond := some uptoSmall }

/-- 'laws.FnExactValidRegion', WHERE WHAT IT READS IS OF BULK AT MOST 1048576: true; the input reads as it did. -/
def fnExactValidRegionUptoRow : OpenClaim := { program := "ytmodhpgnkbnbaaa", sum := "8b616c41595e5cd22cd648504bf58134a9a001481b8f505c91ac73fa10e2633e", func := "loop.example/g01149/laws.FnExactValidRegion", spec := "fnExactValidRegion", apart := false, narrowed := true }
def FnExactValidRegionUptoSaid : Prop := fnExactValidRegionUptoRow.holds Try.pinned (OpenSpec.upto fnExactValidRegionSpec)

/-- 'laws.FnExactDistanceOf', WHERE WHAT IT READS IS OF BULK AT MOST 1048576: true; the input reads as it did. -/
def fnExactDistanceOfUptoRow : OpenClaim := { program := "ytmodhpgnkbnbaaa", sum := "8b616c41595e5cd22cd648504bf58134a9a001481b8f505c91ac73fa10e2633e", func := "loop.example/g01149/laws.FnExactDistanceOf", spec := "fnExactDistanceOf", apart := false, narrowed := true }
def FnExactDistanceOfUptoSaid : Prop := fnExactDistanceOfUptoRow.holds Try.pinned (OpenSpec.upto fnExactDistanceOfSpec)

/-- 'laws.FnExactFarRegions', WHERE WHAT IT READS IS OF BULK AT MOST 1048576: true; the input reads as it did. -/
def fnExactFarRegionsUptoRow : OpenClaim := { program := "ytmodhpgnkbnbaaa", sum := "8b616c41595e5cd22cd648504bf58134a9a001481b8f505c91ac73fa10e2633e", func := "loop.example/g01149/laws.FnExactFarRegions", spec := "fnExactFarRegions", apart := false, narrowed := true }
def FnExactFarRegionsUptoSaid : Prop := fnExactFarRegionsUptoRow.holds Try.pinned (OpenSpec.upto fnExactFarRegionsSpec)

/-- 'laws.FnExactLeafRegion', WHERE WHAT IT READS IS OF BULK AT MOST 1048576: true; the input reads as it did. -/
def fnExactLeafRegionUptoRow : OpenClaim := { program := "ytmodhpgnkbnbaaa", sum := "8b616c41595e5cd22cd648504bf58134a9a001481b8f505c91ac73fa10e2633e", func := "loop.example/g01149/laws.FnExactLeafRegion", spec := "fnExactLeafRegion", apart := false, narrowed := true }
def FnExactLeafRegionUptoSaid : Prop := fnExactLeafRegionUptoRow.holds Try.pinned (OpenSpec.upto fnExactLeafRegionSpec)

/-- 'laws.FnExactGrowRegion', WHERE WHAT IT READS IS OF BULK AT MOST 1048576: true; the input reads as it did. -/
def fnExactGrowRegionUptoRow : OpenClaim := { program := "ytmodhpgnkbnbaaa", sum := "8b616c41595e5cd22cd648504bf58134a9a001481b8f505c91ac73fa10e2633e", func := "loop.example/g01149/laws.FnExactGrowRegion", spec := "fnExactGrowRegion", apart := false, narrowed := true }
def FnExactGrowRegionUptoSaid : Prop := fnExactGrowRegionUptoRow.holds Try.pinned (OpenSpec.upto fnExactGrowRegionSpec)

/-- 'laws.FnExactMeetRegions', WHERE WHAT IT READS IS OF BULK AT MOST 1048576: true; the input reads as it did. -/
def fnExactMeetRegionsUptoRow : OpenClaim := { program := "ytmodhpgnkbnbaaa", sum := "8b616c41595e5cd22cd648504bf58134a9a001481b8f505c91ac73fa10e2633e", func := "loop.example/g01149/laws.FnExactMeetRegions", spec := "fnExactMeetRegions", apart := false, narrowed := true }
def FnExactMeetRegionsUptoSaid : Prop := fnExactMeetRegionsUptoRow.holds Try.pinned (OpenSpec.upto fnExactMeetRegionsSpec)

/-- 'laws.FnExactIsJoins', WHERE WHAT IT READS IS OF BULK AT MOST 1048576: true; the input reads as it did. -/
def fnExactIsJoinsUptoRow : OpenClaim := { program := "ytmodhpgnkbnbaaa", sum := "8b616c41595e5cd22cd648504bf58134a9a001481b8f505c91ac73fa10e2633e", func := "loop.example/g01149/laws.FnExactIsJoins", spec := "fnExactIsJoins", apart := false, narrowed := true }
def FnExactIsJoinsUptoSaid : Prop := fnExactIsJoinsUptoRow.holds Try.pinned (OpenSpec.upto fnExactIsJoinsSpec)

/-- 'laws.FnMerges', WHERE WHAT IT READS IS OF BULK AT MOST 1048576: true; the input reads as it did. -/
def fnMergesUptoRow : OpenClaim := { program := "ytmodhpgnkbnbaaa", sum := "8b616c41595e5cd22cd648504bf58134a9a001481b8f505c91ac73fa10e2633e", func := "loop.example/g01149/laws.FnMerges", spec := "fnMerges", apart := false, narrowed := true }
def FnMergesUptoSaid : Prop := fnMergesUptoRow.holds Try.pinned (OpenSpec.upto fnMergesSpec)

/-- 'laws.FnExactNearestPoint', WHERE WHAT IT READS IS OF BULK AT MOST 1048576: true; the input reads as it did. -/
def fnExactNearestPointUptoRow : OpenClaim := { program := "ytmodhpgnkbnbaaa", sum := "8b616c41595e5cd22cd648504bf58134a9a001481b8f505c91ac73fa10e2633e", func := "loop.example/g01149/laws.FnExactNearestPoint", spec := "fnExactNearestPoint", unfollowed := true, recurses := true, apart := false, narrowed := true }
def FnExactNearestPointUptoSaid : Prop := fnExactNearestPointUptoRow.holds Try.pinned (OpenSpec.upto fnExactNearestPointSpec)

/-- 'laws.FnExactMergePair', WHERE WHAT IT READS IS OF BULK AT MOST 1048576: true; the input reads as it did. -/
def fnExactMergePairUptoRow : OpenClaim := { program := "ytmodhpgnkbnbaaa", sum := "8b616c41595e5cd22cd648504bf58134a9a001481b8f505c91ac73fa10e2633e", func := "loop.example/g01149/laws.FnExactMergePair", spec := "fnExactMergePair", apart := false, narrowed := true }
def FnExactMergePairUptoSaid : Prop := fnExactMergePairUptoRow.holds Try.pinned (OpenSpec.upto fnExactMergePairSpec)

/-- 'laws.FnExactSkewOf', WHERE WHAT IT READS IS OF BULK AT MOST 1048576: true; the input reads as it did. -/
def fnExactSkewOfUptoRow : OpenClaim := { program := "ytmodhpgnkbnbaaa", sum := "8b616c41595e5cd22cd648504bf58134a9a001481b8f505c91ac73fa10e2633e", func := "loop.example/g01149/laws.FnExactSkewOf", spec := "fnExactSkewOf", unfollowed := true, recurses := true, apart := false, narrowed := true }
def FnExactSkewOfUptoSaid : Prop := fnExactSkewOfUptoRow.holds Try.pinned (OpenSpec.upto fnExactSkewOfSpec)

/-- 'laws.FnClocks', WHERE WHAT IT READS IS OF BULK AT MOST 1048576: true; the input reads as it did. -/
def fnClocksUptoRow : OpenClaim := { program := "ytmodhpgnkbnbaaa", sum := "8b616c41595e5cd22cd648504bf58134a9a001481b8f505c91ac73fa10e2633e", func := "loop.example/g01149/laws.FnClocks", spec := "fnClocks", unfollowed := true, recurses := true, apart := false, narrowed := true }
def FnClocksUptoSaid : Prop := fnClocksUptoRow.holds Try.pinned (OpenSpec.upto fnClocksSpec)

/-- 'laws.FnBestClocks', WHERE WHAT IT READS IS OF BULK AT MOST 1048576: true; the input reads as it did. -/
def fnBestClocksUptoRow : OpenClaim := { program := "ytmodhpgnkbnbaaa", sum := "8b616c41595e5cd22cd648504bf58134a9a001481b8f505c91ac73fa10e2633e", func := "loop.example/g01149/laws.FnBestClocks", spec := "fnBestClocks", unfollowed := true, recurses := true, apart := false, narrowed := true }
def FnBestClocksUptoSaid : Prop := fnBestClocksUptoRow.holds Try.pinned (OpenSpec.upto fnBestClocksSpec)

/-- 'laws.FnExactNearestJoins', WHERE WHAT IT READS IS OF BULK AT MOST 1048576: true; the input reads as it did. -/
def fnExactNearestJoinsUptoRow : OpenClaim := { program := "ytmodhpgnkbnbaaa", sum := "8b616c41595e5cd22cd648504bf58134a9a001481b8f505c91ac73fa10e2633e", func := "loop.example/g01149/laws.FnExactNearestJoins", spec := "fnExactNearestJoins", unfollowed := true, recurses := true, apart := false, narrowed := true }
def FnExactNearestJoinsUptoSaid : Prop := fnExactNearestJoinsUptoRow.holds Try.pinned (OpenSpec.upto fnExactNearestJoinsSpec)

/-- 'laws.FnExactClockWires', WHERE WHAT IT READS IS OF BULK AT MOST 1048576: true; the input reads as it did. -/
def fnExactClockWiresUptoRow : OpenClaim := { program := "ytmodhpgnkbnbaaa", sum := "8b616c41595e5cd22cd648504bf58134a9a001481b8f505c91ac73fa10e2633e", func := "loop.example/g01149/laws.FnExactClockWires", spec := "fnExactClockWires", unfollowed := true, recurses := true, apart := false, narrowed := true }
def FnExactClockWiresUptoSaid : Prop := fnExactClockWiresUptoRow.holds Try.pinned (OpenSpec.upto fnExactClockWiresSpec)

/-- 'laws.FnExactBestJoins', WHERE WHAT IT READS IS OF BULK AT MOST 1048576: true; the input reads as it did. -/
def fnExactBestJoinsUptoRow : OpenClaim := { program := "ytmodhpgnkbnbaaa", sum := "8b616c41595e5cd22cd648504bf58134a9a001481b8f505c91ac73fa10e2633e", func := "loop.example/g01149/laws.FnExactBestJoins", spec := "fnExactBestJoins", unfollowed := true, recurses := true, apart := false, narrowed := true }
def FnExactBestJoinsUptoSaid : Prop := fnExactBestJoinsUptoRow.holds Try.pinned (OpenSpec.upto fnExactBestJoinsSpec)

/-- 'laws.FnExactClockPlaces', WHERE WHAT IT READS IS OF BULK AT MOST 1048576: true; the input reads as it did. -/
def fnExactClockPlacesUptoRow : OpenClaim := { program := "ytmodhpgnkbnbaaa", sum := "8b616c41595e5cd22cd648504bf58134a9a001481b8f505c91ac73fa10e2633e", func := "loop.example/g01149/laws.FnExactClockPlaces", spec := "fnExactClockPlaces", unfollowed := true, recurses := true, apart := false, narrowed := true }
def FnExactClockPlacesUptoSaid : Prop := fnExactClockPlacesUptoRow.holds Try.pinned (OpenSpec.upto fnExactClockPlacesSpec)

/-- 'laws.FnExactClockMerges', WHERE WHAT IT READS IS OF BULK AT MOST 1048576: true; the input reads as it did. -/
def fnExactClockMergesUptoRow : OpenClaim := { program := "ytmodhpgnkbnbaaa", sum := "8b616c41595e5cd22cd648504bf58134a9a001481b8f505c91ac73fa10e2633e", func := "loop.example/g01149/laws.FnExactClockMerges", spec := "fnExactClockMerges", unfollowed := true, recurses := true, apart := false, narrowed := true }
def FnExactClockMergesUptoSaid : Prop := fnExactClockMergesUptoRow.holds Try.pinned (OpenSpec.upto fnExactClockMergesSpec)

end Rows
end Go.Proofs.Ytmodhpgnkbnbaaa
