/-
  No cell of these rows narrows 'for every input' (looked for: loops, veiled, ifaces, maps, wideKeys, modest, calm, conditions, laid).
  DERIVED. THE GIVEN ROWS OF THIS SEAT. 17 by the template 'for every input the law returns true; each argument reads behind the call as it read before'; 0 by the template 'total and deterministic' (their statements: YtdkpfkmmblmlhaaTotals.lean).
  GIVEN WITH THE SEED: the statements are not yours to turn. If you find one false, say at which input.
  Laid BY PROGRAM, IN A SANDBOX (cutbox-rows.mjs): the forced cells as the released guide's own fill.sh prints them over the translation 109a416a496b0758… (all of the seat's roots in one cut). By AI agents, Wed Nov 11 2026. No macro, syntax, notation, axiom, sorry.
-/
import Derived.Test.YtdkpfkmmblmlhaaChecked
import GoSem.Claim
import GoSem.ClaimJoined
import GoSem.ClaimMapViews
import Derived.JoinedTies
import Derived.KernelRfl
namespace Go.Proofs.Ytdkpfkmmblmlhaa
/- THE CELL 'sum', in the pinned program and in every row, IS THE sha256 OF THE DUMP (.gsa) THAT YtdkpfkmmblmlhaaProg.lean LOADS. Nothing in Lean hashes anything: it is a label: what it is worth is what the hold of that sum in a sandbox is worth. -/
noncomputable def Try.pinned : Pinned := { name := "ytdkpfkmmblmlhaa", sum := "109a416a496b075834028782a7de69d713629350dd2ae7aba7a42499b3af87c8", checked := Try.checked }
namespace Rows
def none {H : Type} : Left H := { results := [], args := [] }

/-- 'laws.FnExactIsPath': WHATEVER THE INPUT: true; the input reads as it did. -/
def fnExactIsPathSpec : ChangeSpec := { name := "fnExactIsPath", fn := fun _ => fun
  | [d] => { results := [.lit (.bool true)], args := [d] }
  | _ => none }
def fnExactIsPathRow : OpenClaim := { program := "ytdkpfkmmblmlhaa", sum := "109a416a496b075834028782a7de69d713629350dd2ae7aba7a42499b3af87c8", func := "loop.example/g01149/laws.FnExactIsPath", spec := "fnExactIsPath", unfollowed := true, recurses := true, plainKeys := false, apart := false }
def FnExactIsPathSaid : Prop := fnExactIsPathRow.holds Try.pinned (OpenSpec.ofChange fnExactIsPathSpec)

/-- ITS FALSE NEIGHBOUR: 'it returns false'. Refute it at one input. -/
def fnExactIsPathWrong : ChangeSpec := { name := "fnExactIsPath", fn := fun _ => fun
  | [d] => { results := [.lit (.bool false)], args := [d] }
  | _ => none }
def FnExactIsPathWrongFalsely : Prop := fnExactIsPathRow.holds Try.pinned (OpenSpec.ofChange fnExactIsPathWrong)

/-- 'laws.FnExactLengthOf': WHATEVER THE INPUT: true; the input reads as it did. -/
def fnExactLengthOfSpec : ChangeSpec := { name := "fnExactLengthOf", fn := fun _ => fun
  | [d] => { results := [.lit (.bool true)], args := [d] }
  | _ => none }
def fnExactLengthOfRow : OpenClaim := { program := "ytdkpfkmmblmlhaa", sum := "109a416a496b075834028782a7de69d713629350dd2ae7aba7a42499b3af87c8", func := "loop.example/g01149/laws.FnExactLengthOf", spec := "fnExactLengthOf", unfollowed := true, recurses := true, plainKeys := false, apart := false }
def FnExactLengthOfSaid : Prop := fnExactLengthOfRow.holds Try.pinned (OpenSpec.ofChange fnExactLengthOfSpec)

/-- ITS FALSE NEIGHBOUR: 'it returns false'. Refute it at one input. -/
def fnExactLengthOfWrong : ChangeSpec := { name := "fnExactLengthOf", fn := fun _ => fun
  | [d] => { results := [.lit (.bool false)], args := [d] }
  | _ => none }
def FnExactLengthOfWrongFalsely : Prop := fnExactLengthOfRow.holds Try.pinned (OpenSpec.ofChange fnExactLengthOfWrong)

/-- 'laws.FnExactStarLength': WHATEVER THE INPUT: true; the input reads as it did. -/
def fnExactStarLengthSpec : ChangeSpec := { name := "fnExactStarLength", fn := fun _ => fun
  | [d1, d2] => { results := [.lit (.bool true)], args := [d1, d2] }
  | _ => none }
def fnExactStarLengthRow : OpenClaim := { program := "ytdkpfkmmblmlhaa", sum := "109a416a496b075834028782a7de69d713629350dd2ae7aba7a42499b3af87c8", func := "loop.example/g01149/laws.FnExactStarLength", spec := "fnExactStarLength", unfollowed := true, recurses := true, plainKeys := false, apart := false }
def FnExactStarLengthSaid : Prop := fnExactStarLengthRow.holds Try.pinned (OpenSpec.ofChange fnExactStarLengthSpec)

/-- ITS FALSE NEIGHBOUR: 'it returns false'. Refute it at one input. -/
def fnExactStarLengthWrong : ChangeSpec := { name := "fnExactStarLength", fn := fun _ => fun
  | [d1, d2] => { results := [.lit (.bool false)], args := [d1, d2] }
  | _ => none }
def FnExactStarLengthWrongFalsely : Prop := fnExactStarLengthRow.holds Try.pinned (OpenSpec.ofChange fnExactStarLengthWrong)

/-- 'laws.FnExactBendsOf': WHATEVER THE INPUT: true; the input reads as it did. -/
def fnExactBendsOfSpec : ChangeSpec := { name := "fnExactBendsOf", fn := fun _ => fun
  | [d] => { results := [.lit (.bool true)], args := [d] }
  | _ => none }
def fnExactBendsOfRow : OpenClaim := { program := "ytdkpfkmmblmlhaa", sum := "109a416a496b075834028782a7de69d713629350dd2ae7aba7a42499b3af87c8", func := "loop.example/g01149/laws.FnExactBendsOf", spec := "fnExactBendsOf", unfollowed := true, recurses := true, plainKeys := false, apart := false }
def FnExactBendsOfSaid : Prop := fnExactBendsOfRow.holds Try.pinned (OpenSpec.ofChange fnExactBendsOfSpec)

/-- ITS FALSE NEIGHBOUR: 'it returns false'. Refute it at one input. -/
def fnExactBendsOfWrong : ChangeSpec := { name := "fnExactBendsOf", fn := fun _ => fun
  | [d] => { results := [.lit (.bool false)], args := [d] }
  | _ => none }
def FnExactBendsOfWrongFalsely : Prop := fnExactBendsOfRow.holds Try.pinned (OpenSpec.ofChange fnExactBendsOfWrong)

/-- 'laws.FnExactBoxBound': WHATEVER THE INPUT: true; the input reads as it did. -/
def fnExactBoxBoundSpec : ChangeSpec := { name := "fnExactBoxBound", fn := fun _ => fun
  | [d] => { results := [.lit (.bool true)], args := [d] }
  | _ => none }
def fnExactBoxBoundRow : OpenClaim := { program := "ytdkpfkmmblmlhaa", sum := "109a416a496b075834028782a7de69d713629350dd2ae7aba7a42499b3af87c8", func := "loop.example/g01149/laws.FnExactBoxBound", spec := "fnExactBoxBound", unfollowed := true, recurses := true, plainKeys := false, apart := false }
def FnExactBoxBoundSaid : Prop := fnExactBoxBoundRow.holds Try.pinned (OpenSpec.ofChange fnExactBoxBoundSpec)

/-- ITS FALSE NEIGHBOUR: 'it returns false'. Refute it at one input. -/
def fnExactBoxBoundWrong : ChangeSpec := { name := "fnExactBoxBound", fn := fun _ => fun
  | [d] => { results := [.lit (.bool false)], args := [d] }
  | _ => none }
def FnExactBoxBoundWrongFalsely : Prop := fnExactBoxBoundRow.holds Try.pinned (OpenSpec.ofChange fnExactBoxBoundWrong)

/-- 'laws.FnExactHananPoints': WHATEVER THE INPUT: true; the input reads as it did. -/
def fnExactHananPointsSpec : ChangeSpec := { name := "fnExactHananPoints", fn := fun _ => fun
  | [d] => { results := [.lit (.bool true)], args := [d] }
  | _ => none }
def fnExactHananPointsRow : OpenClaim := { program := "ytdkpfkmmblmlhaa", sum := "109a416a496b075834028782a7de69d713629350dd2ae7aba7a42499b3af87c8", func := "loop.example/g01149/laws.FnExactHananPoints", spec := "fnExactHananPoints", unfollowed := true, recurses := true, plainKeys := false, apart := false }
def FnExactHananPointsSaid : Prop := fnExactHananPointsRow.holds Try.pinned (OpenSpec.ofChange fnExactHananPointsSpec)

/-- ITS FALSE NEIGHBOUR: 'it returns false'. Refute it at one input. -/
def fnExactHananPointsWrong : ChangeSpec := { name := "fnExactHananPoints", fn := fun _ => fun
  | [d] => { results := [.lit (.bool false)], args := [d] }
  | _ => none }
def FnExactHananPointsWrongFalsely : Prop := fnExactHananPointsRow.holds Try.pinned (OpenSpec.ofChange fnExactHananPointsWrong)

/-- 'laws.FnExactCornersOf': WHATEVER THE INPUT: true; the input reads as it did. -/
def fnExactCornersOfSpec : ChangeSpec := { name := "fnExactCornersOf", fn := fun _ => fun
  | [d] => { results := [.lit (.bool true)], args := [d] }
  | _ => none }
def fnExactCornersOfRow : OpenClaim := { program := "ytdkpfkmmblmlhaa", sum := "109a416a496b075834028782a7de69d713629350dd2ae7aba7a42499b3af87c8", func := "loop.example/g01149/laws.FnExactCornersOf", spec := "fnExactCornersOf", unfollowed := true, recurses := true, plainKeys := false, apart := false }
def FnExactCornersOfSaid : Prop := fnExactCornersOfRow.holds Try.pinned (OpenSpec.ofChange fnExactCornersOfSpec)

/-- ITS FALSE NEIGHBOUR: 'it returns false'. Refute it at one input. -/
def fnExactCornersOfWrong : ChangeSpec := { name := "fnExactCornersOf", fn := fun _ => fun
  | [d] => { results := [.lit (.bool false)], args := [d] }
  | _ => none }
def FnExactCornersOfWrongFalsely : Prop := fnExactCornersOfRow.holds Try.pinned (OpenSpec.ofChange fnExactCornersOfWrong)

/-- 'laws.FnExactBestRoot': WHATEVER THE INPUT: true; the input reads as it did. -/
def fnExactBestRootSpec : ChangeSpec := { name := "fnExactBestRoot", fn := fun _ => fun
  | [d] => { results := [.lit (.bool true)], args := [d] }
  | _ => none }
def fnExactBestRootRow : OpenClaim := { program := "ytdkpfkmmblmlhaa", sum := "109a416a496b075834028782a7de69d713629350dd2ae7aba7a42499b3af87c8", func := "loop.example/g01149/laws.FnExactBestRoot", spec := "fnExactBestRoot", unfollowed := true, recurses := true, plainKeys := false, apart := false }
def FnExactBestRootSaid : Prop := fnExactBestRootRow.holds Try.pinned (OpenSpec.ofChange fnExactBestRootSpec)

/-- ITS FALSE NEIGHBOUR: 'it returns false'. Refute it at one input. -/
def fnExactBestRootWrong : ChangeSpec := { name := "fnExactBestRoot", fn := fun _ => fun
  | [d] => { results := [.lit (.bool false)], args := [d] }
  | _ => none }
def FnExactBestRootWrongFalsely : Prop := fnExactBestRootRow.holds Try.pinned (OpenSpec.ofChange fnExactBestRootWrong)

/-- 'laws.FnPathCorners': WHATEVER THE INPUT: true; the input reads as it did. -/
def fnPathCornersSpec : ChangeSpec := { name := "fnPathCorners", fn := fun _ => fun
  | [d1, d2] => { results := [.lit (.bool true)], args := [d1, d2] }
  | _ => none }
def fnPathCornersRow : OpenClaim := { program := "ytdkpfkmmblmlhaa", sum := "109a416a496b075834028782a7de69d713629350dd2ae7aba7a42499b3af87c8", func := "loop.example/g01149/laws.FnPathCorners", spec := "fnPathCorners", unfollowed := true, recurses := true, plainKeys := false, apart := false }
def FnPathCornersSaid : Prop := fnPathCornersRow.holds Try.pinned (OpenSpec.ofChange fnPathCornersSpec)

/-- ITS FALSE NEIGHBOUR: 'it returns false'. Refute it at one input. -/
def fnPathCornersWrong : ChangeSpec := { name := "fnPathCorners", fn := fun _ => fun
  | [d1, d2] => { results := [.lit (.bool false)], args := [d1, d2] }
  | _ => none }
def FnPathCornersWrongFalsely : Prop := fnPathCornersRow.holds Try.pinned (OpenSpec.ofChange fnPathCornersWrong)

/-- 'laws.FnExactGainOf': WHATEVER THE INPUT: true; the input reads as it did. -/
def fnExactGainOfSpec : ChangeSpec := { name := "fnExactGainOf", fn := fun _ => fun
  | [d1, d2] => { results := [.lit (.bool true)], args := [d1, d2] }
  | _ => none }
def fnExactGainOfRow : OpenClaim := { program := "ytdkpfkmmblmlhaa", sum := "109a416a496b075834028782a7de69d713629350dd2ae7aba7a42499b3af87c8", func := "loop.example/g01149/laws.FnExactGainOf", spec := "fnExactGainOf", unfollowed := true, recurses := true, plainKeys := false, apart := false }
def FnExactGainOfSaid : Prop := fnExactGainOfRow.holds Try.pinned (OpenSpec.ofChange fnExactGainOfSpec)

/-- ITS FALSE NEIGHBOUR: 'it returns false'. Refute it at one input. -/
def fnExactGainOfWrong : ChangeSpec := { name := "fnExactGainOf", fn := fun _ => fun
  | [d1, d2] => { results := [.lit (.bool false)], args := [d1, d2] }
  | _ => none }
def FnExactGainOfWrongFalsely : Prop := fnExactGainOfRow.holds Try.pinned (OpenSpec.ofChange fnExactGainOfWrong)

/-- 'laws.FnExactSteinerLength': WHATEVER THE INPUT: true; the input reads as it did. -/
def fnExactSteinerLengthSpec : ChangeSpec := { name := "fnExactSteinerLength", fn := fun _ => fun
  | [d] => { results := [.lit (.bool true)], args := [d] }
  | _ => none }
def fnExactSteinerLengthRow : OpenClaim := { program := "ytdkpfkmmblmlhaa", sum := "109a416a496b075834028782a7de69d713629350dd2ae7aba7a42499b3af87c8", func := "loop.example/g01149/laws.FnExactSteinerLength", spec := "fnExactSteinerLength", unfollowed := true, recurses := true, plainKeys := false, apart := false }
def FnExactSteinerLengthSaid : Prop := fnExactSteinerLengthRow.holds Try.pinned (OpenSpec.ofChange fnExactSteinerLengthSpec)

/-- ITS FALSE NEIGHBOUR: 'it returns false'. Refute it at one input. -/
def fnExactSteinerLengthWrong : ChangeSpec := { name := "fnExactSteinerLength", fn := fun _ => fun
  | [d] => { results := [.lit (.bool false)], args := [d] }
  | _ => none }
def FnExactSteinerLengthWrongFalsely : Prop := fnExactSteinerLengthRow.holds Try.pinned (OpenSpec.ofChange fnExactSteinerLengthWrong)

/-- 'laws.FnExactPathThrough': WHATEVER THE INPUT: true; the input reads as it did. -/
def fnExactPathThroughSpec : ChangeSpec := { name := "fnExactPathThrough", fn := fun _ => fun
  | [d] => { results := [.lit (.bool true)], args := [d] }
  | _ => none }
def fnExactPathThroughRow : OpenClaim := { program := "ytdkpfkmmblmlhaa", sum := "109a416a496b075834028782a7de69d713629350dd2ae7aba7a42499b3af87c8", func := "loop.example/g01149/laws.FnExactPathThrough", spec := "fnExactPathThrough", unfollowed := true, recurses := true, plainKeys := false, apart := false }
def FnExactPathThroughSaid : Prop := fnExactPathThroughRow.holds Try.pinned (OpenSpec.ofChange fnExactPathThroughSpec)

/-- ITS FALSE NEIGHBOUR: 'it returns false'. Refute it at one input. -/
def fnExactPathThroughWrong : ChangeSpec := { name := "fnExactPathThrough", fn := fun _ => fun
  | [d] => { results := [.lit (.bool false)], args := [d] }
  | _ => none }
def FnExactPathThroughWrongFalsely : Prop := fnExactPathThroughRow.holds Try.pinned (OpenSpec.ofChange fnExactPathThroughWrong)

/-- 'laws.FnExactSpanningTree': WHATEVER THE INPUT: true; the input reads as it did. -/
def fnExactSpanningTreeSpec : ChangeSpec := { name := "fnExactSpanningTree", fn := fun _ => fun
  | [d] => { results := [.lit (.bool true)], args := [d] }
  | _ => none }
def fnExactSpanningTreeRow : OpenClaim := { program := "ytdkpfkmmblmlhaa", sum := "109a416a496b075834028782a7de69d713629350dd2ae7aba7a42499b3af87c8", func := "loop.example/g01149/laws.FnExactSpanningTree", spec := "fnExactSpanningTree", unfollowed := true, recurses := true, plainKeys := false, apart := false }
def FnExactSpanningTreeSaid : Prop := fnExactSpanningTreeRow.holds Try.pinned (OpenSpec.ofChange fnExactSpanningTreeSpec)

/-- ITS FALSE NEIGHBOUR: 'it returns false'. Refute it at one input. -/
def fnExactSpanningTreeWrong : ChangeSpec := { name := "fnExactSpanningTree", fn := fun _ => fun
  | [d] => { results := [.lit (.bool false)], args := [d] }
  | _ => none }
def FnExactSpanningTreeWrongFalsely : Prop := fnExactSpanningTreeRow.holds Try.pinned (OpenSpec.ofChange fnExactSpanningTreeWrong)

/-- 'laws.FnExactAreApart': WHATEVER THE INPUT: true; the input reads as it did. -/
def fnExactAreApartSpec : ChangeSpec := { name := "fnExactAreApart", fn := fun _ => fun
  | [d] => { results := [.lit (.bool true)], args := [d] }
  | _ => none }
def fnExactAreApartRow : OpenClaim := { program := "ytdkpfkmmblmlhaa", sum := "109a416a496b075834028782a7de69d713629350dd2ae7aba7a42499b3af87c8", func := "loop.example/g01149/laws.FnExactAreApart", spec := "fnExactAreApart", unfollowed := true, recurses := true, plainKeys := false, apart := false }
def FnExactAreApartSaid : Prop := fnExactAreApartRow.holds Try.pinned (OpenSpec.ofChange fnExactAreApartSpec)

/-- ITS FALSE NEIGHBOUR: 'it returns false'. Refute it at one input. -/
def fnExactAreApartWrong : ChangeSpec := { name := "fnExactAreApart", fn := fun _ => fun
  | [d] => { results := [.lit (.bool false)], args := [d] }
  | _ => none }
def FnExactAreApartWrongFalsely : Prop := fnExactAreApartRow.holds Try.pinned (OpenSpec.ofChange fnExactAreApartWrong)

/-- 'laws.FnExactSegmentsOf': WHATEVER THE INPUT: true; the input reads as it did. -/
def fnExactSegmentsOfSpec : ChangeSpec := { name := "fnExactSegmentsOf", fn := fun _ => fun
  | [d] => { results := [.lit (.bool true)], args := [d] }
  | _ => none }
def fnExactSegmentsOfRow : OpenClaim := { program := "ytdkpfkmmblmlhaa", sum := "109a416a496b075834028782a7de69d713629350dd2ae7aba7a42499b3af87c8", func := "loop.example/g01149/laws.FnExactSegmentsOf", spec := "fnExactSegmentsOf", unfollowed := true, recurses := true, plainKeys := false, apart := false }
def FnExactSegmentsOfSaid : Prop := fnExactSegmentsOfRow.holds Try.pinned (OpenSpec.ofChange fnExactSegmentsOfSpec)

/-- ITS FALSE NEIGHBOUR: 'it returns false'. Refute it at one input. -/
def fnExactSegmentsOfWrong : ChangeSpec := { name := "fnExactSegmentsOf", fn := fun _ => fun
  | [d] => { results := [.lit (.bool false)], args := [d] }
  | _ => none }
def FnExactSegmentsOfWrongFalsely : Prop := fnExactSegmentsOfRow.holds Try.pinned (OpenSpec.ofChange fnExactSegmentsOfWrong)

/-- 'laws.FnExactOneByOne': WHATEVER THE INPUT: true; the input reads as it did. -/
def fnExactOneByOneSpec : ChangeSpec := { name := "fnExactOneByOne", fn := fun _ => fun
  | [d] => { results := [.lit (.bool true)], args := [d] }
  | _ => none }
def fnExactOneByOneRow : OpenClaim := { program := "ytdkpfkmmblmlhaa", sum := "109a416a496b075834028782a7de69d713629350dd2ae7aba7a42499b3af87c8", func := "loop.example/g01149/laws.FnExactOneByOne", spec := "fnExactOneByOne", unfollowed := true, recurses := true, plainKeys := false, apart := false }
def FnExactOneByOneSaid : Prop := fnExactOneByOneRow.holds Try.pinned (OpenSpec.ofChange fnExactOneByOneSpec)

/-- ITS FALSE NEIGHBOUR: 'it returns false'. Refute it at one input. -/
def fnExactOneByOneWrong : ChangeSpec := { name := "fnExactOneByOne", fn := fun _ => fun
  | [d] => { results := [.lit (.bool false)], args := [d] }
  | _ => none }
def FnExactOneByOneWrongFalsely : Prop := fnExactOneByOneRow.holds Try.pinned (OpenSpec.ofChange fnExactOneByOneWrong)

/-- 'laws.FnExactBendTree': WHATEVER THE INPUT: true; the input reads as it did. -/
def fnExactBendTreeSpec : ChangeSpec := { name := "fnExactBendTree", fn := fun _ => fun
  | [d] => { results := [.lit (.bool true)], args := [d] }
  | _ => none }
def fnExactBendTreeRow : OpenClaim := { program := "ytdkpfkmmblmlhaa", sum := "109a416a496b075834028782a7de69d713629350dd2ae7aba7a42499b3af87c8", func := "loop.example/g01149/laws.FnExactBendTree", spec := "fnExactBendTree", unfollowed := true, recurses := true, plainKeys := false, apart := false }
def FnExactBendTreeSaid : Prop := fnExactBendTreeRow.holds Try.pinned (OpenSpec.ofChange fnExactBendTreeSpec)

/-- ITS FALSE NEIGHBOUR: 'it returns false'. Refute it at one input. -/
def fnExactBendTreeWrong : ChangeSpec := { name := "fnExactBendTree", fn := fun _ => fun
  | [d] => { results := [.lit (.bool false)], args := [d] }
  | _ => none }
def FnExactBendTreeWrongFalsely : Prop := fnExactBendTreeRow.holds Try.pinned (OpenSpec.ofChange fnExactBendTreeWrong)

/- THE SECOND FORM. 'bulk': how many values and letters a reading holds, each counted each time it is reached (what is shared counts as often as it is met; a slice's spare places count too). A statement '..UptoSaid' is the law's where the arguments, and the package variables that the reading takes, are together of bulk at most 1048576: NARROWER than '..Said'. Prove '..Said' where nothing that the law and all that it calls make is longer than what came in: it says more and counts as full. Else prove '..UptoSaid'. A law counts once. -/
mutual
def uptoBulk {H : Type} : DataW H → Nat
  | .lit (.string bytes) => bytes.length + 1
  | .lit _ => 1
  | .nil => 1
  | .ptr d => uptoBulk d + 1
  | .slice elems spare => uptoBulkAll elems + uptoBulkAll spare + 1
  | .agg parts => uptoBulkAll parts + 1
  | .iface _ d => uptoBulk d + 1
  | .map entries => uptoBulkEntries entries + 1
  | .held _ => 1
def uptoBulkAll {H : Type} : List (DataW H) → Nat
  | [] => 0
  | d :: r => uptoBulk d + uptoBulkAll r
def uptoBulkEntries {H : Type} : List (Lit × DataW H) → Nat
  | [] => 0
  | x :: r => uptoBulkEntry x + uptoBulkEntries r
def uptoBulkEntry {H : Type} : Lit × DataW H → Nat
  | (.string bytes, d) => bytes.length + uptoBulk d + 1
  | (_, d) => uptoBulk d + 1
 end
def uptoSmall : (H : Type) → List (DataW H) → Bool := fun _ ds => decide (uptoBulkAll ds ≤ 1048576)
def OpenSpec.upto (s : _root_.Go.ChangeSpec) : _root_.Go.OpenSpec := { _root_.Go.OpenSpec.ofChange s with cond := some uptoSmall }

/-- 'laws.FnExactIsPath', WHERE WHAT IT READS IS OF BULK AT MOST 1048576: true; the input reads as it did. -/
def fnExactIsPathUptoRow : OpenClaim := { program := "ytdkpfkmmblmlhaa", sum := "109a416a496b075834028782a7de69d713629350dd2ae7aba7a42499b3af87c8", func := "loop.example/g01149/laws.FnExactIsPath", spec := "fnExactIsPath", unfollowed := true, recurses := true, plainKeys := false, apart := false, narrowed := true }
def FnExactIsPathUptoSaid : Prop := fnExactIsPathUptoRow.holds Try.pinned (OpenSpec.upto fnExactIsPathSpec)

/-- 'laws.FnExactLengthOf', WHERE WHAT IT READS IS OF BULK AT MOST 1048576: true; the input reads as it did. -/
def fnExactLengthOfUptoRow : OpenClaim := { program := "ytdkpfkmmblmlhaa", sum := "109a416a496b075834028782a7de69d713629350dd2ae7aba7a42499b3af87c8", func := "loop.example/g01149/laws.FnExactLengthOf", spec := "fnExactLengthOf", unfollowed := true, recurses := true, plainKeys := false, apart := false, narrowed := true }
def FnExactLengthOfUptoSaid : Prop := fnExactLengthOfUptoRow.holds Try.pinned (OpenSpec.upto fnExactLengthOfSpec)

/-- 'laws.FnExactStarLength', WHERE WHAT IT READS IS OF BULK AT MOST 1048576: true; the input reads as it did. -/
def fnExactStarLengthUptoRow : OpenClaim := { program := "ytdkpfkmmblmlhaa", sum := "109a416a496b075834028782a7de69d713629350dd2ae7aba7a42499b3af87c8", func := "loop.example/g01149/laws.FnExactStarLength", spec := "fnExactStarLength", unfollowed := true, recurses := true, plainKeys := false, apart := false, narrowed := true }
def FnExactStarLengthUptoSaid : Prop := fnExactStarLengthUptoRow.holds Try.pinned (OpenSpec.upto fnExactStarLengthSpec)

/-- 'laws.FnExactBendsOf', WHERE WHAT IT READS IS OF BULK AT MOST 1048576: true; the input reads as it did. -/
def fnExactBendsOfUptoRow : OpenClaim := { program := "ytdkpfkmmblmlhaa", sum := "109a416a496b075834028782a7de69d713629350dd2ae7aba7a42499b3af87c8", func := "loop.example/g01149/laws.FnExactBendsOf", spec := "fnExactBendsOf", unfollowed := true, recurses := true, plainKeys := false, apart := false, narrowed := true }
def FnExactBendsOfUptoSaid : Prop := fnExactBendsOfUptoRow.holds Try.pinned (OpenSpec.upto fnExactBendsOfSpec)

/-- 'laws.FnExactBoxBound', WHERE WHAT IT READS IS OF BULK AT MOST 1048576: true; the input reads as it did. -/
def fnExactBoxBoundUptoRow : OpenClaim := { program := "ytdkpfkmmblmlhaa", sum := "109a416a496b075834028782a7de69d713629350dd2ae7aba7a42499b3af87c8", func := "loop.example/g01149/laws.FnExactBoxBound", spec := "fnExactBoxBound", unfollowed := true, recurses := true, plainKeys := false, apart := false, narrowed := true }
def FnExactBoxBoundUptoSaid : Prop := fnExactBoxBoundUptoRow.holds Try.pinned (OpenSpec.upto fnExactBoxBoundSpec)

/-- 'laws.FnExactHananPoints', WHERE WHAT IT READS IS OF BULK AT MOST 1048576: true; the input reads as it did. -/
def fnExactHananPointsUptoRow : OpenClaim := { program := "ytdkpfkmmblmlhaa", sum := "109a416a496b075834028782a7de69d713629350dd2ae7aba7a42499b3af87c8", func := "loop.example/g01149/laws.FnExactHananPoints", spec := "fnExactHananPoints", unfollowed := true, recurses := true, plainKeys := false, apart := false, narrowed := true }
def FnExactHananPointsUptoSaid : Prop := fnExactHananPointsUptoRow.holds Try.pinned (OpenSpec.upto fnExactHananPointsSpec)

/-- 'laws.FnExactCornersOf', WHERE WHAT IT READS IS OF BULK AT MOST 1048576: true; the input reads as it did. -/
def fnExactCornersOfUptoRow : OpenClaim := { program := "ytdkpfkmmblmlhaa", sum := "109a416a496b075834028782a7de69d713629350dd2ae7aba7a42499b3af87c8", func := "loop.example/g01149/laws.FnExactCornersOf", spec := "fnExactCornersOf", unfollowed := true, recurses := true, plainKeys := false, apart := false, narrowed := true }
def FnExactCornersOfUptoSaid : Prop := fnExactCornersOfUptoRow.holds Try.pinned (OpenSpec.upto fnExactCornersOfSpec)

/-- 'laws.FnExactBestRoot', WHERE WHAT IT READS IS OF BULK AT MOST 1048576: true; the input reads as it did. -/
def fnExactBestRootUptoRow : OpenClaim := { program := "ytdkpfkmmblmlhaa", sum := "109a416a496b075834028782a7de69d713629350dd2ae7aba7a42499b3af87c8", func := "loop.example/g01149/laws.FnExactBestRoot", spec := "fnExactBestRoot", unfollowed := true, recurses := true, plainKeys := false, apart := false, narrowed := true }
def FnExactBestRootUptoSaid : Prop := fnExactBestRootUptoRow.holds Try.pinned (OpenSpec.upto fnExactBestRootSpec)

/-- 'laws.FnPathCorners', WHERE WHAT IT READS IS OF BULK AT MOST 1048576: true; the input reads as it did. -/
def fnPathCornersUptoRow : OpenClaim := { program := "ytdkpfkmmblmlhaa", sum := "109a416a496b075834028782a7de69d713629350dd2ae7aba7a42499b3af87c8", func := "loop.example/g01149/laws.FnPathCorners", spec := "fnPathCorners", unfollowed := true, recurses := true, plainKeys := false, apart := false, narrowed := true }
def FnPathCornersUptoSaid : Prop := fnPathCornersUptoRow.holds Try.pinned (OpenSpec.upto fnPathCornersSpec)

/-- 'laws.FnExactGainOf', WHERE WHAT IT READS IS OF BULK AT MOST 1048576: true; the input reads as it did. -/
def fnExactGainOfUptoRow : OpenClaim := { program := "ytdkpfkmmblmlhaa", sum := "109a416a496b075834028782a7de69d713629350dd2ae7aba7a42499b3af87c8", func := "loop.example/g01149/laws.FnExactGainOf", spec := "fnExactGainOf", unfollowed := true, recurses := true, plainKeys := false, apart := false, narrowed := true }
def FnExactGainOfUptoSaid : Prop := fnExactGainOfUptoRow.holds Try.pinned (OpenSpec.upto fnExactGainOfSpec)

/-- 'laws.FnExactSteinerLength', WHERE WHAT IT READS IS OF BULK AT MOST 1048576: true; the input reads as it did. -/
def fnExactSteinerLengthUptoRow : OpenClaim := { program := "ytdkpfkmmblmlhaa", sum := "109a416a496b075834028782a7de69d713629350dd2ae7aba7a42499b3af87c8", func := "loop.example/g01149/laws.FnExactSteinerLength", spec := "fnExactSteinerLength", unfollowed := true, recurses := true, plainKeys := false, apart := false, narrowed := true }
def FnExactSteinerLengthUptoSaid : Prop := fnExactSteinerLengthUptoRow.holds Try.pinned (OpenSpec.upto fnExactSteinerLengthSpec)

/-- 'laws.FnExactPathThrough', WHERE WHAT IT READS IS OF BULK AT MOST 1048576: true; the input reads as it did. -/
def fnExactPathThroughUptoRow : OpenClaim := { program := "ytdkpfkmmblmlhaa", sum := "109a416a496b075834028782a7de69d713629350dd2ae7aba7a42499b3af87c8", func := "loop.example/g01149/laws.FnExactPathThrough", spec := "fnExactPathThrough", unfollowed := true, recurses := true, plainKeys := false, apart := false, narrowed := true }
def FnExactPathThroughUptoSaid : Prop := fnExactPathThroughUptoRow.holds Try.pinned (OpenSpec.upto fnExactPathThroughSpec)

/-- 'laws.FnExactSpanningTree', WHERE WHAT IT READS IS OF BULK AT MOST 1048576: true; the input reads as it did. -/
def fnExactSpanningTreeUptoRow : OpenClaim := { program := "ytdkpfkmmblmlhaa", sum := "109a416a496b075834028782a7de69d713629350dd2ae7aba7a42499b3af87c8", func := "loop.example/g01149/laws.FnExactSpanningTree", spec := "fnExactSpanningTree", unfollowed := true, recurses := true, plainKeys := false, apart := false, narrowed := true }
def FnExactSpanningTreeUptoSaid : Prop := fnExactSpanningTreeUptoRow.holds Try.pinned (OpenSpec.upto fnExactSpanningTreeSpec)

/-- 'laws.FnExactAreApart', WHERE WHAT IT READS IS OF BULK AT MOST 1048576: true; the input reads as it did. -/
def fnExactAreApartUptoRow : OpenClaim := { program := "ytdkpfkmmblmlhaa", sum := "109a416a496b075834028782a7de69d713629350dd2ae7aba7a42499b3af87c8", func := "loop.example/g01149/laws.FnExactAreApart", spec := "fnExactAreApart", unfollowed := true, recurses := true, plainKeys := false, apart := false, narrowed := true }
def FnExactAreApartUptoSaid : Prop := fnExactAreApartUptoRow.holds Try.pinned (OpenSpec.upto fnExactAreApartSpec)

/-- 'laws.FnExactSegmentsOf', WHERE WHAT IT READS IS OF BULK AT MOST 1048576: true; the input reads as it did. -/
def fnExactSegmentsOfUptoRow : OpenClaim := { program := "ytdkpfkmmblmlhaa", sum := "109a416a496b075834028782a7de69d713629350dd2ae7aba7a42499b3af87c8", func := "loop.example/g01149/laws.FnExactSegmentsOf", spec := "fnExactSegmentsOf", unfollowed := true, recurses := true, plainKeys := false, apart := false, narrowed := true }
def FnExactSegmentsOfUptoSaid : Prop := fnExactSegmentsOfUptoRow.holds Try.pinned (OpenSpec.upto fnExactSegmentsOfSpec)

/-- 'laws.FnExactOneByOne', WHERE WHAT IT READS IS OF BULK AT MOST 1048576: true; the input reads as it did. -/
def fnExactOneByOneUptoRow : OpenClaim := { program := "ytdkpfkmmblmlhaa", sum := "109a416a496b075834028782a7de69d713629350dd2ae7aba7a42499b3af87c8", func := "loop.example/g01149/laws.FnExactOneByOne", spec := "fnExactOneByOne", unfollowed := true, recurses := true, plainKeys := false, apart := false, narrowed := true }
def FnExactOneByOneUptoSaid : Prop := fnExactOneByOneUptoRow.holds Try.pinned (OpenSpec.upto fnExactOneByOneSpec)

/-- 'laws.FnExactBendTree', WHERE WHAT IT READS IS OF BULK AT MOST 1048576: true; the input reads as it did. -/
def fnExactBendTreeUptoRow : OpenClaim := { program := "ytdkpfkmmblmlhaa", sum := "109a416a496b075834028782a7de69d713629350dd2ae7aba7a42499b3af87c8", func := "loop.example/g01149/laws.FnExactBendTree", spec := "fnExactBendTree", unfollowed := true, recurses := true, plainKeys := false, apart := false, narrowed := true }
def FnExactBendTreeUptoSaid : Prop := fnExactBendTreeUptoRow.holds Try.pinned (OpenSpec.upto fnExactBendTreeSpec)

end Rows
end Go.Proofs.Ytdkpfkmmblmlhaa
