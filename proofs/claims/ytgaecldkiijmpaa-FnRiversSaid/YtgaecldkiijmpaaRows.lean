/-
  No cell of these rows narrows 'for every input' (looked for: loops, veiled, ifaces, maps, wideKeys, modest, calm, conditions, laid).
  DERIVED. THE GIVEN ROWS OF THIS SEAT. 8 by the template 'for every input the law returns true; each argument reads behind the call as it read before'; 0 by the template 'total and deterministic' (their statements: YtgaecldkiijmpaaTotals.lean).
  GIVEN WITH THE SEED: the statements are not yours to turn. If you find one false, say at which input.
  Laid BY PROGRAM, IN A SANDBOX (cutbox-rows.mjs): the forced cells as the released guide's own fill.sh prints them over the translation 4a8693e949e7369e… (all of the seat's roots in one cut). By AI agents, Wed Nov 11 2026. No macro, syntax, notation, axiom, sorry.
-/
import Derived.Test.YtgaecldkiijmpaaChecked
import GoSem.Claim
import GoSem.ClaimJoined
import GoSem.ClaimMapViews
import Derived.JoinedTies
import Derived.KernelRfl
namespace Go.Proofs.Ytgaecldkiijmpaa
/- THE CELL 'sum', in the pinned program and in every row, IS THE sha256 OF THE DUMP (.gsa) THAT YtgaecldkiijmpaaProg.lean LOADS. Nothing in Lean hashes anything: it is a label: what it is worth is what the hold of that sum in a sandbox is worth. -/
noncomputable def Try.pinned : Pinned := { name := "ytgaecldkiijmpaa", sum := "4a8693e949e7369ec980bfabd058fc7e38983c1d9f6703e6e6a89f91fd0b49ad", checked := Try.checked }
namespace Rows
def none {H : Type} : Left H := { results := [], args := [] }

/-- 'laws.FnRivers': WHATEVER THE INPUT: true; the input reads as it did. -/
def fnRiversSpec : ChangeSpec := { name := "fnRivers", fn := fun _ => fun
  | [d1, d2] => { results := [.lit (.bool true)], args := [d1, d2] }
  | _ => none }
def fnRiversRow : OpenClaim := { program := "ytgaecldkiijmpaa", sum := "4a8693e949e7369ec980bfabd058fc7e38983c1d9f6703e6e6a89f91fd0b49ad", func := "loop.example/g01149/laws.FnRivers", spec := "fnRivers", unfollowed := true, recurses := true, plainKeys := false, apart := false }
def FnRiversSaid : Prop := fnRiversRow.holds Try.pinned (OpenSpec.ofChange fnRiversSpec)

/-- ITS FALSE NEIGHBOUR: 'it returns false'. Refute it at one input. -/
def fnRiversWrong : ChangeSpec := { name := "fnRivers", fn := fun _ => fun
  | [d1, d2] => { results := [.lit (.bool false)], args := [d1, d2] }
  | _ => none }
def FnRiversWrongFalsely : Prop := fnRiversRow.holds Try.pinned (OpenSpec.ofChange fnRiversWrong)

/-- 'laws.FnBlocked': WHATEVER THE INPUT: true; the input reads as it did. -/
def fnBlockedSpec : ChangeSpec := { name := "fnBlocked", fn := fun _ => fun
  | [d1, d2] => { results := [.lit (.bool true)], args := [d1, d2] }
  | _ => none }
def fnBlockedRow : OpenClaim := { program := "ytgaecldkiijmpaa", sum := "4a8693e949e7369ec980bfabd058fc7e38983c1d9f6703e6e6a89f91fd0b49ad", func := "loop.example/g01149/laws.FnBlocked", spec := "fnBlocked", unfollowed := true, recurses := true, plainKeys := false, apart := false }
def FnBlockedSaid : Prop := fnBlockedRow.holds Try.pinned (OpenSpec.ofChange fnBlockedSpec)

/-- ITS FALSE NEIGHBOUR: 'it returns false'. Refute it at one input. -/
def fnBlockedWrong : ChangeSpec := { name := "fnBlocked", fn := fun _ => fun
  | [d1, d2] => { results := [.lit (.bool false)], args := [d1, d2] }
  | _ => none }
def FnBlockedWrongFalsely : Prop := fnBlockedRow.holds Try.pinned (OpenSpec.ofChange fnBlockedWrong)

/-- 'laws.FnExactBendTree': WHATEVER THE INPUT: true; the input reads as it did. -/
def fnExactBendTreeSpec : ChangeSpec := { name := "fnExactBendTree", fn := fun _ => fun
  | [d] => { results := [.lit (.bool true)], args := [d] }
  | _ => none }
def fnExactBendTreeRow : OpenClaim := { program := "ytgaecldkiijmpaa", sum := "4a8693e949e7369ec980bfabd058fc7e38983c1d9f6703e6e6a89f91fd0b49ad", func := "loop.example/g01149/laws.FnExactBendTree", spec := "fnExactBendTree", unfollowed := true, recurses := true, plainKeys := false, apart := false }
def FnExactBendTreeSaid : Prop := fnExactBendTreeRow.holds Try.pinned (OpenSpec.ofChange fnExactBendTreeSpec)

/-- ITS FALSE NEIGHBOUR: 'it returns false'. Refute it at one input. -/
def fnExactBendTreeWrong : ChangeSpec := { name := "fnExactBendTree", fn := fun _ => fun
  | [d] => { results := [.lit (.bool false)], args := [d] }
  | _ => none }
def FnExactBendTreeWrongFalsely : Prop := fnExactBendTreeRow.holds Try.pinned (OpenSpec.ofChange fnExactBendTreeWrong)

/-- 'laws.FnExactMostApart': WHATEVER THE INPUT: true; the input reads as it did. -/
def fnExactMostApartSpec : ChangeSpec := { name := "fnExactMostApart", fn := fun _ => fun
  | [d1, d2, d3] => { results := [.lit (.bool true)], args := [d1, d2, d3] }
  | _ => none }
def fnExactMostApartRow : OpenClaim := { program := "ytgaecldkiijmpaa", sum := "4a8693e949e7369ec980bfabd058fc7e38983c1d9f6703e6e6a89f91fd0b49ad", func := "loop.example/g01149/laws.FnExactMostApart", spec := "fnExactMostApart", unfollowed := true, recurses := true, plainKeys := false, apart := false }
def FnExactMostApartSaid : Prop := fnExactMostApartRow.holds Try.pinned (OpenSpec.ofChange fnExactMostApartSpec)

/-- ITS FALSE NEIGHBOUR: 'it returns false'. Refute it at one input. -/
def fnExactMostApartWrong : ChangeSpec := { name := "fnExactMostApart", fn := fun _ => fun
  | [d1, d2, d3] => { results := [.lit (.bool false)], args := [d1, d2, d3] }
  | _ => none }
def FnExactMostApartWrongFalsely : Prop := fnExactMostApartRow.holds Try.pinned (OpenSpec.ofChange fnExactMostApartWrong)

/-- 'laws.FnFurther': WHATEVER THE INPUT: true; the input reads as it did. -/
def fnFurtherSpec : ChangeSpec := { name := "fnFurther", fn := fun _ => fun
  | [d1, d2] => { results := [.lit (.bool true)], args := [d1, d2] }
  | _ => none }
def fnFurtherRow : OpenClaim := { program := "ytgaecldkiijmpaa", sum := "4a8693e949e7369ec980bfabd058fc7e38983c1d9f6703e6e6a89f91fd0b49ad", func := "loop.example/g01149/laws.FnFurther", spec := "fnFurther", unfollowed := true, recurses := true, plainKeys := false, apart := false }
def FnFurtherSaid : Prop := fnFurtherRow.holds Try.pinned (OpenSpec.ofChange fnFurtherSpec)

/-- ITS FALSE NEIGHBOUR: 'it returns false'. Refute it at one input. -/
def fnFurtherWrong : ChangeSpec := { name := "fnFurther", fn := fun _ => fun
  | [d1, d2] => { results := [.lit (.bool false)], args := [d1, d2] }
  | _ => none }
def FnFurtherWrongFalsely : Prop := fnFurtherRow.holds Try.pinned (OpenSpec.ofChange fnFurtherWrong)

/-- 'laws.FnRoots': WHATEVER THE INPUT: true; the input reads as it did. -/
def fnRootsSpec : ChangeSpec := { name := "fnRoots", fn := fun _ => fun
  | [d1, d2] => { results := [.lit (.bool true)], args := [d1, d2] }
  | _ => none }
def fnRootsRow : OpenClaim := { program := "ytgaecldkiijmpaa", sum := "4a8693e949e7369ec980bfabd058fc7e38983c1d9f6703e6e6a89f91fd0b49ad", func := "loop.example/g01149/laws.FnRoots", spec := "fnRoots", unfollowed := true, recurses := true, plainKeys := false, apart := false }
def FnRootsSaid : Prop := fnRootsRow.holds Try.pinned (OpenSpec.ofChange fnRootsSpec)

/-- ITS FALSE NEIGHBOUR: 'it returns false'. Refute it at one input. -/
def fnRootsWrong : ChangeSpec := { name := "fnRoots", fn := fun _ => fun
  | [d1, d2] => { results := [.lit (.bool false)], args := [d1, d2] }
  | _ => none }
def FnRootsWrongFalsely : Prop := fnRootsRow.holds Try.pinned (OpenSpec.ofChange fnRootsWrong)

/-- 'laws.FnExactFewestBlocks': WHATEVER THE INPUT: true; the input reads as it did. -/
def fnExactFewestBlocksSpec : ChangeSpec := { name := "fnExactFewestBlocks", fn := fun _ => fun
  | [d1, d2, d3] => { results := [.lit (.bool true)], args := [d1, d2, d3] }
  | _ => none }
def fnExactFewestBlocksRow : OpenClaim := { program := "ytgaecldkiijmpaa", sum := "4a8693e949e7369ec980bfabd058fc7e38983c1d9f6703e6e6a89f91fd0b49ad", func := "loop.example/g01149/laws.FnExactFewestBlocks", spec := "fnExactFewestBlocks", unfollowed := true, recurses := true, plainKeys := false, apart := false }
def FnExactFewestBlocksSaid : Prop := fnExactFewestBlocksRow.holds Try.pinned (OpenSpec.ofChange fnExactFewestBlocksSpec)

/-- ITS FALSE NEIGHBOUR: 'it returns false'. Refute it at one input. -/
def fnExactFewestBlocksWrong : ChangeSpec := { name := "fnExactFewestBlocks", fn := fun _ => fun
  | [d1, d2, d3] => { results := [.lit (.bool false)], args := [d1, d2, d3] }
  | _ => none }
def FnExactFewestBlocksWrongFalsely : Prop := fnExactFewestBlocksRow.holds Try.pinned (OpenSpec.ofChange fnExactFewestBlocksWrong)

/-- 'laws.FnExactWiringOf': WHATEVER THE INPUT: true; the input reads as it did. -/
def fnExactWiringOfSpec : ChangeSpec := { name := "fnExactWiringOf", fn := fun _ => fun
  | [d] => { results := [.lit (.bool true)], args := [d] }
  | _ => none }
def fnExactWiringOfRow : OpenClaim := { program := "ytgaecldkiijmpaa", sum := "4a8693e949e7369ec980bfabd058fc7e38983c1d9f6703e6e6a89f91fd0b49ad", func := "loop.example/g01149/laws.FnExactWiringOf", spec := "fnExactWiringOf", unfollowed := true, recurses := true, plainKeys := false, apart := false }
def FnExactWiringOfSaid : Prop := fnExactWiringOfRow.holds Try.pinned (OpenSpec.ofChange fnExactWiringOfSpec)

/-- ITS FALSE NEIGHBOUR: 'it returns false'. Refute it at one input. -/
def fnExactWiringOfWrong : ChangeSpec := { name := "fnExactWiringOf", fn := fun _ => fun
  | [d] => { results := [.lit (.bool false)], args := [d] }
  | _ => none }
def FnExactWiringOfWrongFalsely : Prop := fnExactWiringOfRow.holds Try.pinned (OpenSpec.ofChange fnExactWiringOfWrong)

/- THE SECOND FORM. 'bulk': how many values and letters a reading holds, each counted each time it is reached (what is shared counts as often as it is met; a slice's spare places count too). A statement '..UptoSaid' is the law's where the arguments, and the package variables that the reading takes, are together of bulk at most 1048576: NARROWER than '..Said'. Prove '..Said' where nothing that the law and all that it calls make is longer than what came in: it says more and counts as full. Else prove '..UptoSaid'. A law counts once. -/
mutual
def uptoBulk {H : Type} : DataW H → Nat
  | .lit (.string bytes) => bytes.length + 1
  | .lit _ => 1
  | .nil => 1
  | .ptr d => uptoBulk d + 1
  | .slice elems spare => uptoBulkAll elems + uptoBulkAll spare + 1
  | .agg parts => uptoBulkAll parts + 1
  | .iface _ d => uptoBulk d + 1
  | .map entries => uptoBulkEntries entries + 1
  | .held _ => 1
def uptoBulkAll {H : Type} : List (DataW H) → Nat
  | [] => 0
  | d :: r => uptoBulk d + uptoBulkAll r
def uptoBulkEntries {H : Type} : List (Lit × DataW H) → Nat
  | [] => 0
  | x :: r => uptoBulkEntry x + uptoBulkEntries r
def uptoBulkEntry {H : Type} : Lit × DataW H → Nat
  | (.string bytes, d) => bytes.length + uptoBulk d + 1
  | (_, d) => uptoBulk d + 1
 end
def uptoSmall : (H : Type) → List (DataW H) → Bool := fun _ ds => decide (uptoBulkAll ds ≤ 1048576)
def OpenSpec.upto (s : _root_.Go.ChangeSpec) : _root_.Go.OpenSpec := { _root_.Go.OpenSpec.ofChange s with cond := some uptoSmall }

/-- 'laws.FnRivers', WHERE WHAT IT READS IS OF BULK AT MOST 1048576: true; the input reads as it did. -/
def fnRiversUptoRow : OpenClaim := { program := "ytgaecldkiijmpaa", sum := "4a8693e949e7369ec980bfabd058fc7e38983c1d9f6703e6e6a89f91fd0b49ad", func := "loop.example/g01149/laws.FnRivers", spec := "fnRivers", unfollowed := true, recurses := true, plainKeys := false, apart := false, narrowed := true }
def FnRiversUptoSaid : Prop := fnRiversUptoRow.holds Try.pinned (OpenSpec.upto fnRiversSpec)

/-- 'laws.FnBlocked', WHERE WHAT IT READS IS OF BULK AT MOST 1048576: true; the input reads as it did. -/
def fnBlockedUptoRow : OpenClaim := { program := "ytgaecldkiijmpaa", sum := "4a8693e949e7369ec980bfabd058fc7e38983c1d9f6703e6e6a89f91fd0b49ad", func := "loop.example/g01149/laws.FnBlocked", spec := "fnBlocked", unfollowed := true, recurses := true, plainKeys := false, apart := false, narrowed := true }
def FnBlockedUptoSaid : Prop := fnBlockedUptoRow.holds Try.pinned (OpenSpec.upto fnBlockedSpec)

/-- 'laws.FnExactBendTree', WHERE WHAT IT READS IS OF BULK AT MOST 1048576: true; the input reads as it did. -/
def fnExactBendTreeUptoRow : OpenClaim := { program := "ytgaecldkiijmpaa", sum := "4a8693e949e7369ec980bfabd058fc7e38983c1d9f6703e6e6a89f91fd0b49ad", func := "loop.example/g01149/laws.FnExactBendTree", spec := "fnExactBendTree", unfollowed := true, recurses := true, plainKeys := false, apart := false, narrowed := true }
def FnExactBendTreeUptoSaid : Prop := fnExactBendTreeUptoRow.holds Try.pinned (OpenSpec.upto fnExactBendTreeSpec)

/-- 'laws.FnExactMostApart', WHERE WHAT IT READS IS OF BULK AT MOST 1048576: true; the input reads as it did. -/
def fnExactMostApartUptoRow : OpenClaim := { program := "ytgaecldkiijmpaa", sum := "4a8693e949e7369ec980bfabd058fc7e38983c1d9f6703e6e6a89f91fd0b49ad", func := "loop.example/g01149/laws.FnExactMostApart", spec := "fnExactMostApart", unfollowed := true, recurses := true, plainKeys := false, apart := false, narrowed := true }
def FnExactMostApartUptoSaid : Prop := fnExactMostApartUptoRow.holds Try.pinned (OpenSpec.upto fnExactMostApartSpec)

/-- 'laws.FnFurther', WHERE WHAT IT READS IS OF BULK AT MOST 1048576: true; the input reads as it did. -/
def fnFurtherUptoRow : OpenClaim := { program := "ytgaecldkiijmpaa", sum := "4a8693e949e7369ec980bfabd058fc7e38983c1d9f6703e6e6a89f91fd0b49ad", func := "loop.example/g01149/laws.FnFurther", spec := "fnFurther", unfollowed := true, recurses := true, plainKeys := false, apart := false, narrowed := true }
def FnFurtherUptoSaid : Prop := fnFurtherUptoRow.holds Try.pinned (OpenSpec.upto fnFurtherSpec)

/-- 'laws.FnRoots', WHERE WHAT IT READS IS OF BULK AT MOST 1048576: true; the input reads as it did. -/
def fnRootsUptoRow : OpenClaim := { program := "ytgaecldkiijmpaa", sum := "4a8693e949e7369ec980bfabd058fc7e38983c1d9f6703e6e6a89f91fd0b49ad", func := "loop.example/g01149/laws.FnRoots", spec := "fnRoots", unfollowed := true, recurses := true, plainKeys := false, apart := false, narrowed := true }
def FnRootsUptoSaid : Prop := fnRootsUptoRow.holds Try.pinned (OpenSpec.upto fnRootsSpec)

/-- 'laws.FnExactFewestBlocks', WHERE WHAT IT READS IS OF BULK AT MOST 1048576: true; the input reads as it did. -/
def fnExactFewestBlocksUptoRow : OpenClaim := { program := "ytgaecldkiijmpaa", sum := "4a8693e949e7369ec980bfabd058fc7e38983c1d9f6703e6e6a89f91fd0b49ad", func := "loop.example/g01149/laws.FnExactFewestBlocks", spec := "fnExactFewestBlocks", unfollowed := true, recurses := true, plainKeys := false, apart := false, narrowed := true }
def FnExactFewestBlocksUptoSaid : Prop := fnExactFewestBlocksUptoRow.holds Try.pinned (OpenSpec.upto fnExactFewestBlocksSpec)

/-- 'laws.FnExactWiringOf', WHERE WHAT IT READS IS OF BULK AT MOST 1048576: true; the input reads as it did. -/
def fnExactWiringOfUptoRow : OpenClaim := { program := "ytgaecldkiijmpaa", sum := "4a8693e949e7369ec980bfabd058fc7e38983c1d9f6703e6e6a89f91fd0b49ad", func := "loop.example/g01149/laws.FnExactWiringOf", spec := "fnExactWiringOf", unfollowed := true, recurses := true, plainKeys := false, apart := false, narrowed := true }
def FnExactWiringOfUptoSaid : Prop := fnExactWiringOfUptoRow.holds Try.pinned (OpenSpec.upto fnExactWiringOfSpec)

end Rows
end Go.Proofs.Ytgaecldkiijmpaa
