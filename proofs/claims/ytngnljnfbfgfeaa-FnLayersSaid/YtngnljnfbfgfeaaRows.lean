/-
  No cell of these rows narrows 'for every input' (looked for: loops, veiled, ifaces, maps, wideKeys, modest, calm, conditions, laid).
  DERIVED. THE GIVEN ROWS OF THIS SEAT. 8 by the template 'for every input the law returns true; each argument reads behind the call as it read before'; 0 by the template 'total and deterministic' (their statements: YtngnljnfbfgfeaaTotals.lean).
  GIVEN WITH THE SEED: the statements are not yours to turn. If you find one false, say at which input.
  Laid BY PROGRAM, IN A SANDBOX (cutbox-rows.mjs): the forced cells as the released guide's own fill.sh prints them over the translation e71e0439dd1e321e… (all of the seat's roots in one cut). By AI agents, Wed Nov 11 2026. No macro, syntax, notation, axiom, sorry.
-/
import Derived.Test.YtngnljnfbfgfeaaChecked
import GoSem.Claim
import GoSem.ClaimJoined
import GoSem.ClaimMapViews
import Derived.JoinedTies
import Derived.KernelRfl
namespace Go.Proofs.Ytngnljnfbfgfeaa
/- THE CELL 'sum', in the pinned program and in every row, IS THE sha256 OF THE DUMP (.gsa) THAT YtngnljnfbfgfeaaProg.lean LOADS. Nothing in Lean hashes anything: it is a label: what it is worth is what the hold of that sum in a sandbox is worth. -/
noncomputable def Try.pinned : Pinned := { name := "ytngnljnfbfgfeaa", sum := "e71e0439dd1e321e4c64ca7d3492b4e10644d0083c6d781960fb2394e5a07d17", checked := Try.checked }
namespace Rows
def none {H : Type} : Left H := { results := [], args := [] }

/-- 'laws.FnLayers': WHATEVER THE INPUT: true; the input reads as it did. -/
def fnLayersSpec : ChangeSpec := { name := "fnLayers", fn := fun _ => fun
  | [d1, d2] => { results := [.lit (.bool true)], args := [d1, d2] }
  | _ => none }
def fnLayersRow : OpenClaim := { program := "ytngnljnfbfgfeaa", sum := "e71e0439dd1e321e4c64ca7d3492b4e10644d0083c6d781960fb2394e5a07d17", func := "loop.example/g01149/laws.FnLayers", spec := "fnLayers", unfollowed := true, recurses := true, apart := false }
def FnLayersSaid : Prop := fnLayersRow.holds Try.pinned (OpenSpec.ofChange fnLayersSpec)

/-- ITS FALSE NEIGHBOUR: 'it returns false'. Refute it at one input. -/
def fnLayersWrong : ChangeSpec := { name := "fnLayers", fn := fun _ => fun
  | [d1, d2] => { results := [.lit (.bool false)], args := [d1, d2] }
  | _ => none }
def FnLayersWrongFalsely : Prop := fnLayersRow.holds Try.pinned (OpenSpec.ofChange fnLayersWrong)

/-- 'laws.FnBestClocks': WHATEVER THE INPUT: true; the input reads as it did. -/
def fnBestClocksSpec : ChangeSpec := { name := "fnBestClocks", fn := fun _ => fun
  | [d1, d2] => { results := [.lit (.bool true)], args := [d1, d2] }
  | _ => none }
def fnBestClocksRow : OpenClaim := { program := "ytngnljnfbfgfeaa", sum := "e71e0439dd1e321e4c64ca7d3492b4e10644d0083c6d781960fb2394e5a07d17", func := "loop.example/g01149/laws.FnBestClocks", spec := "fnBestClocks", unfollowed := true, recurses := true, apart := false }
def FnBestClocksSaid : Prop := fnBestClocksRow.holds Try.pinned (OpenSpec.ofChange fnBestClocksSpec)

/-- ITS FALSE NEIGHBOUR: 'it returns false'. Refute it at one input. -/
def fnBestClocksWrong : ChangeSpec := { name := "fnBestClocks", fn := fun _ => fun
  | [d1, d2] => { results := [.lit (.bool false)], args := [d1, d2] }
  | _ => none }
def FnBestClocksWrongFalsely : Prop := fnBestClocksRow.holds Try.pinned (OpenSpec.ofChange fnBestClocksWrong)

/-- 'laws.FnExactBestJoins': WHATEVER THE INPUT: true; the input reads as it did. -/
def fnExactBestJoinsSpec : ChangeSpec := { name := "fnExactBestJoins", fn := fun _ => fun
  | [d] => { results := [.lit (.bool true)], args := [d] }
  | _ => none }
def fnExactBestJoinsRow : OpenClaim := { program := "ytngnljnfbfgfeaa", sum := "e71e0439dd1e321e4c64ca7d3492b4e10644d0083c6d781960fb2394e5a07d17", func := "loop.example/g01149/laws.FnExactBestJoins", spec := "fnExactBestJoins", unfollowed := true, recurses := true, apart := false }
def FnExactBestJoinsSaid : Prop := fnExactBestJoinsRow.holds Try.pinned (OpenSpec.ofChange fnExactBestJoinsSpec)

/-- ITS FALSE NEIGHBOUR: 'it returns false'. Refute it at one input. -/
def fnExactBestJoinsWrong : ChangeSpec := { name := "fnExactBestJoins", fn := fun _ => fun
  | [d] => { results := [.lit (.bool false)], args := [d] }
  | _ => none }
def FnExactBestJoinsWrongFalsely : Prop := fnExactBestJoinsRow.holds Try.pinned (OpenSpec.ofChange fnExactBestJoinsWrong)

/-- 'laws.FnExactCountBest': WHATEVER THE INPUT: true; the input reads as it did. -/
def fnExactCountBestSpec : ChangeSpec := { name := "fnExactCountBest", fn := fun _ => fun
  | [d] => { results := [.lit (.bool true)], args := [d] }
  | _ => none }
def fnExactCountBestRow : OpenClaim := { program := "ytngnljnfbfgfeaa", sum := "e71e0439dd1e321e4c64ca7d3492b4e10644d0083c6d781960fb2394e5a07d17", func := "loop.example/g01149/laws.FnExactCountBest", spec := "fnExactCountBest", unfollowed := true, recurses := true, apart := false }
def FnExactCountBestSaid : Prop := fnExactCountBestRow.holds Try.pinned (OpenSpec.ofChange fnExactCountBestSpec)

/-- ITS FALSE NEIGHBOUR: 'it returns false'. Refute it at one input. -/
def fnExactCountBestWrong : ChangeSpec := { name := "fnExactCountBest", fn := fun _ => fun
  | [d] => { results := [.lit (.bool false)], args := [d] }
  | _ => none }
def FnExactCountBestWrongFalsely : Prop := fnExactCountBestRow.holds Try.pinned (OpenSpec.ofChange fnExactCountBestWrong)

/-- 'laws.FnExactFewestVias': WHATEVER THE INPUT: true; the input reads as it did. -/
def fnExactFewestViasSpec : ChangeSpec := { name := "fnExactFewestVias", fn := fun _ => fun
  | [d] => { results := [.lit (.bool true)], args := [d] }
  | _ => none }
def fnExactFewestViasRow : OpenClaim := { program := "ytngnljnfbfgfeaa", sum := "e71e0439dd1e321e4c64ca7d3492b4e10644d0083c6d781960fb2394e5a07d17", func := "loop.example/g01149/laws.FnExactFewestVias", spec := "fnExactFewestVias", unfollowed := true, recurses := true, apart := false }
def FnExactFewestViasSaid : Prop := fnExactFewestViasRow.holds Try.pinned (OpenSpec.ofChange fnExactFewestViasSpec)

/-- ITS FALSE NEIGHBOUR: 'it returns false'. Refute it at one input. -/
def fnExactFewestViasWrong : ChangeSpec := { name := "fnExactFewestVias", fn := fun _ => fun
  | [d] => { results := [.lit (.bool false)], args := [d] }
  | _ => none }
def FnExactFewestViasWrongFalsely : Prop := fnExactFewestViasRow.holds Try.pinned (OpenSpec.ofChange fnExactFewestViasWrong)

/-- 'laws.FnExactGroupsOf': WHATEVER THE INPUT: true; the input reads as it did. -/
def fnExactGroupsOfSpec : ChangeSpec := { name := "fnExactGroupsOf", fn := fun _ => fun
  | [d] => { results := [.lit (.bool true)], args := [d] }
  | _ => none }
def fnExactGroupsOfRow : OpenClaim := { program := "ytngnljnfbfgfeaa", sum := "e71e0439dd1e321e4c64ca7d3492b4e10644d0083c6d781960fb2394e5a07d17", func := "loop.example/g01149/laws.FnExactGroupsOf", spec := "fnExactGroupsOf", unfollowed := true, recurses := true, apart := false }
def FnExactGroupsOfSaid : Prop := fnExactGroupsOfRow.holds Try.pinned (OpenSpec.ofChange fnExactGroupsOfSpec)

/-- ITS FALSE NEIGHBOUR: 'it returns false'. Refute it at one input. -/
def fnExactGroupsOfWrong : ChangeSpec := { name := "fnExactGroupsOf", fn := fun _ => fun
  | [d] => { results := [.lit (.bool false)], args := [d] }
  | _ => none }
def FnExactGroupsOfWrongFalsely : Prop := fnExactGroupsOfRow.holds Try.pinned (OpenSpec.ofChange fnExactGroupsOfWrong)

/-- 'laws.FnExactOddRing': WHATEVER THE INPUT: true; the input reads as it did. -/
def fnExactOddRingSpec : ChangeSpec := { name := "fnExactOddRing", fn := fun _ => fun
  | [d] => { results := [.lit (.bool true)], args := [d] }
  | _ => none }
def fnExactOddRingRow : OpenClaim := { program := "ytngnljnfbfgfeaa", sum := "e71e0439dd1e321e4c64ca7d3492b4e10644d0083c6d781960fb2394e5a07d17", func := "loop.example/g01149/laws.FnExactOddRing", spec := "fnExactOddRing", unfollowed := true, recurses := true, apart := false }
def FnExactOddRingSaid : Prop := fnExactOddRingRow.holds Try.pinned (OpenSpec.ofChange fnExactOddRingSpec)

/-- ITS FALSE NEIGHBOUR: 'it returns false'. Refute it at one input. -/
def fnExactOddRingWrong : ChangeSpec := { name := "fnExactOddRing", fn := fun _ => fun
  | [d] => { results := [.lit (.bool false)], args := [d] }
  | _ => none }
def FnExactOddRingWrongFalsely : Prop := fnExactOddRingRow.holds Try.pinned (OpenSpec.ofChange fnExactOddRingWrong)

/-- 'laws.FnExactFlipGroup': WHATEVER THE INPUT: true; the input reads as it did. -/
def fnExactFlipGroupSpec : ChangeSpec := { name := "fnExactFlipGroup", fn := fun _ => fun
  | [d1, d2, d3] => { results := [.lit (.bool true)], args := [d1, d2, d3] }
  | _ => none }
def fnExactFlipGroupRow : OpenClaim := { program := "ytngnljnfbfgfeaa", sum := "e71e0439dd1e321e4c64ca7d3492b4e10644d0083c6d781960fb2394e5a07d17", func := "loop.example/g01149/laws.FnExactFlipGroup", spec := "fnExactFlipGroup", unfollowed := true, recurses := true, apart := false }
def FnExactFlipGroupSaid : Prop := fnExactFlipGroupRow.holds Try.pinned (OpenSpec.ofChange fnExactFlipGroupSpec)

/-- ITS FALSE NEIGHBOUR: 'it returns false'. Refute it at one input. -/
def fnExactFlipGroupWrong : ChangeSpec := { name := "fnExactFlipGroup", fn := fun _ => fun
  | [d1, d2, d3] => { results := [.lit (.bool false)], args := [d1, d2, d3] }
  | _ => none }
def FnExactFlipGroupWrongFalsely : Prop := fnExactFlipGroupRow.holds Try.pinned (OpenSpec.ofChange fnExactFlipGroupWrong)

/- THE SECOND FORM. 'bulk': how many values and letters a reading holds, each counted each time it is reached (what is shared counts as often as it is met; a slice's spare places count too). A statement '..UptoSaid' is the law's where the arguments, and the package variables that the reading takes, are together of bulk at most 1048576: NARROWER than '..Said'. Prove '..Said' where nothing that the law and all that it calls make is longer than what came in: it says more and counts as full. Else prove '..UptoSaid'. A law counts once. -/
mutual
def uptoBulk {H : Type} : DataW H → Nat
  | .lit (.string bytes) => bytes.length + 1
  | .lit _ => 1
  | .nil => 1
  | .ptr d => uptoBulk d + 1
  | .slice elems spare => uptoBulkAll elems + uptoBulkAll spare + 1
  | .agg parts => uptoBulkAll parts + 1
  | .iface _ d => uptoBulk d + 1
  | .map entries => uptoBulkEntries entries + 1
  | .held _ => 1
def uptoBulkAll {H : Type} : List (DataW H) → Nat
  | [] => 0
  | d :: r => uptoBulk d + uptoBulkAll r
def uptoBulkEntries {H : Type} : List (Lit × DataW H) → Nat
  | [] => 0
  | x :: r => uptoBulkEntry x + uptoBulkEntries r
def uptoBulkEntry {H : Type} : Lit × DataW H → Nat
  | (.string bytes, d) => bytes.length + uptoBulk d + 1
  | (_, d) => uptoBulk d + 1
 end
def uptoSmall : (H : Type) → List (DataW H) → Bool := fun _ ds => decide (uptoBulkAll ds ≤ 1048576)
def OpenSpec.upto (s : _root_.Go.ChangeSpec) : _root_.Go.OpenSpec := { _root_.Go.OpenSpec.ofChange s with cond := some uptoSmall }

/-- 'laws.FnLayers', WHERE WHAT IT READS IS OF BULK AT MOST 1048576: true; the input reads as it did. -/
def fnLayersUptoRow : OpenClaim := { program := "ytngnljnfbfgfeaa", sum := "e71e0439dd1e321e4c64ca7d3492b4e10644d0083c6d781960fb2394e5a07d17", func := "loop.example/g01149/laws.FnLayers", spec := "fnLayers", unfollowed := true, recurses := true, apart := false, narrowed := true }
def FnLayersUptoSaid : Prop := fnLayersUptoRow.holds Try.pinned (OpenSpec.upto fnLayersSpec)

/-- 'laws.FnBestClocks', WHERE WHAT IT READS IS OF BULK AT MOST 1048576: true; the input reads as it did. -/
def fnBestClocksUptoRow : OpenClaim := { program := "ytngnljnfbfgfeaa", sum := "e71e0439dd1e321e4c64ca7d3492b4e10644d0083c6d781960fb2394e5a07d17", func := "loop.example/g01149/laws.FnBestClocks", spec := "fnBestClocks", unfollowed := true, recurses := true, apart := false, narrowed := true }
def FnBestClocksUptoSaid : Prop := fnBestClocksUptoRow.holds Try.pinned (OpenSpec.upto fnBestClocksSpec)

/-- 'laws.FnExactBestJoins', WHERE WHAT IT READS IS OF BULK AT MOST 1048576: true; the input reads as it did. -/
def fnExactBestJoinsUptoRow : OpenClaim := { program := "ytngnljnfbfgfeaa", sum := "e71e0439dd1e321e4c64ca7d3492b4e10644d0083c6d781960fb2394e5a07d17", func := "loop.example/g01149/laws.FnExactBestJoins", spec := "fnExactBestJoins", unfollowed := true, recurses := true, apart := false, narrowed := true }
def FnExactBestJoinsUptoSaid : Prop := fnExactBestJoinsUptoRow.holds Try.pinned (OpenSpec.upto fnExactBestJoinsSpec)

/-- 'laws.FnExactCountBest', WHERE WHAT IT READS IS OF BULK AT MOST 1048576: true; the input reads as it did. -/
def fnExactCountBestUptoRow : OpenClaim := { program := "ytngnljnfbfgfeaa", sum := "e71e0439dd1e321e4c64ca7d3492b4e10644d0083c6d781960fb2394e5a07d17", func := "loop.example/g01149/laws.FnExactCountBest", spec := "fnExactCountBest", unfollowed := true, recurses := true, apart := false, narrowed := true }
def FnExactCountBestUptoSaid : Prop := fnExactCountBestUptoRow.holds Try.pinned (OpenSpec.upto fnExactCountBestSpec)

/-- 'laws.FnExactFewestVias', WHERE WHAT IT READS IS OF BULK AT MOST 1048576: true; the input reads as it did. -/
def fnExactFewestViasUptoRow : OpenClaim := { program := "ytngnljnfbfgfeaa", sum := "e71e0439dd1e321e4c64ca7d3492b4e10644d0083c6d781960fb2394e5a07d17", func := "loop.example/g01149/laws.FnExactFewestVias", spec := "fnExactFewestVias", unfollowed := true, recurses := true, apart := false, narrowed := true }
def FnExactFewestViasUptoSaid : Prop := fnExactFewestViasUptoRow.holds Try.pinned (OpenSpec.upto fnExactFewestViasSpec)

/-- 'laws.FnExactGroupsOf', WHERE WHAT IT READS IS OF BULK AT MOST 1048576: true; the input reads as it did. -/
def fnExactGroupsOfUptoRow : OpenClaim := { program := "ytngnljnfbfgfeaa", sum := "e71e0439dd1e321e4c64ca7d3492b4e10644d0083c6d781960fb2394e5a07d17", func := "loop.example/g01149/laws.FnExactGroupsOf", spec := "fnExactGroupsOf", unfollowed := true, recurses := true, apart := false, narrowed := true }
def FnExactGroupsOfUptoSaid : Prop := fnExactGroupsOfUptoRow.holds Try.pinned (OpenSpec.upto fnExactGroupsOfSpec)

/-- 'laws.FnExactOddRing', WHERE WHAT IT READS IS OF BULK AT MOST 1048576: true; the input reads as it did. -/
def fnExactOddRingUptoRow : OpenClaim := { program := "ytngnljnfbfgfeaa", sum := "e71e0439dd1e321e4c64ca7d3492b4e10644d0083c6d781960fb2394e5a07d17", func := "loop.example/g01149/laws.FnExactOddRing", spec := "fnExactOddRing", unfollowed := true, recurses := true, apart := false, narrowed := true }
def FnExactOddRingUptoSaid : Prop := fnExactOddRingUptoRow.holds Try.pinned (OpenSpec.upto fnExactOddRingSpec)

/-- 'laws.FnExactFlipGroup', WHERE WHAT IT READS IS OF BULK AT MOST 1048576: true; the input reads as it did. -/
def fnExactFlipGroupUptoRow : OpenClaim := { program := "ytngnljnfbfgfeaa", sum := "e71e0439dd1e321e4c64ca7d3492b4e10644d0083c6d781960fb2394e5a07d17", func := "loop.example/g01149/laws.FnExactFlipGroup", spec := "fnExactFlipGroup", unfollowed := true, recurses := true, apart := false, narrowed := true }
def FnExactFlipGroupUptoSaid : Prop := fnExactFlipGroupUptoRow.holds Try.pinned (OpenSpec.upto fnExactFlipGroupSpec)

end Rows
end Go.Proofs.Ytngnljnfbfgfeaa
