/-
  No cell of these rows narrows 'for every input' (looked for: loops, veiled, ifaces, maps, wideKeys, modest, calm, conditions, laid).
  DERIVED. THE GIVEN ROWS OF THIS SEAT. 3 by the template 'for every input the law returns true; each argument reads behind the call as it read before'; 0 by the template 'total and deterministic' (their statements: YtcknpoeannbpbaaTotals.lean).
  GIVEN WITH THE SEED: the statements are not yours to turn. If you find one false, say at which input.
  Laid BY PROGRAM, IN A SANDBOX (cutbox-rows.mjs): the forced cells as the released guide's own fill.sh prints them over the translation 80087ba860a5e140… (all of the seat's roots in one cut). By AI agents, Wed Nov 11 2026. No macro, syntax, notation, axiom, sorry.
-/
import Derived.Test.YtcknpoeannbpbaaChecked
import GoSem.Claim
import GoSem.ClaimJoined
import GoSem.ClaimMapViews
import Derived.JoinedTies
import Derived.KernelRfl
namespace Go.Proofs.Ytcknpoeannbpbaa
/- THE CELL 'sum', in the pinned program and in every row, IS THE sha256 OF THE DUMP (.gsa) THAT YtcknpoeannbpbaaProg.lean LOADS. Nothing in Lean hashes anything: it is a label: what it is worth is what the hold of that sum in a sandbox is worth. -/
noncomputable def Try.pinned : Pinned := { name := "ytcknpoeannbpbaa", sum := "80087ba860a5e1406127140029ad071acd3adc601671eb0747e4c0ec0afd3666", checked := Try.checked }
namespace Rows
def none {H : Type} : Left H := { results := [], args := [] }

/-- 'laws.FnBlocked': WHATEVER THE INPUT: true; the input reads as it did. -/
def fnBlockedSpec : ChangeSpec := { name := "fnBlocked", fn := fun _ => fun
  | [d1, d2] => { results := [.lit (.bool true)], args := [d1, d2] }
  | _ => none }
def fnBlockedRow : OpenClaim := { program := "ytcknpoeannbpbaa", sum := "80087ba860a5e1406127140029ad071acd3adc601671eb0747e4c0ec0afd3666", func := "loop.example/g01149/laws.FnBlocked", spec := "fnBlocked", unfollowed := true, recurses := true, plainKeys := false, apart := false }
def FnBlockedSaid : Prop := fnBlockedRow.holds Try.pinned (OpenSpec.ofChange fnBlockedSpec)

/-- ITS FALSE NEIGHBOUR: 'it returns false'. Refute it at one input. -/
def fnBlockedWrong : ChangeSpec := { name := "fnBlocked", fn := fun _ => fun
  | [d1, d2] => { results := [.lit (.bool false)], args := [d1, d2] }
  | _ => none }
def FnBlockedWrongFalsely : Prop := fnBlockedRow.holds Try.pinned (OpenSpec.ofChange fnBlockedWrong)

/-- 'laws.FnExactMostApart': WHATEVER THE INPUT: true; the input reads as it did. -/
def fnExactMostApartSpec : ChangeSpec := { name := "fnExactMostApart", fn := fun _ => fun
  | [d1, d2, d3] => { results := [.lit (.bool true)], args := [d1, d2, d3] }
  | _ => none }
def fnExactMostApartRow : OpenClaim := { program := "ytcknpoeannbpbaa", sum := "80087ba860a5e1406127140029ad071acd3adc601671eb0747e4c0ec0afd3666", func := "loop.example/g01149/laws.FnExactMostApart", spec := "fnExactMostApart", unfollowed := true, recurses := true, plainKeys := false, apart := false }
def FnExactMostApartSaid : Prop := fnExactMostApartRow.holds Try.pinned (OpenSpec.ofChange fnExactMostApartSpec)

/-- ITS FALSE NEIGHBOUR: 'it returns false'. Refute it at one input. -/
def fnExactMostApartWrong : ChangeSpec := { name := "fnExactMostApart", fn := fun _ => fun
  | [d1, d2, d3] => { results := [.lit (.bool false)], args := [d1, d2, d3] }
  | _ => none }
def FnExactMostApartWrongFalsely : Prop := fnExactMostApartRow.holds Try.pinned (OpenSpec.ofChange fnExactMostApartWrong)

/-- 'laws.FnExactFewestBlocks': WHATEVER THE INPUT: true; the input reads as it did. -/
def fnExactFewestBlocksSpec : ChangeSpec := { name := "fnExactFewestBlocks", fn := fun _ => fun
  | [d1, d2, d3] => { results := [.lit (.bool true)], args := [d1, d2, d3] }
  | _ => none }
def fnExactFewestBlocksRow : OpenClaim := { program := "ytcknpoeannbpbaa", sum := "80087ba860a5e1406127140029ad071acd3adc601671eb0747e4c0ec0afd3666", func := "loop.example/g01149/laws.FnExactFewestBlocks", spec := "fnExactFewestBlocks", unfollowed := true, recurses := true, plainKeys := false, apart := false }
def FnExactFewestBlocksSaid : Prop := fnExactFewestBlocksRow.holds Try.pinned (OpenSpec.ofChange fnExactFewestBlocksSpec)

/-- ITS FALSE NEIGHBOUR: 'it returns false'. Refute it at one input. -/
def fnExactFewestBlocksWrong : ChangeSpec := { name := "fnExactFewestBlocks", fn := fun _ => fun
  | [d1, d2, d3] => { results := [.lit (.bool false)], args := [d1, d2, d3] }
  | _ => none }
def FnExactFewestBlocksWrongFalsely : Prop := fnExactFewestBlocksRow.holds Try.pinned (OpenSpec.ofChange fnExactFewestBlocksWrong)

/- THE SECOND FORM. 'bulk': how many values and letters a reading holds, each counted each time it is reached (what is shared counts as often as it is met; a slice's spare places count too). A statement '..UptoSaid' is the law's where the arguments, and the package variables that the reading takes, are together of bulk at most 1048576: NARROWER than '..Said'. Prove '..Said' where nothing that the law and all that it calls make is longer than what came in: it says more and counts as full. Else prove '..UptoSaid'. A law counts once. -/
mutual
def uptoBulk {H : Type} : DataW H → Nat
  | .lit (.string bytes) => bytes.length + 1
  | .lit _ => 1
  | .nil => 1
  | .ptr d => uptoBulk d + 1
  | .slice elems spare => uptoBulkAll elems + uptoBulkAll spare + 1
  | .agg parts => uptoBulkAll parts + 1
  | .iface _ d => uptoBulk d + 1
  | .map entries => uptoBulkEntries entries + 1
  | .held _ => 1
def uptoBulkAll {H : Type} : List (DataW H) → Nat
  | [] => 0
  | d :: r => uptoBulk d + uptoBulkAll r
def uptoBulkEntries {H : Type} : List (Lit × DataW H) → Nat
  | [] => 0
  | x :: r => uptoBulkEntry x + uptoBulkEntries r
def uptoBulkEntry {H : Type} : Lit × DataW H → Nat
  | (.string bytes, d) => bytes.length + uptoBulk d + 1
  | (_, d) => uptoBulk d + 1
 end
def uptoSmall : (H : Type) → List (DataW H) → Bool := fun _ ds => decide (uptoBulkAll ds ≤ 1048576)
def OpenSpec.upto (s : _root_.Go.ChangeSpec) : _root_.Go.OpenSpec := { _root_.Go.OpenSpec.ofChange s with cond := some uptoSmall }

/-- 'laws.FnBlocked', WHERE WHAT IT READS IS OF BULK AT MOST 1048576: true; the input reads as it did. -/
def fnBlockedUptoRow : OpenClaim := { program := "ytcknpoeannbpbaa", sum := "80087ba860a5e1406127140029ad071acd3adc601671eb0747e4c0ec0afd3666", func := "loop.example/g01149/laws.FnBlocked", spec := "fnBlocked", unfollowed := true, recurses := true, plainKeys := false, apart := false, narrowed := true }
def FnBlockedUptoSaid : Prop := fnBlockedUptoRow.holds Try.pinned (OpenSpec.upto fnBlockedSpec)

/-- 'laws.FnExactMostApart', WHERE WHAT IT READS IS OF BULK AT MOST 1048576: true; the input reads as it did. -/
def fnExactMostApartUptoRow : OpenClaim := { program := "ytcknpoeannbpbaa", sum := "80087ba860a5e1406127140029ad071acd3adc601671eb0747e4c0ec0afd3666", func := "loop.example/g01149/laws.FnExactMostApart", spec := "fnExactMostApart", unfollowed := true, recurses := true, plainKeys := false, apart := false, narrowed := true }
def FnExactMostApartUptoSaid : Prop := fnExactMostApartUptoRow.holds Try.pinned (OpenSpec.upto fnExactMostApartSpec)

/-- 'laws.FnExactFewestBlocks', WHERE WHAT IT READS IS OF BULK AT MOST 1048576: true; the input reads as it did. -/
def fnExactFewestBlocksUptoRow : OpenClaim := { program := "ytcknpoeannbpbaa", sum := "80087ba860a5e1406127140029ad071acd3adc601671eb0747e4c0ec0afd3666", func := "loop.example/g01149/laws.FnExactFewestBlocks", spec := "fnExactFewestBlocks", unfollowed := true, recurses := true, plainKeys := false, apart := false, narrowed := true }
def FnExactFewestBlocksUptoSaid : Prop := fnExactFewestBlocksUptoRow.holds Try.pinned (OpenSpec.upto fnExactFewestBlocksSpec)

end Rows
end Go.Proofs.Ytcknpoeannbpbaa
