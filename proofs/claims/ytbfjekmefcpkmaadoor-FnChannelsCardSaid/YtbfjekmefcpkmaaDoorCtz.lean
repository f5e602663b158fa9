/- The lowest bit of a number: what the library's table tells. -/
import Derived.Test.YtbfjekmefcpkmaaDoorRgr
import Derived.Shelf.Spec.TrailingZeros
set_option linter.unusedSimpArgs false
set_option linter.unusedVariables false
set_option linter.unusedSectionVars false
namespace Go.Proofs.YtbfjekmefcpkmaaDoor
open Go.RowKit

def orI (x y : Int) : Int := IntKind.i64.wrap (BitVec.ofInt IntKind.i64.bits x ||| BitVec.ofInt IntKind.i64.bits y).toNat
def tab64 : List Int := Lib.deBruijn64tab.map fun (n : Nat) => (n : Int)
def m_mTrail1 (n : Int) : Option Int := if 0 ≤ n ∧ n < 4611686018427387904 then some ((Lib.ctz 64 n.toNat : Nat) : Int) else none
end Go.Proofs.YtbfjekmefcpkmaaDoor
