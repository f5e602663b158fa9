/- A slice cut to its length in capacity too, and append onto one that is full: new memory. -/
import Derived.Test.YtbfjekmefcpkmaaDoorU8
import Derived.ArgAppend
set_option linter.unusedSimpArgs false
set_option linter.unusedVariables false
set_option linter.unusedSectionVars false
namespace Go.Proofs.YtbfjekmefcpkmaaDoor
open Go.RowKit
section
variable {α : Type} {k : Nat} {enc : α → List Value} {P : Program} {ops : Array Oper} {Q : Exit → Act → World → Prop} {N i : Nat} {E : Env} {a : Act} {w : World}
def slc3I (ops : Array Oper) (N : Nat) (E : Env) (a : Act) (i : Nat) : Option (Nat × TypeId × Value × Value × Value) :=
 match atI ops N E a i with
 | some (some d, .slice t x none (some hi) (some mx)) => some (d, t, evE E a x, evE E a hi, evE E a mx)
 | _ => none
end
end Go.Proofs.YtbfjekmefcpkmaaDoor
