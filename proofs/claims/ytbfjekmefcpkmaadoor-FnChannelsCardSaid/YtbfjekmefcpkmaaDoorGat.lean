/- A region that draws its order, in which all reads are done ahead of one operation, the gate (a store): till the gate comes up nothing old has turned. -/
import Derived.Test.YtbfjekmefcpkmaaDoorZon
set_option linter.unusedSimpArgs false
set_option linter.unusedVariables false
set_option linter.unusedSectionVars false
namespace Go.Proofs.YtbfjekmefcpkmaaDoor
open Go.RowKit

def anyG (P : Program) (ops : Array Oper) (Q : Exit → Act → World → Prop) (g : Nat) (S : World → Prop) : Nat → Array Bool → Act → World → Prop
 | 0, listed, a, w => Region.ready .any ops listed = [] ∧ Q .normal a w
 | f + 1, listed, a, w => (Region.ready .any ops listed = [] → Q .normal a w) ∧
  ∀ i ∈ Region.ready .any ops listed, wpOp P ops Q i (fun a' w' => ((listed.setIfInBounds i true).getD g true = false → S w') ∧ anyG P ops Q g S f (listed.setIfInBounds i true) a' w') a w
section
variable {P : Program} {ops : Array Oper} {Q : Exit → Act → World → Prop} {g : Nat} {S : World → Prop}
end
def wG (P : Program) (ops : Array Oper) (Q : Exit → Act → World → Prop) (g : Nat) (ws : World) (N : Nat) (dn : List Nat) (E : Env) (a : Act) (w : World) : Prop :=
 St N E a → Chg [] ws w → anyG P ops Q g (Chg [] ws) (ops.size - dn.length) (lsd ops.size dn) (putE E a) w
def gateB (ops : Array Oper) (g : Nat) (dn : List Nat) (i : Nat) : Bool := Region.waitsFor .any ops g i && !(Nat.beq i g) && Nat.blt g ops.size && !dn.contains g
section
variable {P : Program} {ops : Array Oper} {Q : Exit → Act → World → Prop} {g N i : Nat} {E : Env} {a : Act} {w ws : World} {dn : List Nat}
def takeG (P : Program) (ops : Array Oper) (N g : Nat) (a : Act) : List Nat → List Nat → Env → Option (List Nat × Env)
 | [], dn, E => some (dn, E)
 | i :: is, dn, E => match ops[i]? with
  | none => none
  | some o => match stepP P ops N a E o with
   | none => none
   | some E' => match freeB ops dn i && !(Nat.beq i g) with
    | true => takeG P ops N g a is (i :: dn) E'
    | false => none
variable {α : Type} {k : Nat} {enc : α → List Value}
end
end Go.Proofs.YtbfjekmefcpkmaaDoor
