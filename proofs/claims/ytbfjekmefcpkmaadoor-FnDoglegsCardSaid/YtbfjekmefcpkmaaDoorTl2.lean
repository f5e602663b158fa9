/- A region whose last operations stand in one order, when some quiet operations ahead of them are taken first. -/
import Derived.Test.YtbfjekmefcpkmaaDoorDrn
set_option linter.unusedSimpArgs false
set_option linter.unusedVariables false
set_option linter.unusedSectionVars false
namespace Go.Proofs.YtbfjekmefcpkmaaDoor
open Go.RowKit

def sink2 (ops : Array Oper) (n : Nat) (dn0 : List Nat) : Bool :=
  (List.range n).all fun i => dn0.contains i || (List.range (n + 1)).any fun j => Nat.blt i j && Region.waitsFor .any ops j i
def closed2 (ops : Array Oper) (dn0 : List Nat) : Bool :=
  (List.range ops.size).all fun j => !dn0.contains j || (List.range ops.size).all fun i => !Region.waitsFor .any ops j i || dn0.contains i
def back2 (ops : Array Oper) (n : Nat) : Bool :=
  (List.range n).all fun j => match ops[j]? with | some o => o.after.all (fun e => !Region.binds .any e || Nat.blt e.on j) | none => false
def edgeIn (ops : Array Oper) : Bool := (List.range ops.size).all fun j => match ops[j]? with | some o => o.after.all (fun e => Nat.blt e.on ops.size) | none => false
def tail2 (ops : Array Oper) (n : Nat) (dn0 : List Nat) : Bool :=
  Nat.blt n ops.size && sink2 ops n dn0 && closed2 ops dn0 && back2 ops n && edgeIn ops && Region.chainB .any ops n && Region.seqB .any ops (ops.size - n) n (setTo ops.size n) && guardsB ops.toList n && dn0.all (Nat.blt · n)
section
variable {P : Program} {ops : Array Oper} {Q : Exit → Act → World → Prop}
theorem Oper.wp_mono {o : Oper} {a : Act} {w : World} {K K' : Act → World → Prop} (hK : ∀ a w, K a w → K' a w) (h : o.wp P a w K Q) : o.wp P a w K' Q := by
  unfold Oper.wp at *
  generalize (execOp a.eval o).run P w = r at *
  cases r with
  | ok n w' =>
    cases n <;> simp only [Oper.upon] at h ⊢ <;>
      first
        | exact hK _ _ h
        | exact Calls.mono h (fun e w'' he => by
            cases e with
            | returned v => exact hK _ _ he
            | panicked c => exact he
            | outgrown => exact he)
        | exact Rows.mono h (fun _ _ he => hK _ _ he)
  | halt x w' => cases x <;> simp only [Oper.upon] at h ⊢ <;> exact h
variable {N : Nat} {E : Env} {a : Act} {w : World}
end
end Go.Proofs.YtbfjekmefcpkmaaDoor
