/- Two structs of a point and a bool held against one another. -/
import Derived.Test.YtbfjekmefcpkmaaDoorMrg
set_option linter.unusedSimpArgs false
set_option linter.unusedVariables false
set_option linter.unusedSectionVars false
namespace Go.Proofs.YtbfjekmefcpkmaaDoor
open Go.RowKit

def encIIB (p : Int × Int × Bool) : List Value := [.int .i64 p.1, .int .i64 p.2.1, .bool p.2.2]
structure EqTyG (P : Program) (T : TypeId) (f0 f1 g0 g1 : Field) : Prop where
 und : P.underlying T = some (.struct #[f0, f1])
 held : P.stoodInHeld T = false
 n0 : (f0.name == "_") = false
 n1 : (f1.name == "_") = false
 a0 : ∀ w, (isAgg f0.type).run P w = .ok true w
 a1 : ∀ w, (isAgg f1.type).run P w = .ok false w
 s0 : ∀ w, (sizeOf f0.type).run P w = .ok 2 w
 o0 : f0.offset = 0
 o1 : f1.offset = 2
 inner : EqTy P f0.type g0 g1
 u1 : P.underlying f1.type = some .bool
 gt : P.eqGuardType P.depth T = false
section
variable {P : Program} {ops : Array Oper} {Q : Exit → Act → World → Prop} {N i : Nat} {E : Env} {a : Act} {w ws : World} {Sg dn : List Nat} {T : TypeId} {d : Nat} {x y x' y' : Int} {p q : Bool}
end
section
variable {P : Program} {ops : Array Oper} {Q : Exit → Act → World → Prop} {N i : Nat} {E : Env} {a : Act} {w : World}
def builtNI (ops : Array Oper) (N : Nat) (E : Env) (a : Act) (i : Nat) : Option (Builtin × List Value × List TypeId) :=
 match atI ops N E a i with
 | some (none, .call ⟨.builtin b, args, tys⟩) => some (b, args.toList.map (evE E a), tys.toList)
 | _ => none
variable {κ V : Type} [DecidableEq κ] {okk : κ → Bool} {ek : κ → Value} {ev : V → Value} {b : Nat} {m : List (κ × V)} {k : κ} {z : V}
end
end Go.Proofs.YtbfjekmefcpkmaaDoor
