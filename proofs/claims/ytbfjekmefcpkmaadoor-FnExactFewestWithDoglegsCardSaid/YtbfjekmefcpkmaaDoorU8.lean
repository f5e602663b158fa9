/- Bytes, unsigned numbers of 64 bits, a remainder by a number that is told at the run. -/
import Derived.Test.YtbfjekmefcpkmaaDoorMan
import Derived.Test.YtbfjekmefcpkmaaDoorOpn
set_option linter.unusedSimpArgs false
set_option linter.unusedVariables false
namespace Go.Proofs.YtbfjekmefcpkmaaDoor
open Go.ChangeShapes Go.WideShapes Go.ChangeAt Go.RowKit Go.Joins

abbrev wu (n : Int) : Int := IntKind.u64.wrap n
def shrU (x : Int) (n : Nat) : Int := x.fdiv (2 ^ n)
def andU (x y : Int) : Int := IntKind.u64.wrap (BitVec.ofInt IntKind.u64.bits x &&& BitVec.ofInt IntKind.u64.bits y).toNat
def encU (x : Int) : List Value := [.int .u8 x]
def nzC (n : Int) : Option Unit := chk (!(n == 0))
section
variable {P : Program} {ops : Array Oper} {Q : Exit → Act → World → Prop} {N i : Nat} {E : Env} {a : Act} {w : World}
def remI (ops : Array Oper) (N : Nat) (E : Env) (a : Act) (i : Nat) : Option (Nat × Value × Value) :=
  match atI ops N E a i with
  | some (some d, .binOp .rem _ x y _) => some (d, evE E a x, evE E a y)
  | _ => none
end
/-! ### Two structs of four integers held against one another -/
structure EqTy4 (P : Program) (T : TypeId) (f0 f1 f2 f3 : Field) : Prop where
  und : P.underlying T = some (.struct #[f0, f1, f2, f3])
  held : P.stoodInHeld T = false
  n0 : (f0.name == "_") = false
  n1 : (f1.name == "_") = false
  n2 : (f2.name == "_") = false
  n3 : (f3.name == "_") = false
  g0 : ∀ w, (isAgg f0.type).run P w = .ok false w
  g1 : ∀ w, (isAgg f1.type).run P w = .ok false w
  g2 : ∀ w, (isAgg f2.type).run P w = .ok false w
  g3 : ∀ w, (isAgg f3.type).run P w = .ok false w
  o0 : f0.offset = 0
  o1 : f1.offset = 1
  o2 : f2.offset = 2
  o3 : f3.offset = 3
  u0 : P.underlying f0.type = some (.int .i64)
  u1 : P.underlying f1.type = some (.int .i64)
  u2 : P.underlying f2.type = some (.int .i64)
  u3 : P.underlying f3.type = some (.int .i64)
  gt : P.eqGuardType P.depth T = false
section
variable {P : Program} {ops : Array Oper} {Q : Exit → Act → World → Prop} {N i : Nat} {E : Env} {a : Act} {w ws : World} {Sg dn : List Nat} {T : TypeId} {d : Nat} {x0 x1 x2 x3 y0 y1 y2 y3 : Int}
end
section
variable {H : Type} {enc : TypeId × Value → H} {P : Program} {W : World} {hd : Bool} {n : Nat} {x : DataW H × List MemPlace} {v : Value} {t e : TypeId}
def In8 (n : Int) : Prop := 0 ≤ n ∧ n < 256
end
end Go.Proofs.YtbfjekmefcpkmaaDoor
