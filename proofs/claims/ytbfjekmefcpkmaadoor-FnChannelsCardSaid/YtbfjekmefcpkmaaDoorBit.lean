/- Shifts by a number that is told at the run; bits of signed numbers. -/
import Derived.Test.YtbfjekmefcpkmaaDoorMxd
set_option linter.unusedSimpArgs false
set_option linter.unusedVariables false
namespace Go.Proofs.YtbfjekmefcpkmaaDoor
open Go.RowKit
def andI (x y : Int) : Int := IntKind.i64.wrap (BitVec.ofInt IntKind.i64.bits x &&& BitVec.ofInt IntKind.i64.bits y).toNat
def andNI (x y : Int) : Int := IntKind.i64.wrap (BitVec.ofInt IntKind.i64.bits x &&& ~~~ BitVec.ofInt IntKind.i64.bits y).toNat
def shlI (x y : Int) : Int := wr (x * 2 ^ (min y.toNat 64))
def shrI (x y : Int) : Int := x.fdiv (2 ^ (min y.toNat 64))
def p0C (n : Int) : Option Unit := chk (decide (0 ≤ n))
theorem p0E {n : Int} {u : Unit} (h : p0C n = some u) : 0 ≤ n := of_decide_eq_true (chkE h)
theorem p0C_ok {n : Int} (h : 0 ≤ n) : p0C n = some () := by unfold p0C chk; simp [h]
section
variable {P : Program} {ops : Array Oper} {Q : Exit → Act → World → Prop} {N i : Nat} {E : Env} {a : Act} {w : World}
def shI (ops : Array Oper) (N : Nat) (E : Env) (a : Act) (i : Nat) : Option (Nat × BinOp × Value × Value) :=
 match atI ops N E a i with
 | some (some d, .binOp op _ x y _) => some (d, op, evE E a x, evE E a y)
 | _ => none
theorem wS_shl {d : Nat} {x y : Int} {yk : IntKind} (ho : shI ops N E a i = some (d, .shl, .int .i64 x, .int yk y)) (hy : 0 ≤ y) (k : wS P ops Q N (i + 1) ((d, .int .i64 (shlI x y)) :: E) a w) : wS P ops Q N i E a w := by
 unfold shI at ho
 split at ho
 ·rename_i d' op t' x' y' s' hat
  simp only [Option.some.injEq, Prod.mk.injEq] at ho
  obtain ⟨rfl, rfl, hx, hy'⟩ := ho
  obtain ⟨g1, g2, g3⟩ := atI_spec hat
  have h0 : ¬ y < 0 := by omega
  refine wS_val g1 g2 (g3 _ rfl) (fun o ho => pureRun_run ?_ w) k
  simp only [execOp, ho, hx, hy']
  simp [eqGuard, binOp, Op.shift, h0, pureRun, Bind.bind, Sem.bind, Pure.pure, shlI, IntKind.bits]
 ·cases ho
theorem wS_shr {d : Nat} {x y : Int} {yk : IntKind} (ho : shI ops N E a i = some (d, .shr, .int .i64 x, .int yk y)) (hy : 0 ≤ y) (k : wS P ops Q N (i + 1) ((d, .int .i64 (shrI x y)) :: E) a w) : wS P ops Q N i E a w := by
 unfold shI at ho
 split at ho
 ·rename_i d' op t' x' y' s' hat
  simp only [Option.some.injEq, Prod.mk.injEq] at ho
  obtain ⟨rfl, rfl, hx, hy'⟩ := ho
  obtain ⟨g1, g2, g3⟩ := atI_spec hat
  have h0 : ¬ y < 0 := by omega
  refine wS_val g1 g2 (g3 _ rfl) (fun o ho => pureRun_run ?_ w) k
  simp only [execOp, ho, hx, hy']
  simp [eqGuard, binOp, Op.shift, h0, pureRun, Bind.bind, Sem.bind, Pure.pure, shrI, IntKind.bits]
 ·cases ho
theorem wH_shl {ws : World} {Sg dn : List Nat} {d : Nat} {x y : Int} {yk : IntKind} (hns : Region.noSelect ops = true) (hQ : QCalm Q) (hf : freeB ops dn i = true) (ho : shI ops N E a i = some (d, .shl, .int .i64 x, .int yk y)) (hy : 0 ≤ y)
  (kk : wH P ops Q Sg ws N (i :: dn) ((d, .int .i64 (shlI x y)) :: E) a w) : wH P ops Q Sg ws N dn E a w := by
 unfold shI at ho
 split at ho
 ·rename_i d' op t' x' y' s' hat
  simp only [Option.some.injEq, Prod.mk.injEq] at ho
  obtain ⟨rfl, rfl, hx, hy'⟩ := ho
  have h0 : ¬ y < 0 := by omega
  refine wH_val hns hQ hf hat (fun w hW o ho => pureRun_run ?_ w) kk
  simp only [execOp, ho, hx, hy']
  simp [eqGuard, binOp, Op.shift, h0, pureRun, Bind.bind, Sem.bind, Pure.pure, shlI, IntKind.bits]
 ·cases ho
theorem wH_rem {ws : World} {Sg dn : List Nat} {d : Nat} {x y : Int} (hns : Region.noSelect ops = true) (hQ : QCalm Q) (hf : freeB ops dn i = true) (ho : remI ops N E a i = some (d, .int .i64 x, .int .i64 y)) (hy : y ≠ 0)
  (kk : wH P ops Q Sg ws N (i :: dn) ((d, .int .i64 (Int.tmod x y)) :: E) a w) : wH P ops Q Sg ws N dn E a w := by
 unfold remI at ho
 split at ho
 ·rename_i d' t' x' y' s' hat
  simp only [Option.some.injEq, Prod.mk.injEq] at ho
  obtain ⟨rfl, hx, hy'⟩ := ho
  refine wH_val hns hQ hf hat (fun w hW o ho => pureRun_run ?_ w) kk
  simp only [execOp, ho, hx, hy']
  simp [eqGuard, binOp, Op.intDiv, hy, pureRun, Bind.bind, Sem.bind, Pure.pure]
 ·cases ho
end
end Go.Proofs.YtbfjekmefcpkmaaDoor
