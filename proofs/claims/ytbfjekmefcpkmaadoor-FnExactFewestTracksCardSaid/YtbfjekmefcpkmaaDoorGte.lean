/- Two structs of a point and a bool held against one another. -/
import Derived.Test.YtbfjekmefcpkmaaDoorMrg
set_option linter.unusedSimpArgs false
set_option linter.unusedVariables false
set_option linter.unusedSectionVars false
namespace Go.Proofs.YtbfjekmefcpkmaaDoor
open Go.RowKit

def encIIB (p : Int × Int × Bool) : List Value := [.int .i64 p.1, .int .i64 p.2.1, .bool p.2.2]
theorem encIIB_ok : EncOk 3 encIIB := ⟨by omega, fun _ => rfl, fun x u h => by simp only [encIIB, List.mem_cons, List.not_mem_nil, or_false] at h; rcases h with rfl | rfl | rfl <;> rfl⟩
structure EqTyG (P : Program) (T : TypeId) (f0 f1 g0 g1 : Field) : Prop where
  und : P.underlying T = some (.struct #[f0, f1])
  held : P.stoodInHeld T = false
  n0 : (f0.name == "_") = false
  n1 : (f1.name == "_") = false
  a0 : ∀ w, (isAgg f0.type).run P w = .ok true w
  a1 : ∀ w, (isAgg f1.type).run P w = .ok false w
  s0 : ∀ w, (sizeOf f0.type).run P w = .ok 2 w
  o0 : f0.offset = 0
  o1 : f1.offset = 2
  inner : EqTy P f0.type g0 g1
  u1 : P.underlying f1.type = some .bool
  gt : P.eqGuardType P.depth T = false
theorem equal_gate {P : Program} {T : TypeId} {f0 f1 g0 g1 : Field} (h : EqTyG P T f0 f1 g0 g1) (a b c d : Int) (p q : Bool) (w : World) :
    (Op.equal T (.agg #[.int .i64 a, .int .i64 b, .bool p]) (.agg #[.int .i64 c, .int .i64 d, .bool q])).run P w = .ok (a == c && b == d && p == q) w := by
  have h0 : f0.name ≠ "_" := by have := h.n0; simpa using this
  have h1 : f1.name ≠ "_" := by have := h.n1; simpa using this
  have i0 : g0.name ≠ "_" := by have := h.inner.n0; simpa using this
  have i1 : g1.name ≠ "_" := by have := h.inner.n1; simpa using this
  have hin : ∀ w, (Op.equalIn (9997 + 1 + 1) f0.type (.agg #[.int .i64 a, .int .i64 b]) (.agg #[.int .i64 c, .int .i64 d])).run P w = .ok (a == c && b == d) w := fun w => by
    rw [Op.equalIn]
    simp [run_underlying h.inner.und, h.inner.held, i0, i1, part, h.inner.g0, h.inner.g1, h.inner.o0, h.inner.o1]
    rw [Op.equalIn, Op.equalIn]
    simp [run_underlying h.inner.u0, run_underlying h.inner.u1]
    by_cases e : a = c <;> by_cases e' : b = d <;> simp [e, e', run_underlying h.inner.u0, run_underlying h.inner.u1]
  have hb : ∀ w, (Op.equalIn (9997 + 1 + 1) f1.type (.bool p) (.bool q)).run P w = .ok (p == q) w := fun w => by
    rw [Op.equalIn]
    simp [run_underlying h.u1]
  show (Op.equalIn (9997 + 1 + 1 + 1) T _ _).run P w = _
  rw [Op.equalIn]
  simp [run_underlying h.und, h.held, h0, h1, part, h.a0, h.a1, h.s0, h.o0, h.o1, hin, hb]
  by_cases e : a = c <;> by_cases e' : b = d <;> by_cases e2 : p = q <;> simp [e, e', e2, hin, hb]
section
variable {P : Program} {ops : Array Oper} {Q : Exit → Act → World → Prop} {N i : Nat} {E : Env} {a : Act} {w ws : World} {Sg dn : List Nat} {T : TypeId} {d : Nat} {x y x' y' : Int} {p q : Bool}
theorem wH_neG (hns : Region.noSelect ops = true) (hQ : QCalm Q) (hf : freeB ops dn i = true) (ho : neI ops N E a i = some (d, T, .agg #[.int .i64 x, .int .i64 y, .bool p], .agg #[.int .i64 x', .int .i64 y', .bool q])) (hT : ∃ f0 f1 g0 g1, EqTyG P T f0 f1 g0 g1)
    (kk : wH P ops Q Sg ws N (i :: dn) ((d, .bool (!(x == x' && y == y' && p == q))) :: E) a w) : wH P ops Q Sg ws N dn E a w := by
  unfold neI at ho
  split at ho
  · rename_i d' T' xx yy _ hat
    obtain ⟨f0, f1, g0, g1, hT⟩ := hT
    simp only [Option.some.injEq, Prod.mk.injEq] at ho
    obtain ⟨rfl, rfl, hx, hy⟩ := ho
    refine wH_val hns hQ hf hat (fun w hW o ho => ?_) kk
    simp only [execOp, ho]
    simp [binOp, eqGuard, hT.gt, hx, hy, equal_gate hT, -Bool.not_and]
  · cases ho
theorem wS_neG (ho : neI ops N E a i = some (d, T, .agg #[.int .i64 x, .int .i64 y, .bool p], .agg #[.int .i64 x', .int .i64 y', .bool q])) (hT : ∃ f0 f1 g0 g1, EqTyG P T f0 f1 g0 g1)
    (kk : wS P ops Q N (i + 1) ((d, .bool (!(x == x' && y == y' && p == q))) :: E) a w) : wS P ops Q N i E a w := by
  unfold neI at ho
  split at ho
  · rename_i d' T' xx yy _ hat
    obtain ⟨f0, f1, g0, g1, hT⟩ := hT
    simp only [Option.some.injEq, Prod.mk.injEq] at ho
    obtain ⟨rfl, rfl, hx, hy⟩ := ho
    obtain ⟨k1, k2, k3⟩ := atI_spec hat
    refine wS_val k1 k2 (k3 _ rfl) (fun o ho => ?_) kk
    simp only [execOp, ho]
    simp [binOp, eqGuard, hT.gt, hx, hy, equal_gate hT, -Bool.not_and]
  · cases ho
end
section
variable {P : Program} {ops : Array Oper} {Q : Exit → Act → World → Prop} {N i : Nat} {E : Env} {a : Act} {w : World}
def builtNI (ops : Array Oper) (N : Nat) (E : Env) (a : Act) (i : Nat) : Option (Builtin × List Value × List TypeId) :=
  match atI ops N E a i with
  | some (none, .call ⟨.builtin b, args, tys⟩) => some (b, args.toList.map (evE E a), tys.toList)
  | _ => none
variable {κ V : Type} [DecidableEq κ] {okk : κ → Bool} {ek : κ → Value} {ev : V → Value} {b : Nat} {m : List (κ × V)} {k : κ} {z : V}
theorem wS_mdelN {T T2 K e : Nat} {kvv : Value} (ho : builtNI ops N E a i = some (.delete, [.map (some b), kvv], [T, T2])) (hkv : kvv = ek k) (hK : MK P K ek okk) (hT : MpTy P T K e (ev z)) (h : Mp okk ek ev w b m) (hk : okk k = true)
    (kk : ∀ w', Mp okk ek ev w' b (mdel m k) → Chg [b] w w' → wS P ops Q N (i + 1) E a w') : wS P ops Q N i E a w := by
  subst hkv
  unfold builtNI at ho
  split at ho
  · rename_i b' args tys hat
    simp only [Option.some.injEq, Prod.mk.injEq] at ho
    obtain ⟨rfl, hx, hq⟩ := ho
    obtain ⟨h1, h2, _⟩ := atI_spec hat
    have ha : args.map (evE E a) = #[.map (some b), ek k] := by
      apply Array.ext'; rw [Array.toList_map]; exact hx
    have ht : tys = #[T, T2] := by apply Array.ext'; exact hq
    subst ht
    obtain ⟨w', hrun, hM, hc⟩ := h.delete (T2 := T2) (ty := 0) hK hT.und hk
    have hrun' : ∀ ty, (Builtin.delete_ #[T, T2] ty #[.map (some b), ek k]).run P w = .ok (.tuple #[]) w' := fun ty => hrun
    refine wS_valN (v := .tuple #[]) (w' := w') h1 h2 (fun o ho => ?_) (kk w' hM hc)
    simp [execOp, ho, resolve, invoke, builtin, ha, hrun']
  · cases ho
end
end Go.Proofs.YtbfjekmefcpkmaaDoor
