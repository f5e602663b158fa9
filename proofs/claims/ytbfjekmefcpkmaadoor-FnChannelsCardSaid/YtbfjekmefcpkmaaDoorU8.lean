/- Bytes, unsigned numbers of 64 bits, a remainder by a number that is told at the run. -/
import Derived.Test.YtbfjekmefcpkmaaDoorMan
import Derived.Test.YtbfjekmefcpkmaaDoorOpn
set_option linter.unusedSimpArgs false
set_option linter.unusedVariables false
namespace Go.Proofs.YtbfjekmefcpkmaaDoor
open Go.ChangeShapes Go.WideShapes Go.ChangeAt Go.RowKit Go.Joins

abbrev wu (n : Int) : Int := IntKind.u64.wrap n
def shrU (x : Int) (n : Nat) : Int := x.fdiv (2 ^ n)
def andU (x y : Int) : Int := IntKind.u64.wrap (BitVec.ofInt IntKind.u64.bits x &&& BitVec.ofInt IntKind.u64.bits y).toNat
def encU (x : Int) : List Value := [.int .u8 x]
def nzC (n : Int) : Option Unit := chk (!(n == 0))
theorem nzE {n : Int} {u : Unit} (h : nzC n = some u) : n ≠ 0 := by
 have := chkE h
 simpa using this
theorem nzC_ok {n : Int} (h : n ≠ 0) : nzC n = some () := by unfold nzC chk; simp [h]
theorem andU_range (x : Int) : 0 ≤ andU x 255 ∧ andU x 255 ≤ 255 := by
 have h : (BitVec.ofInt IntKind.u64.bits x &&& BitVec.ofInt IntKind.u64.bits 255).toNat ≤ 255 := by
  rw [BitVec.toNat_and]
  exact Nat.le_trans Nat.and_le_right (by decide)
 simp only [andU, IntKind.wrap, IntKind.signed]
 have h2 : IntKind.u64.bits = 64 := rfl
 generalize (BitVec.ofInt IntKind.u64.bits x &&& BitVec.ofInt IntKind.u64.bits 255).toNat = m at h
 simp only [h2, Bool.false_and, Bool.false_eq_true, if_false]; omega
section
variable {P : Program} {ops : Array Oper} {Q : Exit → Act → World → Prop} {N i : Nat} {E : Env} {a : Act} {w : World}
def remI (ops : Array Oper) (N : Nat) (E : Env) (a : Act) (i : Nat) : Option (Nat × Value × Value) :=
 match atI ops N E a i with
 | some (some d, .binOp .rem _ x y _) => some (d, evE E a x, evE E a y)
 | _ => none
theorem wS_rem {d : Nat} {x y : Int} (ho : remI ops N E a i = some (d, .int .i64 x, .int .i64 y)) (hy : y ≠ 0) (k : wS P ops Q N (i + 1) ((d, .int .i64 (Int.tmod x y)) :: E) a w) : wS P ops Q N i E a w := by
 unfold remI at ho
 split at ho
 ·rename_i d' t' x' y' s' hat
  simp only [Option.some.injEq, Prod.mk.injEq] at ho
  obtain ⟨rfl, hx, hy'⟩ := ho
  obtain ⟨g1, g2, g3⟩ := atI_spec hat
  refine wS_val g1 g2 (g3 _ rfl) (fun o ho => pureRun_run ?_ w) k
  simp only [execOp, ho, hx, hy']
  simp [eqGuard, binOp, Op.intDiv, hy, pureRun, Bind.bind, Sem.bind, Pure.pure]
 ·cases ho
end
/-! ### Two structs of four integers held against one another -/
structure EqTy4 (P : Program) (T : TypeId) (f0 f1 f2 f3 : Field) : Prop where
 und : P.underlying T = some (.struct #[f0, f1, f2, f3])
 held : P.stoodInHeld T = false
 n0 : (f0.name == "_") = false
 n1 : (f1.name == "_") = false
 n2 : (f2.name == "_") = false
 n3 : (f3.name == "_") = false
 g0 : ∀ w, (isAgg f0.type).run P w = .ok false w
 g1 : ∀ w, (isAgg f1.type).run P w = .ok false w
 g2 : ∀ w, (isAgg f2.type).run P w = .ok false w
 g3 : ∀ w, (isAgg f3.type).run P w = .ok false w
 o0 : f0.offset = 0
 o1 : f1.offset = 1
 o2 : f2.offset = 2
 o3 : f3.offset = 3
 u0 : P.underlying f0.type = some (.int .i64)
 u1 : P.underlying f1.type = some (.int .i64)
 u2 : P.underlying f2.type = some (.int .i64)
 u3 : P.underlying f3.type = some (.int .i64)
 gt : P.eqGuardType P.depth T = false
section
variable {P : Program} {ops : Array Oper} {Q : Exit → Act → World → Prop} {N i : Nat} {E : Env} {a : Act} {w ws : World} {Sg dn : List Nat} {T : TypeId} {d : Nat} {x0 x1 x2 x3 y0 y1 y2 y3 : Int}
end
section
variable {H : Type} {enc : TypeId × Value → H} {P : Program} {W : World} {hd : Bool} {n : Nat} {x : DataW H × List MemPlace} {v : Value} {t e : TypeId}
def In8 (n : Int) : Prop := 0 ≤ n ∧ n < 256
theorem in8 {n : Int} (h : (Lit.int .u8 n).wf = true) : In8 n := by
 simp only [Lit.wf, IntKind.min, IntKind.max, Bool.and_eq_true, decide_eq_true_eq] at h
 have h1 : (0 : Int) ≤ n := by simpa [IntKind.signed, IntKind.bits] using h.1
 have h2 : n ≤ (255 : Int) := by simpa [IntKind.signed, IntKind.bits] using h.2
 exact ⟨h1, by omega⟩
theorem open_bytes (ht : P.underlying t = some (.slice e)) (he : P.underlying e = some (.int .u8)) (ce : P.cellsOf e = 1)
  (h : DataW.trod enc P W 0 (fun _ => true) hd n t [v] = some x) :
  ∃ (A : Option Addr) (cap : Nat) (l : List Int) (fp : List Nat), v = .slice A l.length cap ∧ Sl 1 encU W fp A l ∧ l.length ≤ 9223372036854775807 ∧ ∀ p ∈ l, In8 p := by
 rcases open_ints ht he ce h with ⟨hv, _⟩ | ⟨a, len, cap, zs, hv, _, hl, hm, hz, _, hx, hwf⟩
 ·exact ⟨none, 0, [], [], by simpa using hv, Sl.nil_, by simp, by simp⟩
 ·simp only [if_true] at hz
  have hlen : (zs.take len).length = len := by simp; omega
  obtain ⟨fp, hS, _⟩ := Sl.of (k := 1) (enc := encU) (w := W) (a := a) (l := zs.take len)
   (fun h0 => by rw [hlen] at h0; have := World.block_lt_of_cell? _ _ (hx 0 (by omega)); rwa [add_block] at this)
   (fun i p hp j u hu => by
    have hlt : i < len := by have := (List.getElem?_eq_some_iff.1 hp).1; omega
    have h1 := hx i (by omega)
    have hp' : zs[i]? = some p := by rw [List.getElem?_take] at hp; simpa [hlt] using hp
    have : zs.getD i 0 = p := by simp [List.getD, hp']
    rw [this] at h1
    match j, hu with
    | 0, hu => simp only [encU, List.getElem?_cons_zero, Option.some.injEq] at hu; subst hu; rw [Go.Deep.add_add, Nat.mul_one]; exact h1
    | j + 1, hu => simp [encU] at hu)
  exact ⟨some a, cap, zs.take len, fp, by rw [hlen]; simpa using hv, hS, by rw [hlen]; unfold maxLen at hm; omega, fun p hp => in8 (hwf p (List.mem_of_mem_take hp))⟩
end
end Go.Proofs.YtbfjekmefcpkmaaDoor
