/- Two structs of two integers held against one another. -/
import Derived.Test.YtbfjekmefcpkmaaDoorRw3
set_option linter.unusedSimpArgs false
set_option linter.unusedVariables false
set_option linter.unusedSectionVars false
namespace Go.Proofs.YtbfjekmefcpkmaaDoor
open Go.RowKit

structure EqTy (P : Program) (T : TypeId) (f0 f1 : Field) : Prop where
  und : P.underlying T = some (.struct #[f0, f1])
  held : P.stoodInHeld T = false
  n0 : (f0.name == "_") = false
  n1 : (f1.name == "_") = false
  g0 : ∀ w, (isAgg f0.type).run P w = .ok false w
  g1 : ∀ w, (isAgg f1.type).run P w = .ok false w
  o0 : f0.offset = 0
  o1 : f1.offset = 1
  u0 : P.underlying f0.type = some (.int .i64)
  u1 : P.underlying f1.type = some (.int .i64)
  gt : P.eqGuardType P.depth T = false
def eqI (ops : Array Oper) (N : Nat) (E : Env) (a : Act) (i : Nat) : Option (Nat × TypeId × Value × Value) :=
  match atI ops N E a i with
  | some (some d, .binOp .eql T x y _) => some (d, T, evE E a x, evE E a y)
  | _ => none
def neI (ops : Array Oper) (N : Nat) (E : Env) (a : Act) (i : Nat) : Option (Nat × TypeId × Value × Value) :=
  match atI ops N E a i with
  | some (some d, .binOp .neq T x y _) => some (d, T, evE E a x, evE E a y)
  | _ => none
section
variable {P : Program} {ops : Array Oper} {Q : Exit → Act → World → Prop} {N i : Nat} {E : Env} {a : Act} {w ws : World} {Sg dn : List Nat} {T : TypeId} {d : Nat} {x y x' y' : Int}
end
/-! ### The beginning of a slice of the call's own -/
theorem take_flatMap {α : Type} {k : Nat} {enc : α → List Value} (he : EncOk k enc) : ∀ (l : List α) (n : Nat), (l.flatMap enc).take (n * k) = (l.take n).flatMap enc
  | [], n => by simp
  | x :: l, 0 => by simp
  | x :: l, n + 1 => by
    rw [List.flatMap_cons, List.take_succ_cons, List.flatMap_cons, show (n + 1) * k = (enc x).length + n * k by rw [he.len, Nat.add_mul]; omega, List.take_length_add_append, take_flatMap he l n]
theorem Ow.prefix {α : Type} {k : Nat} {enc : α → List Value} {T : TypeId} {w : World} {fp : List Nat} {A : Option Addr} {cap : Nat} {l : List α} (he : EncOk k enc) (h : Ow k enc T w fp A cap l) (n : Nat) : Ow k enc T w fp A cap (l.take n) := by
  rcases h.is with ⟨h1, rfl, h3, h4⟩ | ⟨g, cs, h1, h2, h3, h4, h5, h6, h7⟩
  · exact ⟨Or.inl ⟨h1, by simp, h3, h4⟩⟩
  · refine ⟨Or.inr ⟨g, cs, h1, h2, h3, h4, by rw [List.length_take]; omega, h6, ?_⟩⟩
    have hn : (l.take n).length = min n l.length := List.length_take ..
    rw [← take_flatMap he l n, ← h7, List.take_take, hn]
    congr 1
    rcases Nat.le_total n l.length with hle | hle
    · rw [Nat.min_eq_left hle, Nat.min_eq_left (Nat.mul_le_mul_right k hle)]
    · rw [Nat.min_eq_right hle, Nat.min_eq_right (Nat.mul_le_mul_right k hle)]
section
variable {α : Type} {k : Nat} {enc : α → List Value} {P : Program} {ops : Array Oper} {Q : Exit → Act → World → Prop} {N i : Nat} {E : Env} {a : Act} {w ws : World} {Sg dn : List Nat}
theorem slc_bounds {P : Program} (w : World) {n cap hi : Nat} (h : hi ≤ n) (hc : n ≤ cap) : (Instr.sliceBounds true n cap none (some (.int .i64 (hi : Int))) none).run P w = .ok (0, hi, cap) w := by
  have hhc : (hi : Int) ≤ cap := by omega
  have hhc' : hi ≤ cap := by omega
  simp [Instr.sliceBounds, Instr.sliceBound, asIntOf, hhc', Nat.not_lt.2 hhc']
theorem add_zero (a : Addr) : a.add 0 = a := by unfold Addr.add; simp
theorem wS_prefix {d T e U cap : Nat} {A : Option Addr} {l l' : List α} {fp : List Nat} {hi : Int} (ho : slcI ops N E a i = some (d, T, .slice A l.length cap, none, some (.int .i64 hi))) (hT : SlTy P T e k) (he : EncOk k enc) (hO : Ow k enc U w fp A cap l)
    (hc : l.length ≤ cap) (hs : slci l 0 hi = some l') (kk : l' = l.take hi.toNat → Ow k enc U w fp A cap l' → wS P ops Q N (i + 1) ((d, .slice A l'.length cap) :: E) a w) : wS P ops Q N i E a w := by
  obtain ⟨⟨_, h1, h2⟩, rfl⟩ := slci_some hs
  unfold slcI at ho
  split at ho
  · rename_i d' T' x lo' hi' hat
    simp only [Option.some.injEq, Prod.mk.injEq] at ho
    obtain ⟨rfl, rfl, hx, hl', hh'⟩ := ho
    obtain ⟨g1, g2, g3⟩ := atI_spec hat
    obtain ⟨hi, rfl⟩ := Int.eq_ofNat_of_zero_le h1
    simp only [Int.toNat_natCast, Int.toNat_zero, List.drop_zero] at kk
    have hhi : hi ≤ l.length := by omega
    have hlen : (l.take hi).length = hi := by rw [List.length_take]; omega
    have hkk := kk trivial (hO.prefix he hi)
    rw [hlen] at hkk
    refine wS_val g1 g2 (g3 _ rfl) (fun o ho => ?_) hkk
    have hsz := pureRun_run hT.size w
    have hb1 := slc_bounds (P := P) w hhi hc
    have hA : (if cap = 0 then A else A.map (·.add (0 * k))) = A := by
      split
      · rfl
      · cases A with
        | none => rfl
        | some ad => simp [add_zero]
    simp only [execOp, ho]
    simp [Instr.sliceAt, run_underlying hT.und, hx, hl', hh', Instr.slice, hb1, hsz]
    simpa using hA
  · cases ho
/-- A cut of a slice that will turn: what it reads follows. -/
def slc {α : Type} (l : List α) (lo hi : Int) : List α := (l.take hi.toNat).drop lo.toNat
/-- clear at the rest of a slice of the call's own. -/
def clr {α : Type} (z : α) (l : List α) (lo : Int) : List α := l.take lo.toNat ++ List.replicate (l.length - lo.toNat) z
def clrI (ops : Array Oper) (N : Nat) (E : Env) (a : Act) (i : Nat) : Option (TypeId × Value) :=
  match atI ops N E a i with
  | some (none, .call c) => match c.callee, c.args.toList, c.argTypes.toList with
    | .builtin .clear, [s], [t] => some (t, evE E a s)
    | _, _, _ => none
  | _ => none
end
/-! ### Slices that are nil -/
section
variable {α : Type} {k : Nat} {enc : α → List Value} {T T2 : TypeId} {w : World} {fp fpr : List Nat} {cap : Nat}
theorem Sl.none_nil {l : List α} (h : Sl k enc w fp none l) : l = [] := by
  cases l with
  | nil => rfl
  | cons x r => obtain ⟨_, e, _⟩ := h.cells (by simp); cases e
theorem Ow.none_nil {l : List α} (h : Ow k enc T w fp none cap l) : l = [] := by
  rcases h.is with ⟨_, e, _⟩ | ⟨g, cs, e, _⟩
  · exact e
  · cases e
theorem SlR.none_nil {ll : List (List α)} (h : SlR k enc w fp none ll) : ll = [] := by
  cases ll with
  | nil => rfl
  | cons x r => have := (h.is (i := 0) (l := x) rfl).1; cases this
end
end Go.Proofs.YtbfjekmefcpkmaaDoor
