/- What is handed back to be read, and slices in boxes that turn: whose blocks are they? -/
import Derived.Test.YtbfjekmefcpkmaaDoorBit
set_option linter.unusedSimpArgs false
set_option linter.unusedVariables false
set_option linter.unusedSectionVars false
namespace Go.Proofs.YtbfjekmefcpkmaaDoor
open Go.RowKit

def Rt (n : Nat) (P fp : List Nat) : Prop := ∀ x ∈ fp, x ∈ P ∨ n ≤ x
section
variable {n m : Nat} {P Q a b fp : List Nat}
theorem Rt.low (h : ∀ x ∈ fp, n ≤ x) : Rt n P fp := fun x hx => Or.inr (h x hx)
theorem Rt.mem (h : ∀ x ∈ fp, x ∈ P) : Rt n P fp := fun x hx => Or.inl (h x hx)
theorem Rt.refl : Rt n fp fp := fun x hx => Or.inl hx
theorem Rt.nil : Rt n P [] := fun x hx => nomatch hx
theorem Rt.app (h : Rt n P a) (k : Rt n P b) : Rt n P (a ++ b) := fun x hx => (List.mem_append.1 hx).elim (h x) (k x)
theorem Rt.of (h : Rt m Q fp) (hz : n ≤ m) (hQ : Rt n P Q) : Rt n P fp := fun x hx => (h x hx).elim (hQ x) (fun h => Or.inr (Nat.le_trans hz h))
theorem Rt.lowof (h : Rt m Q fp) (hz : n ≤ m) (hQ : ∀ x ∈ Q, n ≤ x) : ∀ x ∈ fp, n ≤ x := fun x hx => (h x hx).elim (hQ x) (fun h => Nat.le_trans hz h)
theorem Rt.dj (h : Rt m Q fp) (hp : ∀ x ∈ a, x < m) (hd : Dj a Q) : Dj a fp := fun x hx hy => (h x hy).elim (hd x hx) (fun h => Nat.lt_irrefl _ (Nat.lt_of_lt_of_le (hp x hx) h))
theorem inRt {S : List Nat} (h : Rt n P fp) (hm : ∀ x ∈ P, x ∈ S) : ∀ x ∈ fp, x ∈ S ∨ n ≤ x := fun x hx => (h x hx).imp (hm x) id
end
section
variable {α : Type} {k : Nat} {enc : α → List Value} {w : World} {T : TypeId} {fp : List Nat} {A : Option Addr} {cap : Nat} {l : List α}
theorem Ow.isNone (h : Ow k enc T w fp A cap l) (hl : 0 < l.length) : A.isNone = false := by
 rcases h.is with ⟨_, rfl, _, _⟩ | ⟨g, cs, rfl, _⟩
 ·simp at hl
 ·rfl
end
section
variable {P : Program} {ops : Array Oper} {Q : Exit → Act → World → Prop} {N i : Nat} {E : Env} {a : Act} {w : World} {α : Type} {k : Nat} {enc : α → List Value}
theorem eX_fall {fn : Func} {R : Ending → World → Prop} {vs : List Value} (rs : List ResultVar) (hrs : fn.results = rs.toArray) (h : ResAll P E a w rs vs) (k : R (.returned (retV vs)) w) : eX .normal (bodyPost P fn R) N E a w := by
 have := eX_ret (N := N) rs hrs h k
 exact this
end
end Go.Proofs.YtbfjekmefcpkmaaDoor
