/- A slice that is a full view of what came in, or the call's own. -/
import Derived.Test.YtbfjekmefcpkmaaDoorFull
set_option linter.unusedSimpArgs false
set_option linter.unusedVariables false
set_option linter.unusedSectionVars false
namespace Go.Proofs.YtbfjekmefcpkmaaDoor
open Go.RowKit
def neC {α : Type} (l : List α) : Option Unit := chk (!l.isEmpty)
structure Mx {α : Type} (k : Nat) (enc : α → List Value) (T : TypeId) (w : World) (fpP fp : List Nat) (A : Option Addr) (cap : Nat) (l : List α) : Prop where
 lowP : ∀ b ∈ fpP, b < w.heap.size
 is : (fp = [] ∧ cap = l.length ∧ Sl k enc w fpP A l) ∨ Ow k enc T w fp A cap l
section
variable {α : Type} {k : Nat} {enc : α → List Value} {T : TypeId} {w w' : World} {fpP fp S : List Nat} {A : Option Addr} {cap : Nat} {l : List α}
theorem Mx.chg (h : Mx k enc T w fpP fp A cap l) (hc : Chg S w w') (hP : Dj fpP S) (hn : Dj fp S) : Mx k enc T w' fpP fp A cap l :=
 ⟨fun b hb => Nat.lt_of_lt_of_le (h.lowP b hb) hc.size, h.is.imp (fun ⟨h1, h2, h3⟩ => ⟨h1, h2, h3.chg hc hP⟩) (fun h => h.chg hc hn)⟩
theorem Mx.low (h : Mx k enc T w fpP fp A cap l) : ∀ b ∈ fp, b < w.heap.size := by
 rcases h.is with ⟨rfl, _, _⟩ | h
 ·intro b hb; cases hb
 ·exact h.low
theorem Mx.sl (h : Mx k enc T w fpP fp A cap l) (he : EncOk k enc) : Sl k enc w (fpP ++ fp) A l := by
 have hl : ∀ b ∈ fpP ++ fp, b < w.heap.size := fun b hb => (List.mem_append.1 hb).elim (h.lowP b) (h.low b)
 rcases h.is with ⟨_, _, h3⟩ | h3
 ·exact h3.fpMore (fun b hb => List.mem_append_left _ hb) hl
 ·exact (h3.sl he).fpMore (fun b hb => List.mem_append_right _ hb) hl
theorem Mx.nil (h : ∀ b ∈ fpP, b < w.heap.size) : Mx k enc T w fpP [] none 0 ([] : List α) := ⟨h, Or.inr (Ow.nil w)⟩
theorem Sl.front (h : Sl k enc w fp A l) (n : Nat) : Sl k enc w fp A (l.take n) := by
 refine ⟨h.low, fun hl => ?_⟩
 obtain ⟨ad, hA, hfp, hc⟩ := h.cells (by rw [List.length_take] at hl; omega)
 refine ⟨ad, hA, hfp, fun i x hx => hc i x ?_⟩
 rw [List.getElem?_take] at hx
 split at hx
 ·exact hx
 ·cases hx
end
section
variable {α : Type} {k : Nat} {enc : α → List Value} {P : Program} {ops : Array Oper} {Q : Exit → Act → World → Prop} {N i : Nat} {E : Env} {a : Act} {w : World}
end
end Go.Proofs.YtbfjekmefcpkmaaDoor
