/- Rows that several slices of the call's own share: a zone of rows that nobody writes into. -/
import Derived.Test.YtbfjekmefcpkmaaDoorCpy
import Derived.Test.YtbfjekmefcpkmaaDoorTl2
set_option linter.unusedSimpArgs false
set_option linter.unusedVariables false
set_option linter.unusedSectionVars false
namespace Go.Proofs.YtbfjekmefcpkmaaDoor
open Go.RowKit

def ZLow (w : World) (fp : List Nat) : Prop := ∀ b ∈ fp, b < w.heap.size
section
variable {w w' : World} {fp fp2 S a b z : List Nat}
theorem ZLow.chg (h : ZLow w fp) (hc : Chg S w w') (hn : Dj fp S) : ZLow w' fp := fun x hx => Nat.lt_of_lt_of_le (h x hx) hc.size
theorem ZLow.low (h : ZLow w fp) : ∀ b ∈ fp, b < w.heap.size := h
theorem ZLow.nil : ZLow w [] := fun x hx => nomatch hx
theorem ZLow.app (h : ZLow w fp) (k : ∀ b ∈ fp2, b < w.heap.size) : ZLow w (fp ++ fp2) := fun x hx => (List.mem_append.1 hx).elim (h x) (k x)
end
section
variable {α : Type} {k : Nat} {enc : α → List Value} {w w' : World} {A : Option Addr} {ll : List (List α)} {T T2 : TypeId} {cap : Nat} {fpm fpr x z : List Nat}
end
section
variable {P : Program} {ops : Array Oper} {Q : Exit → Act → World → Prop} {N i : Nat} {E : Env} {a : Act} {w ws : World} {Sg dn : List Nat} {α : Type} {k : Nat} {enc : α → List Value}
end
end Go.Proofs.YtbfjekmefcpkmaaDoor
