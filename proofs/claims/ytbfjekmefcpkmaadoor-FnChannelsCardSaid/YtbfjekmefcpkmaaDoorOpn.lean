/- Arguments that are slices: from what a statement hands in to 'Sl' and 'SlR'. -/
import Derived.Test.YtbfjekmefcpkmaaDoorRw2
import Derived.Test.YtbfjekmefcpkmaaDoorLift
import Derived.Deep.SlicePairs
import Derived.Deep.Matrix
set_option linter.unusedSimpArgs false
set_option linter.unusedVariables false
namespace Go.Proofs.YtbfjekmefcpkmaaDoor
open Go.ChangeShapes Go.WideShapes Go.ChangeAt Go.RowKit Go.Joins

def In64 (n : Int) : Prop := -9223372036854775808 ≤ n ∧ n < 9223372036854775808
theorem Sl.nil_ {α : Type} {k : Nat} {enc : α → List Value} {w : World} {A : Option Addr} : Sl k enc w [] A [] := ⟨fun _ h => absurd h List.not_mem_nil, fun h => absurd h (Nat.lt_irrefl 0)⟩
theorem Sl.of {α : Type} {k : Nat} {enc : α → List Value} {w : World} {a : Addr} {l : List α} (hb : 0 < l.length → a.block < w.heap.size) (h : ∀ i x, l[i]? = some x → ∀ j u, (enc x)[j]? = some u → w.cell? ((a.add (i * k)).add j) = some u) :
  ∃ fp, Sl k enc w fp (some a) l ∧ (∀ b ∈ fp, b = a.block) := by
 by_cases h0 : 0 < l.length
 ·exact ⟨[a.block], ⟨fun b hb' => by simp at hb'; subst hb'; exact hb h0, fun _ => ⟨a, rfl, by simp, h⟩⟩, fun b hb => by simpa using hb⟩
 ·exact ⟨[], ⟨fun _ h => absurd h List.not_mem_nil, fun h => absurd h h0⟩, fun b hb => absurd hb List.not_mem_nil⟩
section
variable {H : Type} {enc : TypeId × Value → H} {P : Program} {W : World} {hd : Bool} {n : Nat} {x : DataW H × List MemPlace} {v : Value} {t e : TypeId}
end
end Go.Proofs.YtbfjekmefcpkmaaDoor
