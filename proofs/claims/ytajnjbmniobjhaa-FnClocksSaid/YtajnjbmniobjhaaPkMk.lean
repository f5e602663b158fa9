/- Plain facts on how the laws mark what they were given and look whether the marks still stand. -/
import Derived.Test.YtajnjbmniobjhaaPkNear
set_option linter.unusedSimpArgs false
set_option linter.unusedVariables false
namespace Go.Proofs.Ytajnjbmniobjhaa
open Go.RowKit

theorem geti_set {α : Type} {l : List α} {i : Nat} {x : α} (h : i < l.length) : geti (l.set i x) (i : Int) = some x := by
  rw [geti_nat, List.getElem?_set_self h]
theorem Laid.all' {α : Type} {l acc : List α} {n : Nat} (h : Laid l acc n) (hn : l.length = n) : acc = l := by subst hn; exact h.all
def seqI (k : Int) (n : Nat) : List Int := (List.range n).map fun (j : Nat) => k + (j : Int)
theorem seqI_len (k : Int) (n : Nat) : (seqI k n).length = n := by simp [seqI]
theorem seqI_at {k : Int} {n i : Nat} (h : i < (seqI k n).length) : (seqI k n)[i] = k + i := by simp [seqI]
end Go.Proofs.Ytajnjbmniobjhaa
