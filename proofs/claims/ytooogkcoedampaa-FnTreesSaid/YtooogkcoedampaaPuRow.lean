/- Lists of lists: they are weighed, copied, compared, marked. -/
import Derived.Test.YtooogkcoedampaaPuP0
set_option linter.unusedSimpArgs false
set_option linter.unusedVariables false
namespace Go.Proofs.Ytooogkcoedampaa
open Go.RowKit

theorem Laid.all' {α : Type} {l acc : List α} {n : Nat} (h : Laid l acc n) (hn : l.length = n) : acc = l := by subst hn; exact h.all
def seqI (k : Int) (n : Nat) : List Int := (List.range n).map fun (j : Nat) => k + (j : Int)
theorem seqI_len (k : Int) (n : Nat) : (seqI k n).length = n := by simp [seqI]
theorem seqI_at {k : Int} {n i : Nat} (h : i < (seqI k n).length) : (seqI k n)[i] = k + i := by simp [seqI]
def offs (k : Int) (l : List (List Int)) : Nat → Int
  | 0 => k
  | i + 1 => offs k l i + (l.getD i []).length
def tgt (k : Int) (l : List (List Int)) : List (List Int) := (List.range l.length).map fun (i : Nat) => seqI (offs k l i) (l.getD i []).length
theorem tgt_len (k : Int) (l : List (List Int)) : (tgt k l).length = l.length := by simp [tgt]
theorem tgt_at {k : Int} {l : List (List Int)} {i : Nat} (h : i < (tgt k l).length) : (tgt k l)[i] = seqI (offs k l i) (l.getD i []).length := by simp [tgt]
theorem offs_le {k : Int} {l : List (List Int)} (hr : ∀ r ∈ l, r.length ≤ 1048576) : ∀ i, i ≤ l.length → k ≤ offs k l i ∧ offs k l i ≤ k + 1048576 * i
  | 0, _ => by simp [offs]
  | i + 1, h => by
    have h1 := offs_le (k := k) hr i (by omega)
    have h2 := hr _ (List.getElem_mem (show i < l.length by omega))
    have e : l.getD i [] = l[i] := by simp [List.getD, List.getElem?_eq_getElem (show i < l.length by omega)]
    show k ≤ offs k l i + _ ∧ offs k l i + _ ≤ _
    rw [e]; omega
theorem getD_lt {l : List (List Int)} {i : Nat} (h : i < l.length) : l.getD i [] = l[i] := by simp [List.getD, List.getElem?_eq_getElem h]
/-! ### Lists of lists of points -/
end Go.Proofs.Ytooogkcoedampaa
