/- Channels: the order of the nets, in both programs. -/
import Derived.Test.YtbfjekmefcpkmaaDoorPcH
set_option linter.unusedSimpArgs false
set_option linter.unusedVariables false
set_option linter.unusedSectionVars false
namespace Go.Proofs.YtbfjekmefcpkmaaDoor
open Go.RowKit

section
variable (T U : List Int)
/-- Must one net be above another one? -/
def abv (a b : Int) : Bool := decide (a ≠ b) && anyIn 0 T.length fun i => T.getD i 0 == a && U.getD i 0 == b
/-- A channel's pins are nets, or none. -/
structure Pins (T U : List Int) : Prop where
  len : U.length = T.length
  small : T.length ≤ 24
  t : ∀ i, i < T.length → 0 ≤ T.getD i 0 ∧ T.getD i 0 ≤ 12
  u : ∀ i, i < T.length → 0 ≤ U.getD i 0 ∧ U.getD i 0 ≤ 12
variable {T U}
theorem mem_cI {l : List Nat} {a : Nat} : (a : Int) ∈ cI l ↔ a ∈ l := by
  unfold cI
  rw [List.mem_map]
  constructor
  · rintro ⟨x, hx, e⟩
    have : x = a := by omega
    exact this ▸ hx
  · intro h; exact ⟨a, h, rfl⟩
end
/-! ### Masks that are filled, pair by pair -/
theorem set_rg {n : Nat} {f : Nat → Nat} {i x : Nat} (hi : i < n) : (rg n f).set i (x : Int) = rg n (fun j => if j = i then x else f j) := by
  refine List.ext_getElem (by simp [rg, cI]) fun j h1 h2 => ?_
  rw [List.getElem_set]
  simp only [rg, cI, List.getElem_map, List.getElem_range]
  by_cases e : i = j
  · subst e; simp
  · rw [if_neg e, if_neg (fun h => e h.symm)]
/-- The pairs before (i, k), row by row. -/
def Bef (i k x y : Nat) : Prop := x < i ∨ (x = i ∧ y < k)
def Fil (n : Nat) (R : Nat → Nat → Bool) (f : Nat → Nat → Bool) (i k : Nat) : Prop := ∀ x y, f x y = true ↔ (x < n ∧ y < n ∧ R x y = true ∧ Bef i k x y)
theorem Fil.bef {n i k : Nat} (hk : k < n) (x y : Nat) : Bef i (k + 1) x y ↔ (Bef i k x y ∨ (x = i ∧ y = k)) := by unfold Bef; omega
theorem rg_get {n : Nat} {f : Nat → Nat} {i : Nat} (h : i < n) : geti (rg n f) (i : Int) = some ((f i : Nat) : Int) := geti_rg h
theorem bits_lt {n x : Nat} (h : ∀ i, x.testBit i = true → i < n) : x < 2 ^ n := by
  apply Nat.lt_pow_two_of_testBit
  intro i hi
  cases hb : x.testBit i with
  | false => rfl
  | true => have := h i hb; omega
end Go.Proofs.YtbfjekmefcpkmaaDoor
