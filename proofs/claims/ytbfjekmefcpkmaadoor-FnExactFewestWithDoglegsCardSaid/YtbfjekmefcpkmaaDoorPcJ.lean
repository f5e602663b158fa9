/- Channels: the order of the nets as the first program fills it, and as the second one lays it. -/
import Derived.Test.YtbfjekmefcpkmaaDoorPcI
set_option linter.unusedSimpArgs false
set_option linter.unusedVariables false
set_option linter.unusedSectionVars false
namespace Go.Proofs.YtbfjekmefcpkmaaDoor
open Go.RowKit

theorem Fil.skip {n i k : Nat} {R h : Nat → Nat → Bool} (hF : Fil n R h i k) (hk : k < n) (hr : R i k = false) : Fil n R h i (k + 1) := fun x y => by
  rw [hF x y, Fil.bef hk]
  constructor
  · rintro ⟨a, b, c, d⟩; exact ⟨a, b, c, .inl d⟩
  · rintro ⟨a, b, c, d | ⟨rfl, rfl⟩⟩
    · exact ⟨a, b, c, d⟩
    · rw [hr] at c; cases c
theorem Fil.add {n i k : Nat} {R h h' : Nat → Nat → Bool} (hF : Fil n R h i k) (hi : i < n) (hk : k < n) (hr : R i k = true) (hh : ∀ x y, h' x y = true ↔ (h x y = true ∨ (x = i ∧ y = k))) : Fil n R h' i (k + 1) := fun x y => by
  rw [hh, hF x y, Fil.bef hk]
  constructor
  · rintro (⟨a, b, c, d⟩ | ⟨rfl, rfl⟩)
    · exact ⟨a, b, c, .inl d⟩
    · exact ⟨hi, hk, hr, .inr ⟨rfl, rfl⟩⟩
  · rintro ⟨a, b, c, d | d⟩
    · exact .inl ⟨a, b, c, d⟩
    · exact .inr d
theorem Fil.row {n i : Nat} {R h : Nat → Nat → Bool} (hF : Fil n R h i n) : Fil n R h (i + 1) 0 := fun x y => by
  rw [hF x y]
  unfold Bef
  constructor
  · rintro ⟨a, b, c, d⟩; exact ⟨a, b, c, by omega⟩
  · rintro ⟨a, b, c, d⟩; exact ⟨a, b, c, by omega⟩
theorem Fil.done {n : Nat} {R h : Nat → Nat → Bool} (hF : Fil n R h n 0) (x y : Nat) : h x y = true ↔ (x < n ∧ y < n ∧ R x y = true) := by
  rw [hF x y]
  unfold Bef
  constructor
  · rintro ⟨a, b, c, d⟩; exact ⟨a, b, c⟩
  · rintro ⟨a, b, c⟩; exact ⟨a, b, c, by omega⟩
section
variable {T U : List Int}
def nN (T U : List Int) : Nat := (netL T U).length
def nmN (T U : List Int) (i : Nat) : Nat := (netL T U).getD i 0
def nmI (T U : List Int) (i : Nat) : Int := ((nmN T U i : Nat) : Int)
def apA (T U : List Int) (i k : Nat) : Bool := decide (i ≠ k) && (decide (loC T U (nmI T U i) ≤ hiC T U (nmI T U k)) && decide (loC T U (nmI T U k) ≤ hiC T U (nmI T U i)))
def abB (T U : List Int) (i k : Nat) : Bool := abv T U (nmI T U i) (nmI T U k)
def OrdI (T U : List Int) (i k : Nat) (f g : Nat → Nat) : Prop := Fil (nN T U) (apA T U) (fun x y => (f x).testBit y) i k ∧ Fil (nN T U) (abB T U) (fun x y => (g y).testBit x) i k
def updO (f : Nat → Nat) (i k : Nat) (b : Bool) : Nat → Nat := if b then fun j => if j = i then f i ||| 2 ^ k else f j else f
theorem upd_bit {f : Nat → Nat} {i k x y : Nat} : (updO f i k true x).testBit y = true ↔ ((f x).testBit y = true ∨ (x = i ∧ y = k)) := by
  unfold updO
  rw [if_pos rfl]
  by_cases e : x = i
  · subst e
    rw [if_pos rfl, or_pow_bit, Bool.or_eq_true, decide_eq_true_eq]
    exact or_congr Iff.rfl ⟨fun h => ⟨rfl, h.symm⟩, fun h => h.2.symm⟩
  · simp only [if_neg e]
    exact ⟨.inl, fun h => h.elim id fun h => absurd h.1 e⟩
def MapIs (T U : List Int) (m : List ((Int × Int) × Bool)) : Prop := ∀ a b : Nat, a ∈ netL T U → b ∈ netL T U → (mget m ((a : Int), (b : Int))).getD false = abv T U (a : Int) (b : Int)
/-- A row that is filled from the left. -/
def part (n k : Nat) (p : Nat → Bool) : List Bool := (List.range n).map fun j => decide (j < k) && p j
theorem part_set {n k : Nat} {p : Nat → Bool} (hk : k < n) : (part n k p).set k (p k) = part n (k + 1) p := by
  refine List.ext_getElem (by simp [part]) fun j h1 h2 => ?_
  rw [List.getElem_set]
  simp only [part, List.getElem_map, List.getElem_range]
  by_cases e : k = j
  · subst e; simp
  · rw [if_neg e]
    have : decide (j < k) = decide (j < k + 1) := decide_eq_decide.2 (by omega)
    rw [this]
theorem part_get {n k j : Nat} {p : Nat → Bool} (hj : j < n) : geti (part n k p) (j : Int) = some (decide (j < k) && p j) := geti_map hj
end
end Go.Proofs.YtbfjekmefcpkmaaDoor
