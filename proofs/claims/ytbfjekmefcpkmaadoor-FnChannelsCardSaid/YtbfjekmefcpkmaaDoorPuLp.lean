/- Loops that look through a list: no function of the program in sight. -/
import Derived.Test.YtbfjekmefcpkmaaDoorPur
import Derived.Test.YtbfjekmefcpkmaaDoorRw2
set_option linter.unusedSimpArgs false
set_option linter.unusedVariables false
namespace Go.Proofs.YtbfjekmefcpkmaaDoor
open Go.RowKit

/-- Is there a k from a on, below n, of this kind? -/
def anyIn (a n : Nat) (p : Nat → Bool) : Bool := (List.range' a (n - a)).any p
theorem anyIn_t {a n : Nat} {p : Nat → Bool} : anyIn a n p = true ↔ ∃ k, a ≤ k ∧ k < n ∧ p k = true := by
 unfold anyIn
 rw [List.any_eq_true]
 constructor
 ·rintro ⟨k, hk, hp⟩
  rw [List.mem_range'_1] at hk
  exact ⟨k, hk.1, by omega, hp⟩
 ·rintro ⟨k, h1, h2, hp⟩
  exact ⟨k, by rw [List.mem_range'_1]; omega, hp⟩
theorem anyIn_f {a n : Nat} {p : Nat → Bool} : anyIn a n p = false ↔ ∀ k, a ≤ k → k < n → p k = false := by
 constructor
 ·intro h k h1 h2
  cases hp : p k with
  | false => rfl
  | true => rw [anyIn_t.2 ⟨k, h1, h2, hp⟩] at h; cases h
 ·intro h
  cases hp : anyIn a n p with
  | false => rfl
  | true => obtain ⟨k, h1, h2, h3⟩ := anyIn_t.1 hp; rw [h k h1 h2] at h3; cases h3
/-- A loop that looks for a bad one. -/
theorem loop_any {R : Type} {step : Int → Option (Ctl Int (Sum Unit R))} (a n : Nat) (p : Nat → Bool) (v : R) (han : a ≤ n)
  (hs : ∀ k, a ≤ k → k < n → (∀ j, a ≤ j → j < k → p j = false) → step (k : Int) = some (if p k then .out (.inr v) else .next ((k + 1 : Nat) : Int))) (hn : step (n : Int) = some (.out (.inl ()))) :
  loopM step (a : Int) = some (if anyIn a n p then .inr v else .inl ()) := by
 refine loopM_val step (n - a) (fun k s => s = ((a + k : Nat) : Int) ∧ ∀ j, a ≤ j → j < a + k → p j = false) ⟨rfl, fun j _ _ => by omega⟩ ?_ ?_
 ·rintro k _ hk ⟨rfl, hall⟩
  rw [hs (a + k) (by omega) (by omega) hall]
  cases hp : p (a + k) with
  | true => right; rw [if_pos rfl, anyIn_t.2 ⟨a + k, by omega, by omega, hp⟩]; rfl
  | false =>
   left
   refine ⟨((a + k + 1 : Nat) : Int), rfl, rfl, fun j h1 h2 => ?_⟩
   by_cases e : j = a + k
   ·subst e; exact hp
   ·exact hall j h1 (by omega)
 ·rintro _ ⟨rfl, hall⟩
  rw [show a + (n - a) = n by omega] at hall ⊢
  rw [hn, anyIn_f.2 (fun k h1 h2 => hall k h1 h2)]; rfl
/-- A loop that looks for the first of a kind. -/
theorem loop_find {R : Type} {step : Int → Option (Ctl Int (Sum Unit R))} (n : Nat) (p : Nat → Bool) (g : Nat → R)
  (hs : ∀ k, k < n → step (k : Int) = some (if p k then .out (.inr (g k)) else .next ((k + 1 : Nat) : Int))) (hn : step (n : Int) = some (.out (.inl ()))) :
  (anyIn 0 n p = false ∧ loopM step 0 = some (.inl ())) ∨ ∃ k, k < n ∧ p k = true ∧ (∀ j, j < k → p j = false) ∧ loopM step 0 = some (.inr (g k)) := by
 obtain ⟨r, hr, hJ⟩ := loopM_count step n (fun k s => s = (k : Int) ∧ ∀ j, j < k → p j = false)
  (fun r => (anyIn 0 n p = false ∧ r = .inl ()) ∨ ∃ k, k < n ∧ p k = true ∧ (∀ j, j < k → p j = false) ∧ r = .inr (g k)) (s0 := 0) ⟨rfl, fun j h => by omega⟩ (by
   rintro k _ hk ⟨rfl, hall⟩
   rw [hs k hk]
   cases hp : p k with
   | true => right; exact ⟨_, rfl, Or.inr ⟨k, hk, hp, hall, rfl⟩⟩
   | false =>
    left
    refine ⟨_, rfl, rfl, fun j hj => ?_⟩
    by_cases e : j = k
    ·subst e; exact hp
    ·exact hall j (by omega)) (by
   rintro _ ⟨rfl, hall⟩
   exact ⟨_, hn, Or.inl ⟨anyIn_f.2 (fun k _ h => hall k h), rfl⟩⟩)
 rcases hJ with ⟨h1, rfl⟩ | ⟨k, h1, h2, h3, rfl⟩
 ·exact Or.inl ⟨h1, hr⟩
 ·exact Or.inr ⟨k, h1, h2, h3, hr⟩
theorem slci_take {α : Type} {l : List α} {k : Nat} (h : k ≤ l.length) : slci l 0 (k : Int) = some (l.take k) := by unfold slci; rw [if_pos (by omega)]; simp
end Go.Proofs.YtbfjekmefcpkmaaDoor
