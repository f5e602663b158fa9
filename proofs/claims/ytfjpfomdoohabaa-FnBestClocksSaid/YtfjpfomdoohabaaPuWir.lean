/- Wirings: valid ones, layerings, costs: what the reference and the program reckon is the same. -/
import Derived.Test.YtfjpfomdoohabaaMod
import Derived.Test.YtfjpfomdoohabaaPuLp
set_option linter.unusedSimpArgs false
set_option linter.unusedVariables false
namespace Go.Proofs.Ytfjpfomdoohabaa
open Go.RowKit

theorem in_eq (n a b : Int) : m_spec_l00In n a b = some (decide (a ≤ n) && decide (n ≤ b)) := by
  unfold m_spec_l00In
  by_cases h : a ≤ n
  · rw [bif_t (by simpa using h)]; simp [h]
  · rw [bif_f (by simpa using h)]; simp [h]
theorem in_eq' (n a b : Int) : m_impl_in n a b = some (decide (a ≤ n) && decide (n ≤ b)) := by
  unfold m_impl_in
  by_cases h : a ≤ n
  · rw [bif_t (by simpa using h)]; simp [h]
  · rw [bif_f (by simpa using h)]; simp [h]
/-! ### Lists in order -/
def cmpL : List Int → List Int → Int
  | [], [] => 0
  | [], _ :: _ => -1
  | _ :: _, [] => 1
  | x :: l, y :: m => if x < y then -1 else if x > y then 1 else cmpL l m
theorem drop_all {l : List Int} {k : Nat} (h : l.length ≤ k) : l.drop k = [] := List.drop_eq_nil_of_le h
theorem drop_at {l : List Int} {k : Nat} (h : k < l.length) : l.drop k = l[k] :: l.drop (k + 1) := List.drop_eq_getElem_cons h
/-! ### Lists of segments -/
def gI (l : List Int) (k : Nat) : Int := l.getD k 0
def gR (ll : List (List Int)) (k : Nat) : List Int := ll.getD k []
theorem gI_at {l : List Int} {k : Nat} (h : k < l.length) : gI l k = l[k] := by unfold gI; simp [h]
theorem gR_at {ll : List (List Int)} {k : Nat} (h : k < ll.length) : gR ll k = ll[k] := by unfold gR; simp [h]
theorem geti_gI {l : List Int} {k : Nat} (h : k < l.length) : geti l (k : Int) = some (gI l k) := by rw [geti_lt h, gI_at h]
theorem geti_gI' {l : List Int} {x : Int} (h0 : 0 ≤ x) (h : x < l.length) : geti l x = some (gI l x.toNat) := by
  obtain ⟨k, rfl⟩ := Int.eq_ofNat_of_zero_le h0
  rw [geti_gI (by omega)]; simp
def okRow (n : Int) (m : Nat) (x : List Int) : Bool := decide (x.length = m) && (decide (0 ≤ gI x 0) && (decide (gI x 0 < gI x 1) && decide (gI x 1 < n)))
def okCost (x : List Int) : Bool := decide (0 ≤ gI x 2) && decide (gI x 2 ≤ 1000)
def badR (n : Int) (m : Nat) (l : List (List Int)) (k : Nat) : Bool := !okRow n m (gR l k) || (decide (0 < k) && !decide (cmpL (gR l (k - 1)) (gR l k) < 0))
def pairsV (n : Int) (m : Nat) (l : List (List Int)) : Bool := !anyIn 0 l.length (badR n m l) && decide (l.length ≤ 30)
def costsV (l : List (List Int)) : Bool := !anyIn 0 l.length (fun k => !okCost (gR l k))
theorem anyIn_or (a n : Nat) (p q : Nat → Bool) : anyIn a n (fun k => p k || q k) = (anyIn a n p || anyIn a n q) := by
  cases hp : anyIn a n p with
  | true => obtain ⟨k, h1, h2, h3⟩ := anyIn_t.1 hp; rw [anyIn_t.2 ⟨k, h1, h2, by simp [h3]⟩]; rfl
  | false =>
    cases hq : anyIn a n q with
    | true => obtain ⟨k, h1, h2, h3⟩ := anyIn_t.1 hq; rw [anyIn_t.2 ⟨k, h1, h2, by simp [h3]⟩]; rfl
    | false => rw [anyIn_f.2 (fun k h1 h2 => by rw [anyIn_f.1 hp k h1 h2, anyIn_f.1 hq k h1 h2]; rfl)]; rfl
theorem anyIn_congr {a n : Nat} {p q : Nat → Bool} (h : ∀ k, a ≤ k → k < n → p k = q k) : anyIn a n p = anyIn a n q := by
  cases hq : anyIn a n q with
  | true => obtain ⟨k, h1, h2, h3⟩ := anyIn_t.1 hq; rw [anyIn_t.2 ⟨k, h1, h2, by rw [h k h1 h2]; exact h3⟩]
  | false => exact anyIn_f.2 (fun k h1 h2 => by rw [h k h1 h2]; exact anyIn_f.1 hq k h1 h2)
def fixV (f : List Int) : Bool := !anyIn 0 f.length (fun k => !(decide (-1 ≤ gI f k) && decide (gI f k ≤ 1)))
def validV (n : Int) (c j : List (List Int)) (f : List Int) : Bool := decide (0 ≤ n) && decide (n ≤ 14) && (decide ((f.length : Int) = n) && (fixV f && (pairsV n 2 c && (pairsV n 3 j && costsV j))))
theorem pairsV_len {n : Int} {m : Nat} {l : List (List Int)} (h : pairsV n m l = true) : l.length ≤ 30 ∧ ∀ k, k < l.length → okRow n m (gR l k) = true := by
  unfold pairsV at h
  rw [Bool.and_eq_true, Bool.not_eq_true', decide_eq_true_eq] at h
  refine ⟨h.2, fun k hk => ?_⟩
  have := anyIn_f.1 h.1 k (by omega) hk
  unfold badR at this
  simp only [Bool.or_eq_false_iff, Bool.not_eq_false'] at this
  exact this.1
theorem okRow_t {n : Int} {m : Nat} {x : List Int} (h : okRow n m x = true) : x.length = m ∧ 0 ≤ gI x 0 ∧ gI x 0 < gI x 1 ∧ gI x 1 < n := by
  unfold okRow at h; simp only [Bool.and_eq_true, decide_eq_true_eq] at h; exact h
theorem validV_t {n : Int} {c j : List (List Int)} {f : List Int} (h : validV n c j f = true) : (0 ≤ n ∧ n ≤ 14) ∧ (f.length : Int) = n ∧ pairsV n 2 c = true ∧ pairsV n 3 j = true ∧ costsV j = true := by
  unfold validV at h; simp only [Bool.and_eq_true, decide_eq_true_eq] at h
  exact ⟨h.1, h.2.1, h.2.2.2.1, h.2.2.2.2.1, h.2.2.2.2.2⟩
/-! ### Layerings -/
def badL (f l : List Int) (k : Nat) : Bool := !(decide (0 ≤ gI l k) && decide (gI l k ≤ 1)) || (decide (gI f k ≥ 0) && decide (gI f k ≠ gI l k))
def badC (c : List (List Int)) (l : List Int) (k : Nat) : Bool := gI l (gI (gR c k) 0).toNat == gI l (gI (gR c k) 1).toNat
def layV (c : List (List Int)) (f l : List Int) : Bool := !anyIn 0 l.length (badL f l) && !anyIn 0 c.length (badC c l)
def isLayV (n : Int) (c j : List (List Int)) (f l : List Int) : Bool := validV n c j f && (decide ((l.length : Int) = n) && layV c f l)
/-! ### Costs -/
def costF (j : List (List Int)) (l : List Int) : Nat → Int
  | 0 => 0
  | k + 1 => costF j l k + if gI l (gI (gR j k) 0).toNat ≠ gI l (gI (gR j k) 1).toNat then gI (gR j k) 2 else 0
theorem costF_b {j : List (List Int)} {l : List Int} (h : costsV j = true) : ∀ k, k ≤ j.length → 0 ≤ costF j l k ∧ costF j l k ≤ 1000 * k
  | 0, _ => by simp [costF]
  | k + 1, hk => by
    have ih := costF_b (l := l) h k (by omega)
    unfold costsV at h
    rw [Bool.not_eq_true'] at h
    have := anyIn_f.1 h k (by omega) (by omega)
    unfold okCost at this
    simp only [Bool.not_eq_false', Bool.and_eq_true, decide_eq_true_eq] at this
    rw [costF]
    split <;> omega
def costV (n : Int) (c j : List (List Int)) (f l : List Int) : Int × Bool := if isLayV n c j f l then (costF j l j.length, true) else (0, false)
end Go.Proofs.Ytfjpfomdoohabaa
