/- Which lists are joins: the program's reckoning and the reference's come to one word. -/
import Derived.Test.YtfjpfomdoohabaaPuBj3
set_option linter.unusedSimpArgs false
set_option linter.unusedVariables false
namespace Go.Proofs.Ytfjpfomdoohabaa
open Go.RowKit

/-- x stands in one of the first k pairs. -/
def Used (l : List (List Int)) (k : Nat) (x : Int) : Prop := ∃ j, j < k ∧ ∃ r, l[j]? = some r ∧ x ∈ r
/-- Pair number k is a pair of nodes that are there and not yet joined. -/
def Gd (p : Int) (l : List (List Int)) (k : Nat) : Prop := ∃ a b, l[k]? = some [a, b] ∧ 0 ≤ a ∧ a < b ∧ b < p + k ∧ ¬ Used l k a ∧ ¬ Used l k b
def IsJ (p : Int) (l : List (List Int)) : Prop := (2 ≤ p ∧ p ≤ 12) ∧ (l.length : Int) = p - 1 ∧ ∀ k, k < l.length → Gd p l k
open Classical in
noncomputable def joinsB (p : Int) (l : List (List Int)) : Bool := decide (IsJ p l)
open Classical in
theorem joinsB_iff {p : Int} {l : List (List Int)} : joinsB p l = true ↔ IsJ p l := by simp [joinsB]
theorem Used.succ {l : List (List Int)} {k : Nat} {a b : Int} (h : l[k]? = some [a, b]) (x : Int) : Used l (k + 1) x ↔ (Used l k x ∨ x = a ∨ x = b) := by
  constructor
  · rintro ⟨j, hj, r, h1, h2⟩
    by_cases e : j = k
    · subst e
      rw [h] at h1; cases h1
      right; simpa using h2
    · exact Or.inl ⟨j, by omega, r, h1, h2⟩
  · rintro (⟨j, hj, r, h1, h2⟩ | h2)
    · exact ⟨j, by omega, r, h1, h2⟩
    · exact ⟨k, by omega, _, h, by simpa using h2⟩
theorem len2 {α : Type} {r : List α} (h : (r.length : Int) = 2) : ∃ a b, r = [a, b] := by
  match r, h with
  | [a, b], _ => exact ⟨a, b, rfl⟩
  | [], h => simp at h
  | [_], h => simp at h
  | _ :: _ :: _ :: _, h => simp only [List.length_cons] at h; omega
theorem Gd.none {p : Int} {l : List (List Int)} {k : Nat} {r : List Int} (hr : l[k]? = some r) (h : (r.length : Int) ≠ 2) : ¬ Gd p l k := by
  rintro ⟨a, b, h1, _⟩
  rw [h1] at hr; cases hr; exact h rfl
theorem Gd.at {p : Int} {l : List (List Int)} {k : Nat} {a b : Int} (hr : l[k]? = some [a, b]) (h : Gd p l k) : 0 ≤ a ∧ a < b ∧ b < p + k ∧ ¬ Used l k a ∧ ¬ Used l k b := by
  obtain ⟨a', b', h1, h2⟩ := h
  rw [h1] at hr; cases hr; exact h2
open Classical in
/-- The program's loop. -/
theorem implJ_loop {p : Int} {l : List (List Int)} (hp : 2 ≤ p ∧ p ≤ 12) (hl : (l.length : Int) = p - 1) :
    ∃ r, loopM (m_impl_IsJoins_s1 p l) (0, ([] : List (Int × Bool))) = some r ∧ ((∀ k, k < l.length → Gd p l k) ∧ r = Sum.inl () ∨ (¬ ∀ k, k < l.length → Gd p l k) ∧ r = Sum.inr false) := by
  refine loopM_count _ l.length (fun k s => s.1 = (k : Int) ∧ (∀ x, ((mget s.2 x).getD false = true ↔ Used l k x)) ∧ ∀ j, j < k → Gd p l j) _ ⟨rfl, fun x => ?_, fun j hj => by omega⟩ ?_ ?_
  · constructor
    · intro h; simp [mget] at h
    · rintro ⟨j, hj, _⟩; omega
  · rintro k ⟨i, m⟩ hk ⟨hi, hm, hg⟩
    simp only at hi hm
    subst hi
    unfold m_impl_IsJoins_s1
    simp only []
    rw [bif_t (by simpa using hk), geti_lt hk]
    simp only [bind_some']
    have hat : l[k]? = some l[k] := List.getElem?_eq_getElem hk
    generalize l[k] = r at hat ⊢
    by_cases h2 : (r.length : Int) = 2
    · obtain ⟨a, b, rfl⟩ := len2 h2
      rw [bif_f (by simp)]
      simp only [geti20, geti21, bind_some']
      have bad : ¬ Gd p l k → ∀ x : Option (Ctl (Int × (List (Int × Bool))) (Sum Unit Bool)), x = some (Ctl.out (Sum.inr false)) → (∃ s', x = some (Ctl.next s') ∧ (s'.1 = ((k + 1 : Nat) : Int) ∧ (∀ x, ((mget s'.2 x).getD false = true ↔ Used l (k + 1) x)) ∧ ∀ j, j < k + 1 → Gd p l j)) ∨
          ∃ r, x = some (Ctl.out r) ∧ ((∀ k, k < l.length → Gd p l k) ∧ r = Sum.inl () ∨ (¬ ∀ k, k < l.length → Gd p l k) ∧ r = Sum.inr false) :=
        fun h x hx => Or.inr ⟨_, hx, Or.inr ⟨fun hall => h (hall k hk), rfl⟩⟩
      by_cases c1 : a < 0
      · rw [bif_t (by simpa using c1)]
        exact bad (fun h => by have := h.at hat; omega) _ rfl
      rw [bif_f (by simpa using c1)]
      by_cases c2 : a ≥ b
      · rw [bif_t (by simpa using c2)]
        exact bad (fun h => by have := h.at hat; omega) _ rfl
      rw [bif_f (by simpa using c2), wr_in (x := p + (k : Int)) (by omega)]
      by_cases c3 : b ≥ p + (k : Int)
      · rw [bif_t (by simpa using c3)]
        exact bad (fun h => by have := h.at hat; omega) _ rfl
      rw [bif_f (by simpa using c3)]
      have ka : okI a = true := okI_iff.2 (by omega)
      have kb : okI b = true := okI_iff.2 (by omega)
      have ga : ∀ m : List (Int × Bool), mgC (okI a) false m a = some ((mget m a).getD false) := fun m => by unfold mgC; rw [if_pos ka]
      have gb : ∀ m : List (Int × Bool), mgC (okI b) false m b = some ((mget m b).getD false) := fun m => by unfold mgC; rw [if_pos kb]
      have pa : mpC (okI a) = some () := by unfold mpC; rw [if_pos ka]
      have pb : mpC (okI b) = some () := by unfold mpC; rw [if_pos kb]
      simp only [ga, gb, pa, pb, bind_some']
      by_cases c4 : Used l k a
      · rw [bif_t ((hm a).2 c4)]
        exact bad (fun h => (h.at hat).2.2.2.1 c4) _ rfl
      rw [bif_f (by have := hm a; cases h : (mget m a).getD false; rfl; exact absurd (this.1 h) c4)]
      by_cases c5 : Used l k b
      · rw [bif_t ((hm b).2 c5)]
        exact bad (fun h => (h.at hat).2.2.2.2 c5) _ rfl
      rw [bif_f (by have := hm b; cases h : (mget m b).getD false; rfl; exact absurd (this.1 h) c5)]
      refine Or.inl ⟨_, rfl, by rw [wr_in (by omega)]; simp, fun x => ?_, fun j hj => ?_⟩
      · have e : mget (mset (ment false (mset (ment false m a) a true) b) b true) x = if x = b then some true else if x = a then some true else mget m x := by
          rw [show mset (ment false (mset (ment false m a) a true) b) b true = mput false (mput false m a true) b true from rfl, mget_mput, mget_mput]
        rw [Used.succ hat, e, ← hm x]
        by_cases e1 : x = b
        · simp [e1]
        · by_cases e2 : x = a
          · simp [e1, e2]
          · simp [e1, e2]
      · by_cases e : j = k
        · subst e
          exact ⟨a, b, hat, by omega, by omega, by omega, c4, c5⟩
        · exact hg j (by omega)
    · rw [bif_t (by simpa using h2)]
      exact Or.inr ⟨_, rfl, Or.inr ⟨fun hall => Gd.none hat h2 (hall k hk), rfl⟩⟩
  · rintro ⟨i, m⟩ ⟨hi, hm, hg⟩
    simp only at hi
    subst hi
    unfold m_impl_IsJoins_s1
    simp only []
    rw [bif_f (by simp)]
    exact ⟨_, rfl, Or.inl ⟨hg, rfl⟩⟩
theorem implJ_eq (p : Int) (l : List (List Int)) : m_impl_IsJoins p l = some (joinsB p l) := by
  unfold m_impl_IsJoins
  rw [implIn_eq]
  simp only [bind_some']
  by_cases h1 : 2 ≤ p ∧ p ≤ 12
  · rw [bif_f (by simp [h1.1, h1.2]), wr_in (x := p - 1) (by omega)]
    by_cases h2 : (l.length : Int) = p - 1
    · rw [bif_f (by simp [h2])]
      obtain ⟨r, h3, ⟨h4, rfl⟩ | ⟨h4, rfl⟩⟩ := implJ_loop h1 h2
      · rw [h3]; simp only [bind_some']; congr 1; symm; exact joinsB_iff.2 ⟨h1, h2, h4⟩
      · rw [h3]; unfold joinsB; simp only [bind_some']; congr 1; symm; rw [decide_eq_false_iff_not]; exact fun h => h4 h.2.2
    · rw [bif_t (by simp [h2])]
      congr 1; symm; unfold joinsB; rw [decide_eq_false_iff_not]; exact fun h => h2 h.2.1
  · rw [bif_t (by simp; omega)]
    congr 1; symm; unfold joinsB; rw [decide_eq_false_iff_not]; exact fun h => h1 h.1
end Go.Proofs.Ytfjpfomdoohabaa
