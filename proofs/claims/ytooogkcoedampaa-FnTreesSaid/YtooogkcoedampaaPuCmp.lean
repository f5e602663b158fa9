/- How rows are compared. -/
import Derived.Test.YtooogkcoedampaaPuSrt
set_option linter.unusedSimpArgs false
set_option linter.unusedVariables false
namespace Go.Proofs.Ytooogkcoedampaa
open Go.RowKit Go.Sort Go.Shelf

def cmpL : List Int → List Int → Int
  | [], [] => 0
  | [], _ :: _ => -1
  | _ :: _, [] => 1
  | x :: l, y :: m => if x < y then -1 else if x > y then 1 else cmpL l m
theorem drop_all {l : List Int} {k : Nat} (h : l.length ≤ k) : l.drop k = [] := List.drop_eq_nil_of_le h
theorem drop_at {l : List Int} {k : Nat} (h : k < l.length) : l.drop k = l[k] :: l.drop (k + 1) := List.drop_eq_getElem_cons h
theorem Compare_eq (a b : List Int) (hb : a.length ≤ 9223372036854775807) : m_slices_Compare_int64_int64 a b = some (cmpL a b) := by
  unfold m_slices_Compare_int64_int64
  obtain ⟨r, hr, hJ⟩ := loopM_count (m_slices_Compare_int64_int64_s1 a b) a.length (fun k s => s = (k : Int) ∧ k ≤ b.length ∧ cmpL (a.drop k) (b.drop k) = cmpL a b)
    (fun r => r = Sum.inr (cmpL a b) ∨ (r = Sum.inl () ∧ cmpL a b = if a.length < b.length then -1 else 0)) (s0 := 0) ⟨rfl, by omega, rfl⟩ (by
      rintro k _ hk ⟨rfl, hkb, hc⟩
      unfold m_slices_Compare_int64_int64_s1
      simp only []
      rw [bif_t (by simpa using hk), geti_lt hk]
      simp only [bind_some']
      rw [drop_at hk] at hc
      by_cases h1 : k < b.length
      · rw [bif_f (by simp; omega), geti_lt h1]
        simp only [bind_some', cmp_val, cmpI]
        rw [drop_at h1, cmpL] at hc
        by_cases h2 : a[k] < b[k]
        · rw [if_pos h2] at hc
          right
          exact ⟨_, by rw [if_pos h2]; exact bif_t (by rfl), Or.inl (by rw [← hc])⟩
        · rw [if_neg h2] at hc
          by_cases h3 : a[k] > b[k]
          · rw [if_pos h3] at hc
            right
            exact ⟨_, by rw [if_neg h2, if_pos h3]; exact bif_t (by rfl), Or.inl (by rw [← hc])⟩
          · rw [if_neg h3] at hc
            left
            exact ⟨_, by rw [if_neg h2, if_neg h3]; exact bif_f (by rfl), by rw [wr_in (by omega)]; rfl, by omega, hc⟩
      · right
        rw [bif_t (by simp; omega)]
        rw [drop_all (l := b) (by omega)] at hc
        exact ⟨_, rfl, Or.inl (by rw [← hc]; rfl)⟩) (by
      rintro _ ⟨rfl, hkb, hc⟩
      unfold m_slices_Compare_int64_int64_s1
      simp only []
      refine ⟨_, bif_f (by simp), Or.inr ⟨rfl, ?_⟩⟩
      rw [← hc, drop_all (l := a) (Nat.le_refl _)]
      by_cases h : a.length < b.length
      · rw [drop_at h, if_pos h]; rfl
      · rw [drop_all (l := b) (by omega), if_neg h]; rfl)
  rw [hr]
  rcases hJ with rfl | ⟨rfl, h⟩
  · rfl
  · rw [h]
    simp only [bind_some']
    by_cases h : a.length < b.length
    · rw [bif_t (by simpa using h), if_pos h]
    · rw [bif_f (by simpa using h), if_neg h]
theorem cmpL_self : ∀ x, cmpL x x = 0
  | [] => rfl
  | x :: l => by simp [cmpL, cmpL_self l]
theorem cmpL_trans : ∀ x y z, cmpL x y < 0 → cmpL y z < 0 → cmpL x z < 0
  | [], [], _, h, _ => by simp [cmpL] at h
  | [], _ :: _, [], _, h => by simp [cmpL] at h
  | [], _ :: _, _ :: _, _, _ => by simp [cmpL]
  | _ :: _, [], _, h, _ => by simp [cmpL] at h
  | _ :: _, _ :: _, [], _, h => by simp [cmpL] at h
  | a :: x, b :: y, c :: z, h1, h2 => by
    simp only [cmpL] at h1 h2 ⊢
    have ih := cmpL_trans x y z
    split at h1
    · split at h2
      · rw [if_pos (by omega)]; omega
      · split at h2
        · omega
        · rw [if_pos (by omega)]; omega
    · split at h1
      · omega
      · split at h2
        · rw [if_pos (by omega)]; omega
        · split at h2
          · omega
          · rw [if_neg (by omega), if_neg (by omega)]; exact ih h1 h2
theorem cmpL_ntrans : ∀ x y z, ¬ cmpL x y < 0 → ¬ cmpL y z < 0 → ¬ cmpL x z < 0
  | [], [], _, _, h => h
  | [], _ :: _, _, h, _ => by simp [cmpL] at h
  | _ :: _, [], [], _, _ => by simp [cmpL]
  | _ :: _, [], _ :: _, _, h => by simp [cmpL] at h
  | _ :: _, _ :: _, [], _, _ => by simp [cmpL]
  | a :: x, b :: y, c :: z, h1, h2 => by
    simp only [cmpL] at h1 h2 ⊢
    have ih := cmpL_ntrans x y z
    split at h1
    · omega
    · split at h1
      · split at h2
        · omega
        · split at h2
          · rw [if_neg (by omega), if_pos (by omega)]; omega
          · rw [if_neg (by omega), if_pos (by omega)]; omega
      · split at h2
        · omega
        · split at h2
          · rw [if_neg (by omega), if_pos (by omega)]; omega
          · rw [if_neg (by omega), if_neg (by omega)]; exact ih h1 h2
theorem cmpL_tot : ∀ x y, ¬ cmpL x y < 0 → ¬ cmpL y x < 0 → x = y
  | [], [], _, _ => rfl
  | [], _ :: _, h, _ => by simp [cmpL] at h
  | _ :: _, [], _, h => by simp [cmpL] at h
  | a :: x, b :: y, h1, h2 => by
    simp only [cmpL] at h1 h2
    have ih := cmpL_tot x y
    split at h1
    · omega
    · split at h1
      · rw [if_pos (by omega)] at h2; omega
      · rw [if_neg (by omega), if_neg (by omega)] at h2
        rw [ih h1 h2, show a = b by omega]
theorem swoRow : SWO (ltOf cmpL) := ⟨fun x => by simp [ltOf, cmpL_self], fun x y z h1 h2 => by
    simp only [ltOf, decide_eq_true_eq] at h1 h2 ⊢; exact cmpL_trans x y z h1 h2, fun x y z h1 h2 => by
    simp only [ltOf, decide_eq_false_iff_not] at h1 h2 ⊢; exact cmpL_ntrans x y z h1 h2⟩
theorem totRow (x y : List Int) (h1 : ltOf cmpL x y = false) (h2 : ltOf cmpL y x = false) : x = y := by
  simp only [ltOf, decide_eq_false_iff_not] at h1 h2
  exact cmpL_tot x y h1 h2
theorem lexLe_iff : ∀ x y : List Int, lexLe x y = true ↔ ¬ cmpL y x < 0
  | [], [] => by simp [lexLe, cmpL]
  | [], _ :: _ => by simp [lexLe, cmpL]
  | _ :: _, [] => by simp [lexLe, cmpL]
  | a :: x, b :: y => by
    have ih := lexLe_iff x y
    simp only [cmpL, lexLe]
    by_cases h1 : b < a
    · rw [if_neg (by omega), if_pos h1, if_pos h1]; simp
    · by_cases h2 : b > a
      · rw [if_pos (by omega), if_neg h1, if_pos h2]; simp
      · rw [if_neg (by omega), if_neg h1, if_neg h1, if_neg h2]; exact ih
theorem lexLe_eq (x y : List Int) : (!(ltOf cmpL) y x) = lexLe x y := by
  rw [Bool.eq_iff_iff, lexLe_iff]
  simp [ltOf]
theorem sortRows_eq (l : List (List Int)) : (l.mergeSort fun x y => !(ltOf cmpL) y x) = sortRows l := by
  unfold sortRows
  congr 1
  funext x y
  exact lexLe_eq x y
end Go.Proofs.Ytooogkcoedampaa
