/- Wirings: valid ones, layerings, costs: what the reference and the program reckon is the same. -/
import Derived.Test.YtngnljnfbfgfeaaMod
import Derived.Test.YtngnljnfbfgfeaaPuLp
set_option linter.unusedSimpArgs false
set_option linter.unusedVariables false
namespace Go.Proofs.Ytngnljnfbfgfeaa
open Go.RowKit

theorem in_eq (n a b : Int) : m_spec_l00In n a b = some (decide (a ≤ n) && decide (n ≤ b)) := by
  unfold m_spec_l00In
  by_cases h : a ≤ n
  · rw [bif_t (by simpa using h)]; simp [h]
  · rw [bif_f (by simpa using h)]; simp [h]
theorem in_eq' (n a b : Int) : m_impl_in n a b = some (decide (a ≤ n) && decide (n ≤ b)) := by
  unfold m_impl_in
  by_cases h : a ≤ n
  · rw [bif_t (by simpa using h)]; simp [h]
  · rw [bif_f (by simpa using h)]; simp [h]
theorem cmp_val (x y : Int) : m_cmp_Compare_int64 x y = some (if x < y then -1 else if x > y then 1 else 0) := by
  unfold m_cmp_Compare_int64 m_cmp_isNaN_int64
  simp only [bind_some', bne_self_eq_false, cond_false]
  by_cases h : x < y
  · simp [h]
  · by_cases h2 : x > y
    · simp [h, h2]
    · simp [h, h2]
/-! ### Lists in order -/
def cmpL : List Int → List Int → Int
  | [], [] => 0
  | [], _ :: _ => -1
  | _ :: _, [] => 1
  | x :: l, y :: m => if x < y then -1 else if x > y then 1 else cmpL l m
theorem drop_all {l : List Int} {k : Nat} (h : l.length ≤ k) : l.drop k = [] := List.drop_eq_nil_of_le h
theorem drop_at {l : List Int} {k : Nat} (h : k < l.length) : l.drop k = l[k] :: l.drop (k + 1) := List.drop_eq_getElem_cons h
theorem Compare_eq (a b : List Int) (hb : a.length ≤ 140737488355328) : m_slices_Compare_int64_int64 a b = some (cmpL a b) := by
  unfold m_slices_Compare_int64_int64
  obtain ⟨r, hr, hJ⟩ := loopM_count (m_slices_Compare_int64_int64_s1 a b) a.length (fun k s => s = (k : Int) ∧ k ≤ b.length ∧ cmpL (a.drop k) (b.drop k) = cmpL a b)
    (fun r => r = Sum.inr (cmpL a b) ∨ (r = Sum.inl () ∧ cmpL a b = if a.length < b.length then -1 else 0)) (s0 := 0) ⟨rfl, by omega, rfl⟩ (by
      rintro k _ hk ⟨rfl, hkb, hc⟩
      unfold m_slices_Compare_int64_int64_s1
      simp only []
      rw [bif_t (by simpa using hk), geti_lt hk]
      simp only [bind_some']
      rw [drop_at hk] at hc
      by_cases h1 : k < b.length
      · rw [bif_f (by simp; omega), geti_lt h1]
        simp only [bind_some', cmp_val]
        rw [drop_at h1, cmpL] at hc
        by_cases h2 : a[k] < b[k]
        · rw [if_pos h2] at hc
          right
          exact ⟨_, by rw [if_pos h2]; exact bif_t (by rfl), Or.inl (by rw [← hc])⟩
        · rw [if_neg h2] at hc
          by_cases h3 : a[k] > b[k]
          · rw [if_pos h3] at hc
            right
            exact ⟨_, by rw [if_neg h2, if_pos h3]; exact bif_t (by rfl), Or.inl (by rw [← hc])⟩
          · rw [if_neg h3] at hc
            left
            exact ⟨_, by rw [if_neg h2, if_neg h3]; exact bif_f (by rfl), by rw [wr_in (by omega)]; rfl, by omega, hc⟩
      · right
        rw [bif_t (by simp; omega)]
        rw [drop_all (l := b) (by omega)] at hc
        exact ⟨_, rfl, Or.inl (by rw [← hc]; rfl)⟩) (by
      rintro _ ⟨rfl, hkb, hc⟩
      unfold m_slices_Compare_int64_int64_s1
      simp only []
      refine ⟨_, bif_f (by simp), Or.inr ⟨rfl, ?_⟩⟩
      rw [← hc, drop_all (l := a) (Nat.le_refl _)]
      by_cases h : a.length < b.length
      · rw [drop_at h, if_pos h]; rfl
      · rw [drop_all (l := b) (by omega), if_neg h]; rfl)
  rw [hr]
  rcases hJ with rfl | ⟨rfl, h⟩
  · rfl
  · rw [h]
    simp only [bind_some']
    by_cases h : a.length < b.length
    · rw [bif_t (by simpa using h), if_pos h]
    · rw [bif_f (by simpa using h), if_neg h]
theorem Less_eq (a b : List Int) (hb : a.length ≤ 140737488355328) : m_spec_l03Less a b = some (decide (cmpL a b < 0)) := by
  unfold m_spec_l03Less
  obtain ⟨r, hr, hJ⟩ := loopM_count (m_spec_l03Less_s1 a b) a.length (fun k s => s = (k : Int) ∧ k ≤ b.length ∧ cmpL (a.drop k) (b.drop k) = cmpL a b)
    (fun r => r = Sum.inr (decide (cmpL a b < 0)) ∨ (r = Sum.inl () ∧ (a.length < b.length ↔ cmpL a b < 0))) (s0 := 0) ⟨rfl, by omega, rfl⟩ (by
      rintro k _ hk ⟨rfl, hkb, hc⟩
      unfold m_spec_l03Less_s1
      simp only []
      rw [bif_t (by simpa using hk)]
      rw [drop_at hk] at hc
      by_cases h1 : k < b.length
      · rw [bif_t (by simpa using h1), geti_lt hk, geti_lt h1]
        simp only [bind_some']
        rw [drop_at h1, cmpL] at hc
        by_cases h2 : a[k] < b[k]
        · rw [if_pos h2] at hc
          right
          exact ⟨_, bif_t (by simp; omega), Or.inl (by rw [← hc]; simp [h2])⟩
        · rw [if_neg h2] at hc
          by_cases h3 : a[k] > b[k]
          · rw [if_pos h3] at hc
            right
            exact ⟨_, bif_t (by simp; omega), Or.inl (by rw [← hc]; simp [h2])⟩
          · rw [if_neg h3] at hc
            left
            exact ⟨_, bif_f (by simp; omega), by rw [wr_in (by omega)]; rfl, by omega, hc⟩
      · right
        rw [bif_f (by simpa using h1)]
        rw [drop_all (l := b) (by omega)] at hc
        exact ⟨_, rfl, Or.inr ⟨rfl, by rw [← hc]; simp [cmpL]; omega⟩⟩) (by
      rintro _ ⟨rfl, hkb, hc⟩
      unfold m_spec_l03Less_s1
      simp only []
      refine ⟨_, bif_f (by simp), Or.inr ⟨rfl, ?_⟩⟩
      rw [← hc, drop_all (l := a) (Nat.le_refl _)]
      by_cases h : a.length < b.length
      · rw [drop_at h]; simp [cmpL, h]
      · rw [drop_all (l := b) (by omega)]; simp [cmpL, h])
  rw [hr]
  rcases hJ with rfl | ⟨rfl, h⟩
  · rfl
  · simp only [bind_some']
    congr 1
    by_cases h2 : a.length < b.length
    · simp [h2, h.1 h2]
    · have : ¬ cmpL a b < 0 := fun h3 => h2 (h.2 h3)
      simp [h2, this]
/-! ### Lists of segments -/
def gI (l : List Int) (k : Nat) : Int := l.getD k 0
def gR (ll : List (List Int)) (k : Nat) : List Int := ll.getD k []
theorem gI_at {l : List Int} {k : Nat} (h : k < l.length) : gI l k = l[k] := by unfold gI; simp [h]
theorem gR_at {ll : List (List Int)} {k : Nat} (h : k < ll.length) : gR ll k = ll[k] := by unfold gR; simp [h]
theorem geti_gI {l : List Int} {k : Nat} (h : k < l.length) : geti l (k : Int) = some (gI l k) := by rw [geti_lt h, gI_at h]
theorem geti_gI' {l : List Int} {x : Int} (h0 : 0 ≤ x) (h : x < l.length) : geti l x = some (gI l x.toNat) := by
  obtain ⟨k, rfl⟩ := Int.eq_ofNat_of_zero_le h0
  rw [geti_gI (by omega)]; simp
def okRow (n : Int) (m : Nat) (x : List Int) : Bool := decide (x.length = m) && (decide (0 ≤ gI x 0) && (decide (gI x 0 < gI x 1) && decide (gI x 1 < n)))
def okCost (x : List Int) : Bool := decide (0 ≤ gI x 2) && decide (gI x 2 ≤ 1000)
def badR (n : Int) (m : Nat) (l : List (List Int)) (k : Nat) : Bool := !okRow n m (gR l k) || (decide (0 < k) && !decide (cmpL (gR l (k - 1)) (gR l k) < 0))
def pairsV (n : Int) (m : Nat) (l : List (List Int)) : Bool := !anyIn 0 l.length (badR n m l) && decide (l.length ≤ 30)
def costsV (l : List (List Int)) : Bool := !anyIn 0 l.length (fun k => !okCost (gR l k))
theorem anyIn_or (a n : Nat) (p q : Nat → Bool) : anyIn a n (fun k => p k || q k) = (anyIn a n p || anyIn a n q) := by
  cases hp : anyIn a n p with
  | true => obtain ⟨k, h1, h2, h3⟩ := anyIn_t.1 hp; rw [anyIn_t.2 ⟨k, h1, h2, by simp [h3]⟩]; rfl
  | false =>
    cases hq : anyIn a n q with
    | true => obtain ⟨k, h1, h2, h3⟩ := anyIn_t.1 hq; rw [anyIn_t.2 ⟨k, h1, h2, by simp [h3]⟩]; rfl
    | false => rw [anyIn_f.2 (fun k h1 h2 => by rw [anyIn_f.1 hp k h1 h2, anyIn_f.1 hq k h1 h2]; rfl)]; rfl
theorem anyIn_congr {a n : Nat} {p q : Nat → Bool} (h : ∀ k, a ≤ k → k < n → p k = q k) : anyIn a n p = anyIn a n q := by
  cases hq : anyIn a n q with
  | true => obtain ⟨k, h1, h2, h3⟩ := anyIn_t.1 hq; rw [anyIn_t.2 ⟨k, h1, h2, by rw [h k h1 h2]; exact h3⟩]
  | false => exact anyIn_f.2 (fun k h1 h2 => by rw [h k h1 h2]; exact anyIn_f.1 hq k h1 h2)
theorem implPairs_eq (n : Int) (m : Nat) (c j : List (List Int)) (f : List Int) (l : List (List Int)) (hm : 2 ≤ m) (hm2 : m ≤ 3) (hb : l.length ≤ 140737488) :
    m_impl_Wiring_pairsOk_bimplWiring n c j f l (m : Int) = some (pairsV n m l) := by
  unfold m_impl_Wiring_pairsOk_bimplWiring pairsV
  have hl := loop_any (step := m_impl_Wiring_pairsOk_bimplWiring_s1 n l (m : Int)) 0 l.length (badR n m l) false (by omega) (by
    intro k _ hk hall
    unfold m_impl_Wiring_pairsOk_bimplWiring_s1 badR okRow
    simp only []
    rw [bif_t (by simpa using hk), geti_lt hk, gR_at hk]
    simp only [bind_some']
    by_cases h1 : l[k].length = m
    · rw [bif_f (by simp; omega), show (0 : Int) = ((0 : Nat) : Int) from rfl, geti_gI (k := 0) (by omega)]
      simp only [bind_some']
      by_cases h2 : gI l[k] 0 < 0
      · rw [bif_t (by simpa using h2)]; simp [show ¬ 0 ≤ gI l[k] 0 by omega]
      · rw [bif_f (by simpa using h2), show (1 : Int) = ((1 : Nat) : Int) from rfl, geti_gI (k := 1) (by omega)]
        simp only [bind_some']
        by_cases h3 : gI l[k] 0 < gI l[k] 1
        · rw [bif_f (by simp; omega)]
          by_cases h4 : gI l[k] 1 < n
          · rw [bif_f (by simp; omega)]
            by_cases h5 : 0 < k
            · have hlast : (l[k - 1]'(by omega)).length = m := by
                have := hall (k - 1) (by omega) (by omega)
                unfold badR okRow at this
                rw [gR_at (by omega)] at this
                simp only [Bool.or_eq_false_iff, Bool.not_eq_false', Bool.and_eq_true, decide_eq_true_eq] at this
                exact this.1.1
              rw [bif_t (by simp; omega), wr_in (by omega), show (k : Int) - ((1 : Nat) : Int) = ((k - 1 : Nat) : Int) by omega, geti_lt (k := k - 1) (by omega)]
              simp only [bind_some']
              rw [Compare_eq _ _ (by omega), gR_at (k := k - 1) (by omega)]
              simp only [bind_some']
              rw [wr_in (by omega)]
              by_cases h6 : cmpL (l[k - 1]'(by omega)) l[k] < 0
              · rw [bif_f (by simp; omega)]; simp [h1, h3, h4, h5, h6]; omega
              · rw [bif_t (by simp; omega)]; simp [h5, h6]
            · rw [bif_f (by simp; omega), wr_in (by omega)]
              have : k = 0 := by omega
              subst this
              simp [h1, h3, h4]; omega
          · rw [bif_t (by simp; omega)]; simp [h4]
        · rw [bif_t (by simp; omega)]; simp [h3]
    · rw [bif_t (by simp; omega)]; simp [h1]) (by
    unfold m_impl_Wiring_pairsOk_bimplWiring_s1
    simp only []
    rw [bif_f (by simp)])
  rw [show ((0 : Nat) : Int) = 0 from rfl] at hl
  rw [hl]
  cases anyIn 0 l.length (badR n m l) with
  | true => simp
  | false => simp; omega
theorem specLists_eq (n : Int) (m : Nat) (l : List (List Int)) (hn : 0 ≤ n ∧ n ≤ 14) (hm : m = 2 ∨ m = 3) (hb : l.length ≤ 140737488) :
    m_spec_l07Lists l n (m : Int) = some (pairsV n m l && (decide (m = 2) || costsV l)) := by
  unfold m_spec_l07Lists pairsV
  have hl := loop_any (step := m_spec_l07Lists_s1 l n (m : Int)) 0 l.length (fun k => badR n m l k || (decide (m = 3) && !okCost (gR l k))) false (by omega) (by
    intro k _ hk hall
    unfold m_spec_l07Lists_s1 badR okRow okCost
    simp only []
    rw [bif_t (by simpa using hk), geti_lt hk, gR_at hk]
    simp only [bind_some']
    by_cases h1 : l[k].length = m
    · rw [bif_f (by simp; omega), show geti l[k] 0 = some (gI l[k] 0) from geti_gI (k := 0) (by omega)]
      simp only [bind_some', in_eq]
      rw [wr_in (x := n - 1) (by omega)]
      by_cases h2 : 0 ≤ gI l[k] 0 ∧ gI l[k] 0 ≤ n - 1
      · rw [bif_f (by simp [h2.1, h2.2]), show geti l[k] 1 = some (gI l[k] 1) from geti_gI (k := 1) (by omega)]
        simp only [bind_some']
        rw [wr_in (x := gI l[k] 0 + 1) (by omega)]
        by_cases h3 : gI l[k] 0 + 1 ≤ gI l[k] 1 ∧ gI l[k] 1 ≤ n - 1
        · rw [bif_f (by simp [h3.1, h3.2])]
          have hrow : (decide (0 ≤ gI l[k] 0) && (decide (gI l[k] 0 < gI l[k] 1) && decide (gI l[k] 1 < n))) = true := by simp; omega
          rw [hrow]
          have hless : ∀ h5 : 0 < k, m_spec_l03Less (l[k - 1]'(by omega)) l[k] = some (decide (cmpL (gR l (k - 1)) l[k] < 0)) := fun h5 => by
            have hlast : (l[k - 1]'(by omega)).length = m := by
              have := hall (k - 1) (by omega) (by omega)
              unfold badR okRow at this
              rw [gR_at (by omega)] at this
              simp only [Bool.or_eq_false_iff, Bool.not_eq_false', Bool.and_eq_true, decide_eq_true_eq] at this
              exact this.1.1.1
            rw [Less_eq _ _ (by omega), gR_at (k := k - 1) (by omega)]
          rcases hm with rfl | rfl
          · rw [bif_f (by rfl)]
            by_cases h5 : 0 < k
            · rw [bif_t (by simp; omega), wr_in (by omega), show (k : Int) - 1 = ((k - 1 : Nat) : Int) by omega, geti_lt (k := k - 1) (by omega), bind_some', hless h5, bind_some', wr_in (by omega)]
              by_cases h6 : cmpL (gR l (k - 1)) l[k] < 0
              · rw [bif_f (by simp [h6])]; simp [h1, h6]
              · rw [bif_t (by simp [h6])]; simp [h1, h5, h6]
            · rw [bif_f (by simp; omega), wr_in (by omega)]
              have : k = 0 := by omega
              subst this
              simp [h1]
          · rw [bif_t (by rfl), show geti l[k] 2 = some (gI l[k] 2) from geti_gI (k := 2) (by omega)]
            simp only [bind_some']
            by_cases h7 : 0 ≤ gI l[k] 2 ∧ gI l[k] 2 ≤ 1000
            · rw [bif_f (by simp [h7.1, h7.2])]
              by_cases h5 : 0 < k
              · rw [bif_t (by simp; omega), wr_in (by omega), show (k : Int) - 1 = ((k - 1 : Nat) : Int) by omega, geti_lt (k := k - 1) (by omega), bind_some', hless h5, bind_some', wr_in (by omega)]
                by_cases h6 : cmpL (gR l (k - 1)) l[k] < 0
                · rw [bif_f (by simp [h6])]; simp [h1, h6, h7.1, h7.2]
                · rw [bif_t (by simp [h6])]; simp [h1, h5, h6]
              · rw [bif_f (by simp; omega), wr_in (by omega)]
                have : k = 0 := by omega
                subst this
                simp [h1, h7.1, h7.2]
            · have h7' : (decide (0 ≤ gI l[k] 2) && decide (gI l[k] 2 ≤ 1000)) = false := by
                rw [Bool.and_eq_false_iff, decide_eq_false_iff_not, decide_eq_false_iff_not]; omega
              rw [bif_t (by rw [h7']; rfl), h7']; simp
        · have h3' : (decide (gI l[k] 0 + 1 ≤ gI l[k] 1) && decide (gI l[k] 1 ≤ n - 1)) = false := by
            rw [Bool.and_eq_false_iff, decide_eq_false_iff_not, decide_eq_false_iff_not]; omega
          have h3'' : (decide (0 ≤ gI l[k] 0) && (decide (gI l[k] 0 < gI l[k] 1) && decide (gI l[k] 1 < n))) = false := by
            rw [Bool.and_eq_false_iff, Bool.and_eq_false_iff, decide_eq_false_iff_not, decide_eq_false_iff_not, decide_eq_false_iff_not]; omega
          rw [bif_t (by rw [h3']; rfl), h3'']; simp
      · have h2' : (decide (0 ≤ gI l[k] 0) && decide (gI l[k] 0 ≤ n - 1)) = false := by
          rw [Bool.and_eq_false_iff, decide_eq_false_iff_not, decide_eq_false_iff_not]; omega
        have h2'' : (decide (0 ≤ gI l[k] 0) && (decide (gI l[k] 0 < gI l[k] 1) && decide (gI l[k] 1 < n))) = false := by
          rw [Bool.and_eq_false_iff, Bool.and_eq_false_iff, decide_eq_false_iff_not, decide_eq_false_iff_not, decide_eq_false_iff_not]; omega
        rw [bif_t (by rw [h2']; rfl), h2'']; simp
    · rw [bif_t (by simp; omega)]; simp [h1]) (by
    unfold m_spec_l07Lists_s1
    simp only []
    rw [bif_f (by simp)])
  rw [show ((0 : Nat) : Int) = 0 from rfl] at hl
  rw [hl, anyIn_or]
  have hc : anyIn 0 l.length (fun k => decide (m = 3) && !okCost (gR l k)) = !(decide (m = 2) || costsV l) := by
    unfold costsV
    rcases hm with rfl | rfl
    · rw [anyIn_f.2 (fun k _ _ => by simp)]; rfl
    · simp
  rw [hc]
  cases anyIn 0 l.length (badR n m l) <;> cases (decide (m = 2) || costsV l) <;> simp
  omega
def fixV (f : List Int) : Bool := !anyIn 0 f.length (fun k => !(decide (-1 ≤ gI f k) && decide (gI f k ≤ 1)))
def validV (n : Int) (c j : List (List Int)) (f : List Int) : Bool := decide (0 ≤ n) && decide (n ≤ 14) && (decide ((f.length : Int) = n) && (fixV f && (pairsV n 2 c && (pairsV n 3 j && costsV j))))
theorem specIs_eq (n : Int) (c j : List (List Int)) (f : List Int) (hc : c.length ≤ 140737488) (hj : j.length ≤ 140737488) (hf : f.length ≤ 140737488) : m_spec_l07Is_bimplWiring n c j f = some (validV n c j f) := by
  unfold m_spec_l07Is_bimplWiring validV
  rw [in_eq, bind_some']
  by_cases h1 : 0 ≤ n ∧ n ≤ 14
  · rw [bif_f (by simp [h1.1, h1.2])]
    by_cases h2 : (f.length : Int) = n
    · rw [bif_f (by simpa using h2)]
      have hl := loop_any (step := m_spec_l07Is_bimplWiring_s1 f) 0 f.length (fun k => !(decide (-1 ≤ gI f k) && decide (gI f k ≤ 1))) false (by omega) (by
        intro k _ hk _
        unfold m_spec_l07Is_bimplWiring_s1
        simp only []
        rw [bif_t (by simpa using hk), geti_gI hk, bind_some', in_eq, bind_some', wr_in (by omega)]
        cases (decide (-1 ≤ gI f k) && decide (gI f k ≤ 1)) <;> rfl) (by
        unfold m_spec_l07Is_bimplWiring_s1
        simp only []
        rw [bif_f (by simp)])
      rw [show ((0 : Nat) : Int) = 0 from rfl] at hl
      rw [hl]
      have e : fixV f = !anyIn 0 f.length (fun k => !(decide (-1 ≤ gI f k) && decide (gI f k ≤ 1))) := rfl
      rw [e]
      cases anyIn 0 f.length (fun k => !(decide (-1 ≤ gI f k) && decide (gI f k ≤ 1))) with
      | true => simp
      | false =>
        simp only [Bool.false_eq_true, if_false, bind_some']
        rw [show (2 : Int) = ((2 : Nat) : Int) from rfl, specLists_eq n 2 c h1 (Or.inl rfl) hc, bind_some', show (3 : Int) = ((3 : Nat) : Int) from rfl, specLists_eq n 3 j h1 (Or.inr rfl) hj, bind_some']
        cases pairsV n 2 c <;> simp [h1.1, h1.2, h2]
    · rw [bif_t (by simpa using h2)]; simp [h2]
  · have h1' : (decide (0 ≤ n) && decide (n ≤ 14)) = false := by rw [Bool.and_eq_false_iff, decide_eq_false_iff_not, decide_eq_false_iff_not]; omega
    rw [bif_t (by rw [h1']; rfl), h1']; simp
theorem pairsV_len {n : Int} {m : Nat} {l : List (List Int)} (h : pairsV n m l = true) : l.length ≤ 30 ∧ ∀ k, k < l.length → okRow n m (gR l k) = true := by
  unfold pairsV at h
  rw [Bool.and_eq_true, Bool.not_eq_true', decide_eq_true_eq] at h
  refine ⟨h.2, fun k hk => ?_⟩
  have := anyIn_f.1 h.1 k (by omega) hk
  unfold badR at this
  simp only [Bool.or_eq_false_iff, Bool.not_eq_false'] at this
  exact this.1
theorem okRow_t {n : Int} {m : Nat} {x : List Int} (h : okRow n m x = true) : x.length = m ∧ 0 ≤ gI x 0 ∧ gI x 0 < gI x 1 ∧ gI x 1 < n := by
  unfold okRow at h; simp only [Bool.and_eq_true, decide_eq_true_eq] at h; exact h
theorem implCosts_eq (n : Int) (j : List (List Int)) (h : pairsV n 3 j = true) : m_slices_ContainsFunc_int64_int64_impl_ValidWiring_1 j = some (!costsV j) := by
  obtain ⟨h30, hrow⟩ := pairsV_len h
  unfold m_slices_ContainsFunc_int64_int64_impl_ValidWiring_1 m_slices_IndexFunc_int64_int64_impl_ValidWiring_1 costsV
  have hs : ∀ k, k < j.length → m_slices_IndexFunc_int64_int64_impl_ValidWiring_1_s1 j (k : Int) = some (if !okCost (gR j k) then .out (.inr (k : Int)) else .next ((k + 1 : Nat) : Int)) := by
    intro k hk
    have hr := okRow_t (hrow k hk)
    rw [gR_at hk] at hr
    unfold m_slices_IndexFunc_int64_int64_impl_ValidWiring_1_s1 m_impl_ValidWiring_1 okCost
    simp only []
    rw [bif_t (by simpa using hk), geti_lt hk, gR_at hk]
    simp only [bind_some']
    rw [show geti j[k] 2 = some (gI j[k] 2) from geti_gI (k := 2) (by omega)]
    simp only [bind_some', in_eq']
    rw [wr_in (by omega)]
    cases (decide (0 ≤ gI j[k] 2) && decide (gI j[k] 2 ≤ 1000)) <;> rfl
  rcases loop_find j.length (fun k => !okCost (gR j k)) (fun k => (k : Int)) hs (by
    unfold m_slices_IndexFunc_int64_int64_impl_ValidWiring_1_s1
    simp only []
    rw [bif_f (by simp)]) with ⟨h1, h2⟩ | ⟨k, h1, h2, _, h3⟩
  · rw [h2, h1]; rfl
  · rw [h3, anyIn_t.2 ⟨k, by omega, h1, h2⟩]; simp
theorem implFix_eq (f : List Int) (hf : f.length ≤ 140737488) : m_slices_ContainsFunc_int64_int64_impl_ValidWiring_2 f = some (!fixV f) := by
  unfold m_slices_ContainsFunc_int64_int64_impl_ValidWiring_2 m_slices_IndexFunc_int64_int64_impl_ValidWiring_2 fixV
  have hs : ∀ k, k < f.length → m_slices_IndexFunc_int64_int64_impl_ValidWiring_2_s1 f (k : Int) = some (if !(decide (-1 ≤ gI f k) && decide (gI f k ≤ 1)) then .out (.inr (k : Int)) else .next ((k + 1 : Nat) : Int)) := by
    intro k hk
    unfold m_slices_IndexFunc_int64_int64_impl_ValidWiring_2_s1 m_impl_ValidWiring_2
    simp only []
    rw [bif_t (by simpa using hk), geti_gI hk]
    simp only [bind_some', in_eq']
    rw [wr_in (by omega)]
    cases (decide (-1 ≤ gI f k) && decide (gI f k ≤ 1)) <;> rfl
  rcases loop_find f.length (fun k => !(decide (-1 ≤ gI f k) && decide (gI f k ≤ 1))) (fun k => (k : Int)) hs (by
    unfold m_slices_IndexFunc_int64_int64_impl_ValidWiring_2_s1
    simp only []
    rw [bif_f (by simp)]) with ⟨h1, h2⟩ | ⟨k, h1, h2, _, h3⟩
  · rw [h2, h1]; rfl
  · rw [h3, anyIn_t.2 ⟨k, by omega, h1, h2⟩]; simp
theorem implValid_eq (n : Int) (c j : List (List Int)) (f : List Int) (hc : c.length ≤ 140737488) (hj : j.length ≤ 140737488) (hf : f.length ≤ 140737488) : m_impl_ValidWiring n c j f = some (validV n c j f) := by
  unfold m_impl_ValidWiring validV
  rw [in_eq', bind_some']
  by_cases h1 : 0 ≤ n ∧ n ≤ 14
  · rw [bif_f (by simp [h1.1, h1.2])]
    by_cases h2 : (f.length : Int) = n
    · rw [bif_f (by simpa using h2), show (2 : Int) = ((2 : Nat) : Int) from rfl, implPairs_eq n 2 c j f c (by omega) (by omega) hc, bind_some']
      cases h3 : pairsV n 2 c with
      | false => simp
      | true =>
        rw [bif_f (by rfl), show (3 : Int) = ((3 : Nat) : Int) from rfl, implPairs_eq n 3 c j f j (by omega) (by omega) hj, bind_some']
        cases h4 : pairsV n 3 j with
        | false => simp
        | true =>
          rw [bif_f (by rfl), implCosts_eq n j h4, bind_some', implFix_eq f hf, bind_some']
          cases costsV j <;> cases fixV f <;> simp [h1.1, h1.2, h2]
    · rw [bif_t (by simpa using h2)]; simp [h2]
  · have h1' : (decide (0 ≤ n) && decide (n ≤ 14)) = false := by rw [Bool.and_eq_false_iff, decide_eq_false_iff_not, decide_eq_false_iff_not]; omega
    rw [bif_t (by rw [h1']; rfl), h1']; simp
theorem validV_t {n : Int} {c j : List (List Int)} {f : List Int} (h : validV n c j f = true) : (0 ≤ n ∧ n ≤ 14) ∧ (f.length : Int) = n ∧ pairsV n 2 c = true ∧ pairsV n 3 j = true ∧ costsV j = true := by
  unfold validV at h; simp only [Bool.and_eq_true, decide_eq_true_eq] at h
  exact ⟨h.1, h.2.1, h.2.2.2.1, h.2.2.2.2.1, h.2.2.2.2.2⟩
/-! ### Layerings -/
def badL (f l : List Int) (k : Nat) : Bool := !(decide (0 ≤ gI l k) && decide (gI l k ≤ 1)) || (decide (gI f k ≥ 0) && decide (gI f k ≠ gI l k))
def badC (c : List (List Int)) (l : List Int) (k : Nat) : Bool := gI l (gI (gR c k) 0).toNat == gI l (gI (gR c k) 1).toNat
def layV (c : List (List Int)) (f l : List Int) : Bool := !anyIn 0 l.length (badL f l) && !anyIn 0 c.length (badC c l)
def isLayV (n : Int) (c j : List (List Int)) (f l : List Int) : Bool := validV n c j f && (decide ((l.length : Int) = n) && layV c f l)
theorem specLay_eq {n : Int} {c j : List (List Int)} {f l : List Int} (h : validV n c j f = true) : m_spec_l07Layering_bimplWiring n c j f l = some (decide ((l.length : Int) = n) && layV c f l) := by
  obtain ⟨hn, hfn, hc, hj, hcost⟩ := validV_t h
  obtain ⟨h30, hrow⟩ := pairsV_len hc
  unfold m_spec_l07Layering_bimplWiring layV
  by_cases h1 : (l.length : Int) = n
  · rw [bif_f (by simpa using h1)]
    have hl := loop_any (step := m_spec_l07Layering_bimplWiring_s1 f l) 0 l.length (badL f l) false (by omega) (by
      intro k _ hk _
      unfold m_spec_l07Layering_bimplWiring_s1 badL
      simp only []
      rw [bif_t (by simpa using hk), geti_gI hk, bind_some', in_eq, bind_some', geti_gI (l := f) (k := k) (by omega), wr_in (by omega)]
      simp only [bind_some']
      cases (decide (0 ≤ gI l k) && decide (gI l k ≤ 1)) with
      | false => rfl
      | true =>
        rw [bif_f (by rfl)]
        by_cases h2 : gI f k ≥ 0
        · rw [bif_t (by simpa using h2)]
          by_cases h3 : gI f k = gI l k
          · rw [bif_f (by simpa using h3)]; simp [h3]
          · rw [bif_t (by simpa using h3)]; simp [h2, h3]
        · rw [bif_f (by simpa using h2)]; simp [h2]) (by
      unfold m_spec_l07Layering_bimplWiring_s1
      simp only []
      rw [bif_f (by simp)])
    rw [show ((0 : Nat) : Int) = 0 from rfl] at hl
    rw [hl]
    cases anyIn 0 l.length (badL f l) with
    | true => simp
    | false =>
      simp only [Bool.false_eq_true, if_false, bind_some']
      have hl2 := loop_any (step := m_spec_l07Layering_bimplWiring_s2 c l) 0 c.length (badC c l) false (by omega) (by
        intro k _ hk _
        have hr := okRow_t (hrow k hk)
        unfold m_spec_l07Layering_bimplWiring_s2 badC
        rw [gR_at hk] at hr ⊢
        simp only []
        rw [bif_t (by simpa using hk), geti_lt hk, bind_some', show geti c[k] 0 = some (gI c[k] 0) from geti_gI (k := 0) (by omega), bind_some', geti_gI' (l := l) hr.2.1 (by omega), bind_some', bind_some',
          show geti c[k] 1 = some (gI c[k] 1) from geti_gI (k := 1) (by omega), bind_some', geti_gI' (l := l) (by omega) (by omega), bind_some', wr_in (by omega)]
        cases (gI l (gI c[k] 0).toNat == gI l (gI c[k] 1).toNat) <;> rfl) (by
        unfold m_spec_l07Layering_bimplWiring_s2
        simp only []
        rw [bif_f (by simp)])
      rw [show ((0 : Nat) : Int) = 0 from rfl] at hl2
      rw [hl2]
      cases anyIn 0 c.length (badC c l) <;> simp [h1]
  · rw [bif_t (by simpa using h1)]; simp [h1]
theorem implLay_eq (n : Int) (c j : List (List Int)) (f l : List Int) (hc' : c.length ≤ 140737488) (hj' : j.length ≤ 140737488) (hf' : f.length ≤ 140737488) : m_impl_IsLayering n c j f l = some (isLayV n c j f l) := by
  unfold m_impl_IsLayering isLayV
  rw [implValid_eq n c j f hc' hj' hf', bind_some']
  cases h : validV n c j f with
  | false => rfl
  | true =>
    obtain ⟨hn, hfn, hc, hj, hcost⟩ := validV_t h
    obtain ⟨h30, hrow⟩ := pairsV_len hc
    rw [bif_f (by rfl)]
    unfold layV
    by_cases h1 : (l.length : Int) = n
    · rw [bif_f (by simpa using h1)]
      have hl := loop_any (step := m_impl_IsLayering_s1 f l) 0 l.length (badL f l) false (by omega) (by
        intro k _ hk _
        unfold m_impl_IsLayering_s1 badL
        simp only []
        rw [bif_t (by simpa using hk), geti_gI hk, bind_some', in_eq', bind_some', geti_gI (l := f) (k := k) (by omega), wr_in (by omega)]
        simp only [bind_some']
        cases (decide (0 ≤ gI l k) && decide (gI l k ≤ 1)) with
        | false => rfl
        | true =>
          rw [bif_f (by rfl)]
          by_cases h2 : gI f k ≥ 0
          · rw [bif_t (by simpa using h2)]
            by_cases h3 : gI f k = gI l k
            · rw [bif_f (by simpa using h3)]; simp [h3]
            · rw [bif_t (by simpa using h3)]; simp [h2, h3]
          · rw [bif_f (by simpa using h2)]; simp [h2]) (by
        unfold m_impl_IsLayering_s1
        simp only []
        rw [bif_f (by simp)])
      rw [show ((0 : Nat) : Int) = 0 from rfl] at hl
      rw [hl]
      cases anyIn 0 l.length (badL f l) with
      | true => simp
      | false =>
        simp only [Bool.false_eq_true, if_false, bind_some']
        unfold m_slices_ContainsFunc_int64_int64_impl_IsLayering_1_bint64 m_slices_IndexFunc_int64_int64_impl_IsLayering_1_bint64
        have hs : ∀ k, k < c.length → m_slices_IndexFunc_int64_int64_impl_IsLayering_1_bint64_s1 c l (k : Int) = some (if badC c l k then .out (.inr (k : Int)) else .next ((k + 1 : Nat) : Int)) := by
          intro k hk
          have hr := okRow_t (hrow k hk)
          unfold m_slices_IndexFunc_int64_int64_impl_IsLayering_1_bint64_s1 m_impl_IsLayering_1_bint64 badC
          rw [gR_at hk] at hr ⊢
          simp only []
          rw [bif_t (by simpa using hk), geti_lt hk]
          simp only [bind_some']
          rw [show geti c[k] 0 = some (gI c[k] 0) from geti_gI (k := 0) (by omega), show geti c[k] 1 = some (gI c[k] 1) from geti_gI (k := 1) (by omega)]
          simp only [bind_some']
          rw [geti_gI' (l := l) hr.2.1 (by omega), geti_gI' (l := l) (x := gI c[k] 1) (by omega) (by omega)]
          simp only [bind_some']
          rw [wr_in (by omega)]
          cases (gI l (gI c[k] 0).toNat == gI l (gI c[k] 1).toNat) <;> rfl
        rcases loop_find c.length (badC c l) (fun k => (k : Int)) hs (by
          unfold m_slices_IndexFunc_int64_int64_impl_IsLayering_1_bint64_s1
          simp only []
          rw [bif_f (by simp)]) with ⟨h2, h3⟩ | ⟨k, h2, h3, _, h4⟩
        · rw [h3, h2]; simp [h1]
        · rw [h4, anyIn_t.2 ⟨k, by omega, h2, h3⟩]; simp
    · rw [bif_t (by simpa using h1)]; simp [h1]
/-! ### Costs -/
def costF (j : List (List Int)) (l : List Int) : Nat → Int
  | 0 => 0
  | k + 1 => costF j l k + if gI l (gI (gR j k) 0).toNat ≠ gI l (gI (gR j k) 1).toNat then gI (gR j k) 2 else 0
theorem costF_b {j : List (List Int)} {l : List Int} (h : costsV j = true) : ∀ k, k ≤ j.length → 0 ≤ costF j l k ∧ costF j l k ≤ 1000 * k
  | 0, _ => by simp [costF]
  | k + 1, hk => by
    have ih := costF_b (l := l) h k (by omega)
    unfold costsV at h
    rw [Bool.not_eq_true'] at h
    have := anyIn_f.1 h k (by omega) (by omega)
    unfold okCost at this
    simp only [Bool.not_eq_false', Bool.and_eq_true, decide_eq_true_eq] at this
    rw [costF]
    split <;> omega
theorem specCost_eq {n : Int} {c j : List (List Int)} {f l : List Int} (h : validV n c j f = true) (hln : (l.length : Int) = n) : m_spec_l07Cost_bimplWiring n c j f l = some (costF j l j.length) := by
  obtain ⟨hn, hfn, hc, hj, hcost⟩ := validV_t h
  obtain ⟨h30, hrow⟩ := pairsV_len hj
  unfold m_spec_l07Cost_bimplWiring
  have hl := loop_run (step := m_spec_l07Cost_bimplWiring_s1 j l) j.length (fun k => (costF j l k, (k : Int))) (r := costF j l j.length) (by
    intro k hk
    have hr := okRow_t (hrow k hk)
    have hb := costF_b (l := l) hcost k (by omega)
    have hb2 := costF_b (l := l) hcost (k + 1) (by omega)
    rw [costF] at hb2 ⊢
    unfold m_spec_l07Cost_bimplWiring_s1
    rw [gR_at hk] at hr hb2 ⊢
    simp only []
    rw [bif_t (by simpa using hk), geti_lt hk, bind_some', show geti j[k] 0 = some (gI j[k] 0) from geti_gI (k := 0) (by omega), bind_some', geti_gI' (l := l) hr.2.1 (by omega), bind_some', bind_some',
      show geti j[k] 1 = some (gI j[k] 1) from geti_gI (k := 1) (by omega), bind_some', geti_gI' (l := l) (x := gI j[k] 1) (by omega) (by omega), bind_some', bind_some', show geti j[k] 2 = some (gI j[k] 2) from geti_gI (k := 2) (by omega), bind_some', wr_in (x := (k : Int) + 1) (by omega)]
    by_cases h1 : gI l (gI j[k] 0).toNat = gI l (gI j[k] 1).toNat
    · rw [bif_f (by simpa using h1)]; simp [h1]
    · rw [if_pos h1] at hb2 ⊢
      rw [bif_t (by simpa using h1), wr_in (by omega)]; rfl) (by
    unfold m_spec_l07Cost_bimplWiring_s1
    simp only []
    rw [bif_f (by simp)])
  rw [show (costF j l 0, ((0 : Nat) : Int)) = ((0, 0) : Int × Int) from rfl] at hl
  rw [hl]; rfl
theorem implCost_eq {n : Int} {c j : List (List Int)} {f l : List Int} (h : validV n c j f = true) (hln : (l.length : Int) = n) : m_impl_Wiring_cost_bimplWiring n c j f l = some (costF j l j.length) := by
  obtain ⟨hn, hfn, hc, hj, hcost⟩ := validV_t h
  obtain ⟨h30, hrow⟩ := pairsV_len hj
  unfold m_impl_Wiring_cost_bimplWiring
  have hl := loop_run (step := m_impl_Wiring_cost_bimplWiring_s1 j l) j.length (fun k => (costF j l k, (k : Int))) (r := costF j l j.length) (by
    intro k hk
    have hr := okRow_t (hrow k hk)
    have hb := costF_b (l := l) hcost k (by omega)
    have hb2 := costF_b (l := l) hcost (k + 1) (by omega)
    rw [costF] at hb2 ⊢
    unfold m_impl_Wiring_cost_bimplWiring_s1
    rw [gR_at hk] at hr hb2 ⊢
    simp only []
    rw [bif_t (by simpa using hk), geti_lt hk, bind_some', show geti j[k] 0 = some (gI j[k] 0) from geti_gI (k := 0) (by omega), bind_some', geti_gI' (l := l) hr.2.1 (by omega), bind_some',
      show geti j[k] 1 = some (gI j[k] 1) from geti_gI (k := 1) (by omega), bind_some', geti_gI' (l := l) (x := gI j[k] 1) (by omega) (by omega), bind_some', show geti j[k] 2 = some (gI j[k] 2) from geti_gI (k := 2) (by omega), bind_some', wr_in (x := (k : Int) + 1) (by omega)]
    by_cases h1 : gI l (gI j[k] 0).toNat = gI l (gI j[k] 1).toNat
    · rw [bif_f (by simpa using h1)]; simp [h1]
    · rw [if_pos h1] at hb2 ⊢
      rw [bif_t (by simpa using h1), wr_in (by omega)]; rfl) (by
    unfold m_impl_Wiring_cost_bimplWiring_s1
    simp only []
    rw [bif_f (by simp)])
  rw [show (costF j l 0, ((0 : Nat) : Int)) = ((0, 0) : Int × Int) from rfl] at hl
  rw [hl]; rfl
def costV (n : Int) (c j : List (List Int)) (f l : List Int) : Int × Bool := if isLayV n c j f l then (costF j l j.length, true) else (0, false)
end Go.Proofs.Ytngnljnfbfgfeaa
