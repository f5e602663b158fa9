/- The laws of ValidWiring, IsLayering and CostOf. -/
import Derived.Test.YtngnljnfbfgfeaaPuWir
set_option linter.unusedSimpArgs false
set_option linter.unusedVariables false
namespace Go.Proofs.Ytngnljnfbfgfeaa
open Go.RowKit

theorem toInt64S_eq (ps : List Int) (hb : ps.length ≤ 1048576) : m_laws_toInt64S ps = some ps := by
  unfold m_laws_toInt64S
  rw [mkC_ok (by unfold lim; omega)]
  simp only [bind_some']
  have hl : loopM (m_laws_toInt64S_s1 ps) (0, List.replicate (Int.toNat (ps.length : Int)) (0 : Int)) = some ps := by
    refine loopM_val _ ps.length (fun k s => s.1 = (k : Int) ∧ Laid ps s.2 k) ⟨rfl, Laid.zero _ _ (by simp)⟩ ?_ ?_
    · rintro k ⟨x, acc⟩ hk ⟨hx, hL⟩
      simp only at hx hL
      subst hx
      unfold m_laws_toInt64S_s1
      simp only []
      rw [bif_t (by simpa using hk), geti_lt hk, geti_lt (l := acc) (by rw [hL.1]; exact hk)]
      left
      exact ⟨_, rfl, by rw [wr_in (by omega)]; simp, by simpa using hL.succ hk⟩
    · rintro ⟨x, acc⟩ ⟨hx, hL⟩
      simp only at hx hL
      subst hx
      unfold m_laws_toInt64S_s1
      simp only []
      rw [bif_f (by simp), hL.all]
  rw [hl]; rfl
theorem toInt64SS_eq (ll : List (List Int)) (hb : ll.length ≤ 1048576) (hr : ∀ r ∈ ll, r.length ≤ 1048576) : m_laws_toInt64SS ll = some ll := by
  unfold m_laws_toInt64SS
  rw [mkC_ok (by unfold lim; omega)]
  simp only [bind_some']
  have hl : loopM (m_laws_toInt64SS_s1 ll) (List.replicate (Int.toNat (ll.length : Int)) ([] : List Int), 0) = some ll := by
    refine loopM_val _ ll.length (fun k s => s.2 = (k : Int) ∧ Laid ll s.1 k) ⟨rfl, Laid.zero _ _ (by simp)⟩ ?_ ?_
    · rintro k ⟨acc, x⟩ hk ⟨hx, hL⟩
      simp only at hx hL
      subst hx
      unfold m_laws_toInt64SS_s1
      simp only []
      rw [bif_t (by simpa using hk), geti_lt hk, geti_lt (l := acc) (by rw [hL.1]; exact hk)]
      simp only [bind_some', toInt64S_eq _ (hr _ (List.getElem_mem hk))]
      left
      exact ⟨_, rfl, by rw [wr_in (by omega)]; simp, by simpa using hL.succ hk⟩
    · rintro ⟨acc, x⟩ ⟨hx, hL⟩
      simp only at hx hL
      subst hx
      unfold m_laws_toInt64SS_s1
      simp only []
      rw [bif_f (by simp), hL.all]
  rw [hl]; rfl
theorem eqInt64S_eq (ps : List Int) (hb : ps.length ≤ 9223372036854775807) : m_laws_eqInt64S ps ps = some true := by
  unfold m_laws_eqInt64S
  rw [bif_f (by simp)]
  have hl : loopM (m_laws_eqInt64S_s1 ps ps) 0 = some (Sum.inl ()) := by
    refine loopM_val _ ps.length (fun k s => s = (k : Int)) rfl ?_ ?_
    · rintro k _ hk rfl
      unfold m_laws_eqInt64S_s1
      simp only []
      rw [bif_t (by simpa using hk), geti_lt hk]
      left
      exact ⟨wr ((k : Int) + 1), by simp [bind_some'], by rw [wr_in (by omega)]; omega⟩
    · rintro _ rfl
      unfold m_laws_eqInt64S_s1
      simp only []
      rw [bif_f (by simp)]
  rw [hl]; rfl
theorem eqInt64SS_eq (ll : List (List Int)) (hb : ll.length ≤ 9223372036854775807) (hr : ∀ r ∈ ll, r.length ≤ 9223372036854775807) : m_laws_eqInt64SS ll ll = some true := by
  unfold m_laws_eqInt64SS
  rw [bif_f (by simp)]
  have hl : loopM (m_laws_eqInt64SS_s1 ll ll) 0 = some (Sum.inl ()) := by
    refine loopM_val _ ll.length (fun k s => s = (k : Int)) rfl ?_ ?_
    · rintro k _ hk rfl
      unfold m_laws_eqInt64SS_s1
      simp only []
      rw [bif_t (by simpa using hk), geti_lt hk]
      left
      exact ⟨wr ((k : Int) + 1), by simp [bind_some', eqInt64S_eq _ (hr _ (List.getElem_mem hk))], by rw [wr_in (by omega)]; omega⟩
    · rintro _ rfl
      unfold m_laws_eqInt64SS_s1
      simp only []
      rw [bif_f (by simp)]
  rw [hl]; rfl
theorem szInt64S_eq (l : List Int) (p : Int) (h : 0 ≤ p ∧ p ≤ 1048576) (hb : l.length ≤ 9223372036854775807) : ∃ y, m_laws_szInt64S l p = some y ∧ (y < 0 ∨ (y = p - l.length ∧ 0 ≤ y)) := by
  unfold m_laws_szInt64S
  rw [wr_in (x := p - l.length) (by omega)]
  by_cases hn : p - (l.length : Int) < 0
  · exact ⟨-1, bif_t (by simpa using hn), Or.inl (by omega)⟩
  · exact ⟨_, bif_f (by simpa using hn), Or.inr ⟨rfl, by omega⟩⟩
theorem szInt64SS_eq (l : List (List Int)) (p : Int) (h : 0 ≤ p ∧ p ≤ 1048576) (hb : l.length ≤ 9223372036854775807) (hr : ∀ r ∈ l, r.length ≤ 9223372036854775807) :
    ∃ y, m_laws_szInt64SS l p = some y ∧ (y < 0 ∨ (0 ≤ y ∧ y ≤ p ∧ (l.length : Int) ≤ p ∧ ∀ r ∈ l, (r.length : Int) ≤ p)) := by
  unfold m_laws_szInt64SS
  rw [wr_in (x := p - l.length) (by omega)]
  by_cases hn : p - (l.length : Int) < 0
  · exact ⟨-1, bif_t (by simpa using hn), Or.inl (by omega)⟩
  · rw [bif_f (by simpa using hn)]
    obtain ⟨r, h1, h2⟩ := loopM_count (m_laws_szInt64SS_s1 l) l.length (fun k s => s.2 = (k : Int) ∧ 0 ≤ s.1 ∧ s.1 ≤ p - l.length ∧ ∀ j r, j < k → l[j]? = some r → (r.length : Int) ≤ p)
      (fun r => r = Sum.inr (-1) ∨ ∃ y, r = Sum.inl y ∧ 0 ≤ y ∧ y ≤ p ∧ ∀ r ∈ l, (r.length : Int) ≤ p) (s0 := (p - l.length, 0))
      ⟨rfl, by simp only []; omega, by simp only []; omega, fun j r hj => by omega⟩ (by
        rintro k ⟨x, i⟩ hk ⟨hi, h0, h1, hall⟩
        simp only at hi h0 h1
        subst hi
        unfold m_laws_szInt64SS_s1
        simp only []
        rw [bif_t (by simpa using hk), geti_lt hk]
        simp only [bind_some']
        obtain ⟨y, hy, hy'⟩ := szInt64S_eq l[k] x (by omega) (hr _ (List.getElem_mem hk))
        rw [hy]
        simp only [bind_some']
        rcases hy' with hy' | ⟨rfl, hy'⟩
        · rw [bif_t (by simpa using hy')]
          exact Or.inr ⟨_, rfl, Or.inl rfl⟩
        · rw [bif_f (by simpa using hy')]
          refine Or.inl ⟨_, rfl, by rw [wr_in (by omega)]; simp, hy', by simp only []; omega, fun j r hj hjr => ?_⟩
          by_cases e : j = k
          · subst e
            rw [List.getElem?_eq_getElem hk] at hjr
            simp only [Option.some.injEq] at hjr
            subst hjr; omega
          · exact hall j r (by omega) hjr) (by
        rintro ⟨x, i⟩ ⟨hi, h0, h1, hall⟩
        simp only at hi h0 h1
        subst hi
        unfold m_laws_szInt64SS_s1
        simp only []
        rw [bif_f (by simp)]
        refine ⟨_, rfl, Or.inr ⟨x, rfl, h0, by omega, fun r hr' => ?_⟩⟩
        obtain ⟨j, hj, hjr⟩ := List.mem_iff_getElem.1 hr'
        exact hall j r hj (by rw [List.getElem?_eq_getElem hj, hjr]))
    rw [h1]
    simp only [bind_some']
    rcases h2 with rfl | ⟨y, rfl, g1, g2, g3⟩
    · exact ⟨-1, rfl, Or.inl (by omega)⟩
    · exact ⟨y, rfl, Or.inr ⟨g1, g2, by omega, g3⟩⟩

structure WSmall (c j : List (List Int)) (f : List Int) : Prop where
  hc : c.length ≤ 1048576
  hj : j.length ≤ 1048576
  hf : f.length ≤ 1048576
  hcr : ∀ r ∈ c, r.length ≤ 1048576
  hjr : ∀ r ∈ j, r.length ≤ 1048576
structure WBig (c j : List (List Int)) (f : List Int) : Prop where
  hc : c.length ≤ 9223372036854775807
  hj : j.length ≤ 9223372036854775807
  hf : f.length ≤ 9223372036854775807
  hcr : ∀ r ∈ c, r.length ≤ 9223372036854775807
  hjr : ∀ r ∈ j, r.length ≤ 9223372036854775807
theorem szW_eq (n : Int) {c j : List (List Int)} {f : List Int} (hb : WBig c j f) : ∃ y, m_laws_szWiring n c j f 1048576 = some y ∧ (y < 0 ∨ (¬ y < 0 ∧ WSmall c j f)) := by
  unfold m_laws_szWiring
  obtain ⟨y1, e1, h1⟩ := szInt64SS_eq c 1048576 (by omega) hb.hc hb.hcr
  rw [e1, bind_some']
  rcases h1 with h1 | ⟨g0, g1, g2, g3⟩
  · rw [bif_t (by simpa using h1)]; exact ⟨-1, rfl, Or.inl (by omega)⟩
  rw [bif_f (by simpa using g0)]
  obtain ⟨y2, e2, h2⟩ := szInt64SS_eq j y1 (by omega) hb.hj hb.hjr
  rw [e2, bind_some']
  rcases h2 with h2 | ⟨k0, k1, k2, k3⟩
  · rw [bif_t (by simpa using h2)]; exact ⟨-1, rfl, Or.inl (by omega)⟩
  rw [bif_f (by simpa using k0)]
  obtain ⟨y3, e3, h3⟩ := szInt64S_eq f y2 (by omega) hb.hf
  rw [e3, bind_some']
  rcases h3 with h3 | ⟨rfl, h3⟩
  · rw [bif_t (by simpa using h3)]; exact ⟨-1, rfl, Or.inl (by omega)⟩
  rw [bif_f (by simpa using h3)]
  exact ⟨_, rfl, Or.inr ⟨by omega, by omega, by omega, by omega, fun r hr => by have := g3 r hr; omega, fun r hr => by have := k3 r hr; omega⟩⟩
theorem toW_eq (n : Int) {c j : List (List Int)} {f : List Int} (h : WSmall c j f) : m_laws_toWiring n c j f = some (n, c, j, f) := by
  unfold m_laws_toWiring
  rw [toInt64SS_eq c h.hc h.hcr, bind_some', toInt64SS_eq j h.hj h.hjr, bind_some', toInt64S_eq f h.hf]; rfl
theorem eqW_eq (n : Int) {c j : List (List Int)} {f : List Int} (h : WSmall c j f) : m_laws_eqWiring n c j f n c j f = some true := by
  unfold m_laws_eqWiring
  rw [bif_f (by simp), eqInt64SS_eq c (by have := h.hc; omega) (fun r hr => by have := h.hcr r hr; omega), bind_some', bif_f (by rfl), eqInt64SS_eq j (by have := h.hj; omega) (fun r hr => by have := h.hjr r hr; omega), bind_some', bif_f (by rfl), eqInt64S_eq f (by have := h.hf; omega)]
  rfl
theorem specCostOf_eq (n : Int) (c j : List (List Int)) (f l : List Int) (h1 : c.length ≤ 140737488) (h2 : j.length ≤ 140737488) (h3 : f.length ≤ 140737488) : m_spec_CostOf n c j f l = some (costV n c j f l) := by
  unfold m_spec_CostOf costV isLayV
  rw [specIs_eq n c j f h1 h2 h3, bind_some']
  cases h : validV n c j f with
  | false => rfl
  | true =>
    rw [bif_f (by rfl), specLay_eq h, bind_some']
    cases h4 : (decide ((l.length : Int) = n) && layV c f l) with
    | false => rfl
    | true =>
      rw [Bool.and_eq_true, decide_eq_true_eq] at h4
      rw [bif_f (by rfl), specCost_eq h h4.1]; rfl
end Go.Proofs.Ytngnljnfbfgfeaa
