/- One group turned over. -/
import Derived.Test.YtngnljnfbfgfeaaPuGr
set_option linter.unusedSimpArgs false
set_option linter.unusedVariables false
set_option linter.unusedSectionVars false
namespace Go.Proofs.Ytngnljnfbfgfeaa
open Go.RowKit

theorem cloneI_eq (l : List Int) (hb : l.length ≤ 1000000) : m_slices_Clone_int64_int64 l = some l := by
  unfold m_slices_Clone_int64_int64
  rw [apC_ok (by unfold lim; simp; omega)]
  rfl
theorem flip_step {f : List Int} {p : Int} {gss : List (List Int)} {r : List Int} (h : geti gss p = some r) : m_spec_FlipGroup_s1 f p gss = m_impl_FlipGroup_s1 f r := by
  funext s
  unfold m_spec_FlipGroup_s1 m_impl_FlipGroup_s1
  rw [h]
  obtain ⟨x, l⟩ := s
  simp only [bind_some']
theorem flip_loop {f l r : List Int} (hl : f.length = l.length) (hl14 : l.length ≤ 14) (hr : ∀ y ∈ r, 0 ≤ y ∧ y < l.length) (hrl : r.length ≤ 14) :
    ∃ v, loopM (m_impl_FlipGroup_s1 f r) (0, l) = some v ∧ ((∃ L : List Int, v = Sum.inl L ∧ L.length = l.length) ∨ v = Sum.inr ([], false)) := by
  refine loopM_count _ r.length (fun k s => s.1 = (k : Int) ∧ s.2.length = l.length) _ ⟨rfl, rfl⟩ ?_ ?_
  · rintro k ⟨x, s⟩ hk ⟨e1, e2⟩
    simp only at e1 e2
    subst e1
    unfold m_impl_FlipGroup_s1
    simp only []
    have hy := hr _ (List.getElem_mem hk)
    rw [bif_t (by simpa using hk), geti_lt hk]
    simp only [bind_some']
    rw [geti_gI' hy.1 (by rw [hl]; exact hy.2), geti_gI' (l := s) hy.1 (by rw [e2]; exact hy.2), wr_in (x := (k : Int) + 1) (by omega)]
    simp only [bind_some']
    by_cases hc : gI f (r[k]).toNat ≥ 0
    · right
      rw [bif_t (by simpa using hc)]
      exact ⟨_, rfl, Or.inr rfl⟩
    · left
      rw [bif_f (by simpa using hc)]
      exact ⟨_, rfl, rfl, by rw [List.length_set]; exact e2⟩
  · rintro ⟨x, s⟩ ⟨e1, e2⟩
    simp only at e1 e2
    subst e1
    refine ⟨Sum.inl s, ?_, Or.inl ⟨s, rfl, e2⟩⟩
    unfold m_impl_FlipGroup_s1
    simp only []
    rw [bif_f (by simp)]
theorem flip_both (n : Int) (c j : List (List Int)) (f l : List Int) (p : Int) (h1 : c.length ≤ 140737488) (h2 : j.length ≤ 140737488) (h3 : f.length ≤ 140737488) :
    ∃ v : List Int × Bool, m_spec_FlipGroup n c j f l p = some v ∧ m_impl_FlipGroup n c j f l p = some v ∧ v.1.length ≤ 14 := by
  unfold m_spec_FlipGroup m_impl_FlipGroup
  rw [specIs_eq n c j f h1 h2 h3, implLay_eq n c j f l h1 h2 h3]
  simp only [bind_some']
  unfold isLayV
  cases hv : validV n c j f with
  | false => exact ⟨_, rfl, rfl, by simp⟩
  | true =>
    obtain ⟨hn14, hfl, _⟩ := validV_t hv
    rw [bif_f (by rfl), specLay_eq hv, Bool.true_and]
    simp only [bind_some']
    cases hy : (decide ((l.length : Int) = n) && layV c f l) with
    | false => exact ⟨_, rfl, rfl, by simp⟩
    | true =>
      have hln : (l.length : Int) = n := by
        rw [Bool.and_eq_true] at hy; exact of_decide_eq_true hy.1
      rw [bif_f (by rfl), bif_f (by rfl), specGroups_eq hv, implGroups_eq hv]
      simp only [bind_some', in_eq, in_eq']
      have hgl := gs_len (crG n c) n.toNat
      cases hp : (decide (0 ≤ p) && decide (p ≤ wr (((gs (crG n c) n.toNat).length : Int) - 1))) with
      | false => exact ⟨_, rfl, rfl, by simp⟩
      | true =>
        rw [wr_in (by omega), Bool.and_eq_true, decide_eq_true_iff, decide_eq_true_iff] at hp
        rw [bif_f (by rfl), bif_f (by rfl), own_eq l (by omega), cloneI_eq l (by omega)]
        have hgp := geti_gR' hp.1 (c := gs (crG n c) n.toNat) (by omega)
        simp only [bind_some', hgp, flip_step hgp]
        have hrm : gR (gs (crG n c) n.toNat) p.toNat ∈ gs (crG n c) n.toNat := gR_mem (by omega)
        obtain ⟨t, ht⟩ := gs_row _ _ _ hrm
        have hlen := gpK_len (crG n c) t (crG n c).length
        obtain ⟨v, v1, v2⟩ := flip_loop (f := f) (l := l) (r := gR (gs (crG n c) n.toNat) p.toNat) (by omega) (by omega) (fun y hy => by
          rw [ht] at hy
          have := gpK_mem.1 hy
          rw [crG_len] at this
          omega) (by rw [ht]; rw [crG_len] at hlen ⊢; omega)
        rw [v1]
        rcases v2 with ⟨L, rfl, hL⟩ | rfl
        · exact ⟨_, rfl, rfl, by simp only []; omega⟩
        · exact ⟨_, rfl, rfl, by simp⟩
theorem markW_eq2 (n : Int) {c j : List (List Int)} {f : List Int} (h : WSmall c j f) : ∃ r, m_laws_markWiring n c j f 1 = some r ∧ 0 ≤ r.1 ∧ r.1 ≤ 10000000000000 := by
  unfold m_laws_markWiring
  have o1 := offs_le h.hcr (k := 1) c.length (Nat.le_refl _)
  have q1 := h.hc; have q2 := h.hj; have q3 := h.hf
  have o2 := offs_le h.hjr (k := offs 1 c c.length) j.length (Nat.le_refl _)
  rw [markR_eq c 1 (by omega) (by omega) (by omega) h.hcr]
  simp only [bind_some']
  rw [markR_eq j _ (by omega) (by omega) (by omega) h.hjr]
  simp only [bind_some']
  rw [markI_eq f _ (by omega) (by omega)]
  exact ⟨_, rfl, by simp only []; omega⟩
theorem lawFlipGroup_eq (n : Int) (c j : List (List Int)) (f l : List Int) (p : Int) (hb : WBig c j f) (hl : l.length ≤ 9223372036854775807) : m_laws_FnExactFlipGroup n c j f l p = some true := by
  unfold m_laws_FnExactFlipGroup
  by_cases h0 : ((l.length : Int)) > 1048576
  · rw [bif_t (by simpa using h0)]
  rw [bif_f (by simpa using h0)]
  obtain ⟨z, hz, h⟩ := szW_eq n hb
  rw [hz, bind_some']
  rcases h with h | ⟨h, hs⟩
  · rw [bif_t (by simpa using h)]
  rw [bif_f (by simpa using h), toW_eq n hs]
  have q1 := hs.hc; have q2 := hs.hj; have q3 := hs.hf
  obtain ⟨v, v1, v2, v3⟩ := flip_both n c j f l p (by omega) (by omega) (by omega)
  obtain ⟨r, hr, hr0, hr1⟩ := markW_eq2 n hs
  simp only [bind_some', toInt64S_eq l (by omega), v1, v2, eqW_eq n hs, eqInt64S_eq v.1 (by omega), eqInt64S_eq l (by omega), hr]
  simp only [bind_some', markI_eq l r.1 hr0 (by omega), markI_eq v.1 1 (by omega) (by omega), heldI_eq v.1.length 1 (by omega) (by omega), Bool.not_true, cond_false, beq_self_eq_true, bne_self_eq_false]
  rw [bif_f (by simp; omega), bif_f (by simp; omega), bif_f (by simp; omega)]
end Go.Proofs.Ytngnljnfbfgfeaa
