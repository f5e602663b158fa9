/- The gain of a further point, and points taken one by one. -/
import Derived.Test.YtdkpfkmmblmlhaaPuSpan
set_option linter.unusedSimpArgs false
set_option linter.unusedVariables false
namespace Go.Proofs.Ytdkpfkmmblmlhaa
open Go.RowKit

theorem Contains_eq (l : List Pt) (p : Pt) (hb : l.length ≤ 140737488355328) : m_slices_Contains_impl_Point_impl_Point l p.1 p.2 = some (decide (p ∈ l)) := by
  unfold m_slices_Contains_impl_Point_impl_Point m_slices_Index_impl_Point_impl_Point
  rcases loop_find (step := m_slices_Index_impl_Point_impl_Point_s1 l p.1 p.2) l.length (fun k => decide (l[k]? = some p)) (fun k => (k : Int)) (by
      intro k hk
      unfold m_slices_Index_impl_Point_impl_Point_s1
      simp only []
      rw [bif_t (by simpa using hk), geti_lt hk]
      simp only [bind_some', eqb, List.getElem?_eq_getElem hk, Option.some.injEq]
      by_cases h : p = l[k]
      · simp [h.symm]
      · have h' : ¬ l[k] = p := fun e => h e.symm
        simp only [h, h', decide_false, cond_false]
        rw [wr_in (by omega)]; rfl) (by
      unfold m_slices_Index_impl_Point_impl_Point_s1
      simp only []
      rw [bif_f (by simp)]) with ⟨h1, h2⟩ | ⟨k, h1, h2, _, h3⟩
  · rw [h2]
    have : p ∉ l := fun hp => by
      obtain ⟨k, hk, rfl⟩ := List.mem_iff_getElem.1 hp
      have := anyIn_f.1 h1 k (by omega) hk
      simp [List.getElem?_eq_getElem hk] at this
    simp [this]
  · rw [h3]
    have : p ∈ l := by
      simp only [decide_eq_true_eq] at h2
      exact List.mem_of_getElem? h2
    simp [this]
open Classical in
noncomputable def gainV (ps : List Pt) (p : Pt) : Int := if p ∈ ps then 0 else (trV ps).2 - (trV (ps ++ [p])).2
theorem okPs_snoc {ps : List Pt} {p : Pt} (h : okPs ps = true) (hp : okP p = true) : okPs (ps ++ [p]) = true := by
  unfold okPs at h ⊢
  rw [List.all_append, h]
  simp [hp]
section
variable {ps : List Pt} {p : Pt}
theorem gain_b (h : okPs ps = true) (hp : okP p = true) (h1 : 1 ≤ ps.length) (hb : ps.length ≤ 900) : -198000 ≤ (trV ps).2 - (trV (ps ++ [p])).2 ∧ (trV ps).2 - (trV (ps ++ [p])).2 ≤ 198000 := by
  have s1 := trV_sum h h1 (by omega)
  have s2 := trV_sum (okPs_snoc h hp) (by simp) (by simp; omega)
  omega
theorem implGain_eq (h : okPs ps = true) (hp : okP p = true) (h1 : 1 ≤ ps.length) (hb : ps.length ≤ 900) : m_impl_gain ps p.1 p.2 = some (gainV ps p) := by
  unfold m_impl_gain gainV
  rw [Contains_eq ps p (by omega)]
  simp only [bind_some']
  by_cases c : p ∈ ps
  · rw [bif_t (by simpa using c), if_pos c]
  · rw [bif_f (by simpa using c), if_neg c, implSpan_eq h h1 (by omega)]
    simp only [bind_some']
    rw [apC_ok (by unfold lim; simp; omega), implSpan_eq (okPs_snoc h hp) (by simp) (by simp; omega)]
    simp only [bind_some']
    have := gain_b h hp h1 hb
    rw [wr_in (by omega)]
theorem specGain_eq (h : okPs ps = true) (hp : okP p = true) (h1 : 1 ≤ ps.length) (hb : ps.length ≤ 900) : m_spec_l05Gain ps p.1 p.2 = some ((trV ps).2 - (trV (ps ++ [p])).2) := by
  unfold m_spec_l05Gain
  rw [specTree_eq h h1 (by omega)]
  simp only [bind_some', List.nil_append]
  rw [apC_ok (by unfold lim; simp; omega)]
  simp only [bind_some']
  rw [apC_ok (by unfold lim; simp; omega), specTree_eq (okPs_snoc h hp) (by simp) (by simp; omega)]
  simp only [bind_some']
  have := gain_b h hp h1 hb
  rw [wr_in (by omega)]
end
open Classical in
noncomputable def gainOfV (ps : List Pt) (p : Pt) : Int × Bool := if pinsB 19 ps && okP p then (gainV ps p, true) else (0, false)
theorem pinsB_19 (ps : List Pt) : pinsB 19 ps = (pinsB 20 ps && !decide ((ps.length : Int) ≥ 20)) := by
  unfold pinsB
  by_cases h : (ps.length : Int) ≤ 19
  · have h2 : (ps.length : Int) ≤ 20 := by omega
    have h3 : ¬ (ps.length : Int) ≥ 20 := by omega
    simp [h, h2, h3]
  · have h3 : (ps.length : Int) ≥ 20 := by omega
    simp [h, h3]
theorem lawGainOf_eq (ps : List Pt) (p : Pt) (hb : ps.length ≤ 9223372036854775807) : m_laws_FnExactGainOf ps p.1 p.2 = some true := by
  unfold m_laws_FnExactGainOf
  obtain ⟨z, hz, h⟩ := szP1_eq ps hb
  rw [hz, bind_some']
  rcases h with h | ⟨h, hn⟩
  · rw [bif_t (by simpa using h)]
  rw [bif_f (by simpa using h)]
  have hs : m_spec_GainOf ps p.1 p.2 = some (gainOfV ps p) := by
    unfold m_spec_GainOf gainOfV
    rw [specPins_eq ps (by omega), pinsB_19]
    simp only [bind_some']
    cases hB : pinsB 20 ps with
    | false => rfl
    | true =>
      obtain ⟨q1, q2, q3, q4⟩ := pinsB_t hB
      rw [bif_f (by rfl)]
      by_cases c : (ps.length : Int) ≥ 20
      · rw [bif_t (by simpa using c)]; simp [c]
      · rw [bif_f (by simpa using c), l01Point_eq]
        simp only [bind_some']
        cases hO : okP p with
        | false =>
          simp [c]
        | true =>
          rw [bif_f (by rfl)]
          obtain ⟨i, hi, hd⟩ := Index_eq ps p (by omega)
          rw [hi]
          simp only [bind_some', hd]
          unfold gainV
          by_cases cm : p ∈ ps
          · rw [bif_t (by simpa using cm)]; simp [c, cm]
          · rw [bif_f (by simpa using cm), specGain_eq q3 hO q1 (by omega)]; simp [c, cm]
  have hi : m_impl_GainOf ps p.1 p.2 = some (gainOfV ps p) := by
    unfold m_impl_GainOf gainOfV
    rw [implPins_eq ps 19 (by omega), IsPoint_eq]
    simp only [bind_some']
    cases hB : pinsB 19 ps with
    | false => rfl
    | true =>
      obtain ⟨q1, q2, q3, q4⟩ := pinsB_t hB
      rw [bif_f (by rfl)]
      cases hO : okP p with
      | false =>
        rfl
      | true =>
        rw [bif_f (by rfl), implGain_eq q3 hO q1 (by omega)]
        rfl
  unfold m_laws_toPoint
  simp only [toPointS_eq ps hn, bind_some', hs, hi, eqPointS_eq ps (by omega)]
  simp
end Go.Proofs.Ytdkpfkmmblmlhaa
