/- The gain of a further point, and points taken one by one. -/
import Derived.Test.YtooogkcoedampaaPuSpan
set_option linter.unusedSimpArgs false
set_option linter.unusedVariables false
namespace Go.Proofs.Ytooogkcoedampaa
open Go.RowKit

theorem Contains_eq (l : List Pt) (p : Pt) (hb : l.length ≤ 140737488355328) : m_slices_Contains_impl_Point_impl_Point l p.1 p.2 = some (decide (p ∈ l)) := by
  unfold m_slices_Contains_impl_Point_impl_Point m_slices_Index_impl_Point_impl_Point
  rcases loop_find (step := m_slices_Index_impl_Point_impl_Point_s1 l p.1 p.2) l.length (fun k => decide (l[k]? = some p)) (fun k => (k : Int)) (by
      intro k hk
      unfold m_slices_Index_impl_Point_impl_Point_s1
      simp only []
      rw [bif_t (by simpa using hk), geti_lt hk]
      simp only [bind_some', eqb, List.getElem?_eq_getElem hk, Option.some.injEq]
      by_cases h : p = l[k]
      · simp [h.symm]
      · have h' : ¬ l[k] = p := fun e => h e.symm
        simp only [h, h', decide_false, cond_false]
        rw [wr_in (by omega)]; rfl) (by
      unfold m_slices_Index_impl_Point_impl_Point_s1
      simp only []
      rw [bif_f (by simp)]) with ⟨h1, h2⟩ | ⟨k, h1, h2, _, h3⟩
  · rw [h2]
    have : p ∉ l := fun hp => by
      obtain ⟨k, hk, rfl⟩ := List.mem_iff_getElem.1 hp
      have := anyIn_f.1 h1 k (by omega) hk
      simp [List.getElem?_eq_getElem hk] at this
    simp [this]
  · rw [h3]
    have : p ∈ l := by
      simp only [decide_eq_true_eq] at h2
      exact List.mem_of_getElem? h2
    simp [this]
open Classical in
noncomputable def gainV (ps : List Pt) (p : Pt) : Int := if p ∈ ps then 0 else (trV ps).2 - (trV (ps ++ [p])).2
theorem okPs_snoc {ps : List Pt} {p : Pt} (h : okPs ps = true) (hp : okP p = true) : okPs (ps ++ [p]) = true := by
  unfold okPs at h ⊢
  rw [List.all_append, h]
  simp [hp]
section
variable {ps : List Pt} {p : Pt}
theorem gain_b (h : okPs ps = true) (hp : okP p = true) (h1 : 1 ≤ ps.length) (hb : ps.length ≤ 900) : -198000 ≤ (trV ps).2 - (trV (ps ++ [p])).2 ∧ (trV ps).2 - (trV (ps ++ [p])).2 ≤ 198000 := by
  have s1 := trV_sum h h1 (by omega)
  have s2 := trV_sum (okPs_snoc h hp) (by simp) (by simp; omega)
  omega
theorem implGain_eq (h : okPs ps = true) (hp : okP p = true) (h1 : 1 ≤ ps.length) (hb : ps.length ≤ 900) : m_impl_gain ps p.1 p.2 = some (gainV ps p) := by
  unfold m_impl_gain gainV
  rw [Contains_eq ps p (by omega)]
  simp only [bind_some']
  by_cases c : p ∈ ps
  · rw [bif_t (by simpa using c), if_pos c]
  · rw [bif_f (by simpa using c), if_neg c, implSpan_eq h h1 (by omega)]
    simp only [bind_some']
    rw [apC_ok (by unfold lim; simp; omega), implSpan_eq (okPs_snoc h hp) (by simp) (by simp; omega)]
    simp only [bind_some']
    have := gain_b h hp h1 hb
    rw [wr_in (by omega)]
end
open Classical in
noncomputable def gainOfV (ps : List Pt) (p : Pt) : Int × Bool := if pinsB 19 ps && okP p then (gainV ps p, true) else (0, false)
theorem pinsB_19 (ps : List Pt) : pinsB 19 ps = (pinsB 20 ps && !decide ((ps.length : Int) ≥ 20)) := by
  unfold pinsB
  by_cases h : (ps.length : Int) ≤ 19
  · have h2 : (ps.length : Int) ≤ 20 := by omega
    have h3 : ¬ (ps.length : Int) ≥ 20 := by omega
    simp [h, h2, h3]
  · have h3 : (ps.length : Int) ≥ 20 := by omega
    simp [h, h3]
end Go.Proofs.Ytooogkcoedampaa
