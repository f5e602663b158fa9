/- The laws of ValidWiring, IsLayering and CostOf. -/
import Derived.Test.YtfjpfomdoohabaaPuWir
set_option linter.unusedSimpArgs false
set_option linter.unusedVariables false
namespace Go.Proofs.Ytfjpfomdoohabaa
open Go.RowKit

theorem eqInt64S_eq (ps : List Int) (hb : ps.length ≤ 9223372036854775807) : m_laws_eqInt64S ps ps = some true := by
  unfold m_laws_eqInt64S
  rw [bif_f (by simp)]
  have hl : loopM (m_laws_eqInt64S_s1 ps ps) 0 = some (Sum.inl ()) := by
    refine loopM_val _ ps.length (fun k s => s = (k : Int)) rfl ?_ ?_
    · rintro k _ hk rfl
      unfold m_laws_eqInt64S_s1
      simp only []
      rw [bif_t (by simpa using hk), geti_lt hk]
      left
      exact ⟨wr ((k : Int) + 1), by simp [bind_some'], by rw [wr_in (by omega)]; omega⟩
    · rintro _ rfl
      unfold m_laws_eqInt64S_s1
      simp only []
      rw [bif_f (by simp)]
  rw [hl]; rfl
theorem eqInt64SS_eq (ll : List (List Int)) (hb : ll.length ≤ 9223372036854775807) (hr : ∀ r ∈ ll, r.length ≤ 9223372036854775807) : m_laws_eqInt64SS ll ll = some true := by
  unfold m_laws_eqInt64SS
  rw [bif_f (by simp)]
  have hl : loopM (m_laws_eqInt64SS_s1 ll ll) 0 = some (Sum.inl ()) := by
    refine loopM_val _ ll.length (fun k s => s = (k : Int)) rfl ?_ ?_
    · rintro k _ hk rfl
      unfold m_laws_eqInt64SS_s1
      simp only []
      rw [bif_t (by simpa using hk), geti_lt hk]
      left
      exact ⟨wr ((k : Int) + 1), by simp [bind_some', eqInt64S_eq _ (hr _ (List.getElem_mem hk))], by rw [wr_in (by omega)]; omega⟩
    · rintro _ rfl
      unfold m_laws_eqInt64SS_s1
      simp only []
      rw [bif_f (by simp)]
  rw [hl]; rfl
structure WSmall (c j : List (List Int)) (f : List Int) : Prop where
  hc : c.length ≤ 1048576
  hj : j.length ≤ 1048576
  hf : f.length ≤ 1048576
  hcr : ∀ r ∈ c, r.length ≤ 1048576
  hjr : ∀ r ∈ j, r.length ≤ 1048576
structure WBig (c j : List (List Int)) (f : List Int) : Prop where
  hc : c.length ≤ 9223372036854775807
  hj : j.length ≤ 9223372036854775807
  hf : f.length ≤ 9223372036854775807
  hcr : ∀ r ∈ c, r.length ≤ 9223372036854775807
  hjr : ∀ r ∈ j, r.length ≤ 9223372036854775807
end Go.Proofs.Ytfjpfomdoohabaa
