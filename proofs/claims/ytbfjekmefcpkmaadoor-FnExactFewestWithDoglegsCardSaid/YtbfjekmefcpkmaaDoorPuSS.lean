/- Plain facts on what the laws do ahead of and behind a call, with lists of lists: they weigh, they copy, they compare. -/
import Derived.Test.YtbfjekmefcpkmaaDoorPuLp
import Derived.Test.YtbfjekmefcpkmaaDoorMod
set_option linter.unusedSimpArgs false
set_option linter.unusedVariables false
namespace Go.Proofs.YtbfjekmefcpkmaaDoor
open Go.RowKit

theorem toInt64S_eq (ps : List Int) (hb : ps.length ≤ 1048576) : m_laws_toInt64S ps = some ps := by
  unfold m_laws_toInt64S
  rw [mkC_ok (by unfold lim; omega)]
  simp only [bind_some']
  have hl : loopM (m_laws_toInt64S_s1 ps) (0, List.replicate (Int.toNat (ps.length : Int)) (0 : Int)) = some ps := by
    refine loopM_val _ ps.length (fun k s => s.1 = (k : Int) ∧ Laid ps s.2 k) ⟨rfl, Laid.zero _ _ (by simp)⟩ ?_ ?_
    · rintro k ⟨x, acc⟩ hk ⟨hx, hL⟩
      simp only at hx hL
      subst hx
      unfold m_laws_toInt64S_s1
      simp only []
      rw [bif_t (by simpa using hk), geti_lt hk, geti_lt (l := acc) (by rw [hL.1]; exact hk)]
      left
      exact ⟨_, rfl, by rw [wr_in (by omega)]; simp, by simpa using hL.succ hk⟩
    · rintro ⟨x, acc⟩ ⟨hx, hL⟩
      simp only at hx hL
      subst hx
      unfold m_laws_toInt64S_s1
      simp only []
      rw [bif_f (by simp), hL.all]
  rw [hl]; rfl
theorem eqInt64S_eq (ps : List Int) (hb : ps.length ≤ 9223372036854775807) : m_laws_eqInt64S ps ps = some true := by
  unfold m_laws_eqInt64S
  rw [bif_f (by simp)]
  have hl : loopM (m_laws_eqInt64S_s1 ps ps) 0 = some (Sum.inl ()) := by
    refine loopM_val _ ps.length (fun k s => s = (k : Int)) rfl ?_ ?_
    · rintro k _ hk rfl
      unfold m_laws_eqInt64S_s1
      simp only []
      rw [bif_t (by simpa using hk), geti_lt hk]
      left
      exact ⟨wr ((k : Int) + 1), by simp [bind_some'], by rw [wr_in (by omega)]; omega⟩
    · rintro _ rfl
      unfold m_laws_eqInt64S_s1
      simp only []
      rw [bif_f (by simp)]
  rw [hl]; rfl
theorem eqInt64SS_eq (ll : List (List Int)) (hb : ll.length ≤ 9223372036854775807) (hr : ∀ r ∈ ll, r.length ≤ 9223372036854775807) : m_laws_eqInt64SS ll ll = some true := by
  unfold m_laws_eqInt64SS
  rw [bif_f (by simp)]
  have hl : loopM (m_laws_eqInt64SS_s1 ll ll) 0 = some (Sum.inl ()) := by
    refine loopM_val _ ll.length (fun k s => s = (k : Int)) rfl ?_ ?_
    · rintro k _ hk rfl
      unfold m_laws_eqInt64SS_s1
      simp only []
      rw [bif_t (by simpa using hk), geti_lt hk]
      left
      exact ⟨wr ((k : Int) + 1), by simp [bind_some', eqInt64S_eq _ (hr _ (List.getElem_mem hk))], by rw [wr_in (by omega)]; omega⟩
    · rintro _ rfl
      unfold m_laws_eqInt64SS_s1
      simp only []
      rw [bif_f (by simp)]
  rw [hl]; rfl
theorem szInt64S_eq (l : List Int) (p : Int) (h : 0 ≤ p ∧ p ≤ 1048576) (hb : l.length ≤ 9223372036854775807) : ∃ y, m_laws_szInt64S l p = some y ∧ (y < 0 ∨ (y = p - l.length ∧ 0 ≤ y)) := by
  unfold m_laws_szInt64S
  rw [wr_in (x := p - l.length) (by omega)]
  by_cases hn : p - (l.length : Int) < 0
  · exact ⟨-1, bif_t (by simpa using hn), Or.inl (by omega)⟩
  · exact ⟨_, bif_f (by simpa using hn), Or.inr ⟨rfl, by omega⟩⟩
end Go.Proofs.YtbfjekmefcpkmaaDoor
