/- The source of drawn numbers: what 'next' and 'pick' give is small, and they always give something. -/
import Derived.Test.YtbfjekmefcpkmaaDoorMod
import Derived.Test.YtbfjekmefcpkmaaDoorPur
set_option linter.unusedSimpArgs false
set_option linter.unusedVariables false
namespace Go.Proofs.YtbfjekmefcpkmaaDoor
open Go.RowKit

theorem src_next {l : List Int} (hl : ∀ p ∈ l, In8 p) {k s : Int} (h0 : 0 ≤ k) (h1 : k ≤ 100000) :
  ∃ v s', m_sL00SrNext l k s = some (v, k + 1, s') ∧ 0 ≤ v ∧ v ≤ 255 := by
 unfold m_sL00SrNext
 have hand : ∀ y : Int, 0 ≤ wr (andU y 255) ∧ wr (andU y 255) ≤ 255 := fun y => by
  have := andU_range y
  rw [wr_in (by omega)]; exact this
 have step : ∀ z : Int, 0 ≤ z → z ≤ 255 → ∃ v s', (fun (x25 : Int) => (bif decide ((wr (k + 1)) ≤ (((l).length : Int))) then some ((x25, wr (k + 1), wu ((wu ((wu (s * 6364136223846793005)) + (wu x25))) + 1442695040888963407))) else some ((wr (andU (shrU (wu ((wu ((wu (s * 6364136223846793005)) + (wu x25))) + 1442695040888963407)) 40) 255), wr (k + 1), wu ((wu ((wu (s * 6364136223846793005)) + (wu x25))) + 1442695040888963407))))) z = some (v, k + 1, s') ∧ 0 ≤ v ∧ v ≤ 255 := fun z h2 h3 => by
  simp only [wr_in (x := k + 1) (by omega)]
  by_cases c : k + 1 ≤ (l.length : Int)
  ·rw [bif_t (by simpa using c)]; exact ⟨_, _, rfl, h2, h3⟩
  ·rw [bif_f (by simpa using c)]; exact ⟨_, _, rfl, hand _⟩
 by_cases c : k < (l.length : Int)
 ·rw [bif_t (by simpa using c)]
  obtain ⟨j, rfl⟩ := Int.eq_ofNat_of_zero_le h0
  have hj : j < l.length := by omega
  rw [geti_lt hj]
  have hb := hl _ (List.getElem_mem hj)
  rw [bind_some', bind_some', wr_in (x := l[j]) (by unfold In8 at hb; omega)]
  exact step _ hb.1 (by have := hb.2; omega)
 ·rw [bif_f (by simpa using c)]
  rw [bind_some']
  exact step 0 (by omega) (by omega)
theorem src_pick {l : List Int} (hl : ∀ p ∈ l, In8 p) {k s n : Int} (h0 : 0 ≤ k) (h1 : k ≤ 1000) (h2 : 2 ≤ n) (h3 : n ≤ 200) :
  ∃ v s', m_sL00SrPick l k s n = some (v, k + 1, s') ∧ 0 ≤ v ∧ v < n := by
 unfold m_sL00SrPick
 rw [bif_f (by simp; omega)]
 obtain ⟨v, s', hv, g0, g1⟩ := src_next (s := s) hl h0 (by omega)
 rw [hv]
 simp only [bind_some']
 rw [bif_f (by simp; omega), nzC_ok (by omega)]
 simp only [bind_some']
 refine ⟨_, _, rfl, ?_, ?_⟩
 ·exact Int.tmod_nonneg _ g0
 ·rw [Int.tmod_eq_emod_of_nonneg g0]; exact Int.emod_lt_of_pos _ (by omega)
end Go.Proofs.YtbfjekmefcpkmaaDoor
