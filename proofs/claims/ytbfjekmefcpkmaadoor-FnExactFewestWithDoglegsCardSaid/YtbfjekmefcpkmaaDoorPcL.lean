/- The law of the fewest tracks. -/
import Derived.Test.YtbfjekmefcpkmaaDoorPcK
import Derived.Test.YtbfjekmefcpkmaaDoorPuRow
set_option linter.unusedSimpArgs false
set_option linter.unusedVariables false
set_option linter.unusedSectionVars false
namespace Go.Proofs.YtbfjekmefcpkmaaDoor
open Go.RowKit

theorem Chain.len {A B : Nat → Nat → Bool} {n left : Nat} {cs : List Nat} (h : Chain A B n left cs) : left < 2 ^ n → cs.length ≤ cnt n left := by
  induction h with
  | z => intro _; exact Nat.zero_le _
  | s hb _ ih =>
    intro hl
    have h1 := ih (sub_lt hl)
    have h2 := cnt_sub hb.gd.fit hl
    rw [List.length_cons]; omega
/-- What both programs answer. -/
structure Few (r : List (List Int) × Bool) : Prop where
  len : r.1.length ≤ 1000
  rows : ∀ t ∈ r.1, t.length ≤ 1000
theorem toChannel_eq (T U : List Int) (hT : T.length ≤ 1048576) (hU : U.length ≤ 1048576) : m_laws_toChannel T U = some (T, U) := by
  unfold m_laws_toChannel
  rw [toInt64S_eq T hT, toInt64S_eq U hU]; rfl
theorem eqChannel_eq (T U : List Int) (hT : T.length ≤ 1048576) (hU : U.length ≤ 1048576) : m_laws_eqChannel T U T U = some true := by
  unfold m_laws_eqChannel
  rw [eqInt64S_eq T (by omega), eqInt64S_eq U (by omega)]; rfl
theorem markChannel_eq (T U : List Int) (hT : T.length ≤ 1048576) (hU : U.length ≤ 1048576) : ∃ y, m_laws_markChannel T U 1 = some y ∧ 0 ≤ y.1 := by
  unfold m_laws_markChannel
  rw [markI_eq T 1 (by omega) (by omega)]
  simp only [Option.bind_some]
  rw [markI_eq U _ (by omega) (by omega)]
  exact ⟨_, rfl, by simp only; omega⟩
theorem szChannel_eq (T U : List Int) (hT : T.length ≤ 9223372036854775807) (hU : U.length ≤ 9223372036854775807) : ∃ y, m_laws_szChannel T U 1048576 = some y ∧ (y < 0 ∨ (T.length ≤ 1048576 ∧ U.length ≤ 1048576)) := by
  unfold m_laws_szChannel
  obtain ⟨y, h1, h2⟩ := szInt64S_eq T 1048576 (by omega) hT
  rw [h1]
  simp only [Option.bind_some]
  by_cases hy : y < 0
  · exact ⟨-1, bif_t (by simpa using hy), .inl (by omega)⟩
  · rw [bif_f (by simpa using hy)]
    obtain ⟨z, g1, g2⟩ := szInt64S_eq U y (by omega) hU
    rw [g1]
    simp only [Option.bind_some]
    by_cases hz : z < 0
    · exact ⟨-1, bif_t (by simpa using hz), .inl (by omega)⟩
    · exact ⟨z, bif_f (by simpa using hz), .inr (by omega)⟩
end Go.Proofs.YtbfjekmefcpkmaaDoor
