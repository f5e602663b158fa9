/- The law of ClockWires. -/
import Derived.Test.YtmodhpgnkbnbaaaPuTree
import Derived.Test.YtmodhpgnkbnbaaaPuMark
set_option linter.unusedSimpArgs false
set_option linter.unusedVariables false
namespace Go.Proofs.Ytmodhpgnkbnbaaa
open Go.RowKit

noncomputable def wiresV (ps : List Pt) (l : List (List Int)) : List Int × Bool := if askB ps l then (WS ps l l.length, true) else ([], false)
theorem wiresV_len (ps : List Pt) (l : List (List Int)) : ((wiresV ps l).1.length : Int) ≤ ps.length + l.length := by
  unfold wiresV
  split
  · simp only []; rw [WS_len]; omega
  · simp; omega
theorem specWires_eq (ps : List Pt) (l : List (List Int)) (hb : ps.length ≤ 140737488355328) : m_spec_ClockWires ps l = some (wiresV ps l) := by
  unfold m_spec_ClockWires wiresV
  rw [ask_eq ps l hb]
  simp only [bind_some']
  cases h : askB ps l with
  | false => rfl
  | true => rw [bif_f (by rfl), specTree_eq h]; rfl
theorem implWires_eq (ps : List Pt) (l : List (List Int)) (hb : ps.length ≤ 140737488355328) : m_impl_ClockWires ps l = some (wiresV ps l) := by
  unfold m_impl_ClockWires wiresV
  rw [implTree_eq ps l hb]
  simp only [bind_some']
  cases h : askB ps l <;> rfl
theorem lawWires_eq (ps : List Pt) (l : List (List Int)) (hp : ps.length ≤ 9223372036854775807) (hb : l.length ≤ 9223372036854775807) (hr : ∀ r ∈ l, r.length ≤ 9223372036854775807) : m_laws_FnExactClockWires ps l = some true := by
  unfold m_laws_FnExactClockWires
  obtain ⟨z, hz, h'⟩ := szP_eq ps 1048576 (by omega) hp
  rw [hz]
  simp only [bind_some']
  rcases h' with h' | ⟨rfl, h'⟩
  · rw [bif_t (by simpa using h')]
  rw [bif_f (by simpa using h')]
  obtain ⟨y, hy, h''⟩ := szInt64SS_eq l (1048576 - ps.length) (by omega) hb hr
  rw [hy]
  simp only [bind_some']
  rcases h'' with h'' | ⟨h0, _, h1, h2⟩
  · rw [bif_t (by simpa using h'')]
  have hr2 : ∀ r ∈ l, r.length ≤ 1048576 := fun r hr' => by have := h2 r hr'; omega
  have hw := wiresV_len ps l
  obtain ⟨mp, hmp, hmp'⟩ := markP_eq ps 1 (by omega) (by omega)
  obtain ⟨mr, hmr, hmr'⟩ := markII_eq l mp.1 (by omega) (by omega) (by omega) hr2
  rw [bif_f (by simpa using h0)]
  simp only [toPointS_eq ps (by omega), toInt64SS_eq l (by omega) hr2, bind_some', specWires_eq ps l (by omega), implWires_eq ps l (by omega), eqInt64S_eq (wiresV ps l).1 (by omega), eqPointS_eq ps (by omega), eqInt64SS_eq l hb hr, hmp, hmr]
  simp only [Bool.not_true, beq_self_eq_true, cond_false, markI_eq (wiresV ps l).1 1 (by omega) (by omega), heldI_eq (wiresV ps l).1.length 1 (by omega) (by omega), bind_some']
  rw [bif_f (by simpa using hmr'), bif_f (by simp; omega), bif_f (by simp), bif_f (by simp; omega), bif_f (by simp)]
end Go.Proofs.Ytmodhpgnkbnbaaa
