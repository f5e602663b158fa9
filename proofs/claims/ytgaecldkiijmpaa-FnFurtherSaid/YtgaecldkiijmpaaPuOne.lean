/- Points taken one by one. -/
import Derived.Test.YtgaecldkiijmpaaPuGain
set_option linter.unusedSimpArgs false
set_option linter.unusedVariables false
namespace Go.Proofs.Ytgaecldkiijmpaa
open Go.RowKit

/-- The greatest gain among the first v points, and where it comes first. -/
noncomputable def obF (hv all : List Pt) : Nat → Int × Option Nat
  | 0 => (0, none)
  | v + 1 => if gainV all (gP hv v) > (obF hv all v).1 then (gainV all (gP hv v), some v) else obF hv all v
def repPt (hv : List Pt) : Option Nat → Pt
  | none => (0, 0)
  | some i => gP hv i
def repIx : Option Nat → Int
  | none => -1
  | some i => i
theorem obF_inv (hv all : List Pt) : ∀ v, 0 ≤ (obF hv all v).1 ∧ ((obF hv all v).2 = none → (obF hv all v).1 = 0) ∧ ∀ i, (obF hv all v).2 = some i → i < v ∧ 0 < (obF hv all v).1
  | 0 => ⟨Int.le_refl _, fun _ => rfl, fun i h => by cases h⟩
  | v + 1 => by
    obtain ⟨h1, h2, h3⟩ := obF_inv hv all v
    unfold obF
    split
    · rename_i c
      refine ⟨by simp only []; omega, (fun h => nomatch h), fun i h => ?_⟩
      simp only [Option.some.injEq] at h
      exact ⟨by omega, by simp only []; omega⟩
    · exact ⟨h1, h2, fun i h => ⟨by have := (h3 i h).1; omega, (h3 i h).2⟩⟩
section
variable {hv all : List Pt}
theorem implOb (hh : okPs hv = true) (hl : hv.length ≤ 1000000) (h : okPs all = true) (h1 : 1 ≤ all.length) (hb : all.length ≤ 20) :
    loopM (m_impl_oneByOne_s4 all hv) (0, 0, 0, 0) = some ((obF hv all hv.length).1, (repPt hv (obF hv all hv.length).2).1, (repPt hv (obF hv all hv.length).2).2) := by
  have := loop_run (step := m_impl_oneByOne_s4 all hv) hv.length (fun v => ((obF hv all v).1, (v : Int), (repPt hv (obF hv all v).2).1, (repPt hv (obF hv all v).2).2)) (r := ((obF hv all hv.length).1, (repPt hv (obF hv all hv.length).2).1, (repPt hv (obF hv all hv.length).2).2)) (by
    intro v hvl
    have e : obF hv all (v + 1) = if gainV all (gP hv v) > (obF hv all v).1 then (gainV all (gP hv v), some v) else obF hv all v := rfl
    rw [e]
    generalize obF hv all v = s
    unfold m_impl_oneByOne_s4
    simp only []
    rw [bif_t (by simpa using hvl), geti_gP hvl]
    simp only [bind_some']
    rw [implGain_eq h (gP_ok hh hvl) h1 (by omega)]
    simp only [bind_some']
    by_cases c : gainV all (gP hv v) > s.1
    · rw [bif_t (by simpa using c), if_pos c]
      simp only [bind_some']
      rw [wr_in (by omega)]; rfl
    · rw [bif_f (by simpa using c), if_neg c]
      simp only [bind_some']
      rw [wr_in (by omega)]; rfl) (by
    unfold m_impl_oneByOne_s4
    simp only []
    rw [bif_f (by simp)])
  exact this
end
end Go.Proofs.Ytgaecldkiijmpaa
