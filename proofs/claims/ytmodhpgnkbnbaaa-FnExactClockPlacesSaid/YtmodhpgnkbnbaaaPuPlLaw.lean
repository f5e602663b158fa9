/- The law of ClockPlaces. -/
import Derived.Test.YtmodhpgnkbnbaaaPuPlaces
import Derived.Test.YtmodhpgnkbnbaaaPuMark2
set_option linter.unusedSimpArgs false
set_option linter.unusedVariables false
namespace Go.Proofs.Ytmodhpgnkbnbaaa
open Go.RowKit

theorem Eqv.rows {n : Nat} {l A B : List (List Int)} (hJ : IsJ n l) (h : Eqv n l l.length A B) : A.length = 2 * n - 1 ∧ ∀ r ∈ A, r.length = 2 := by
  obtain ⟨hA, hB, hE⟩ := h
  refine ⟨hA, fun r hr => ?_⟩
  obtain ⟨x, hx, rfl⟩ := List.mem_iff_getElem.1 hr
  obtain ⟨p, q, h1, _⟩ := hE x (by omega) (by
    by_cases e : x + 2 = 2 * n
    · exact Or.inl e
    · obtain ⟨j, hj, r, hr, hxr⟩ := all_used hJ (x := x) (by omega)
      exact Or.inr ⟨j, by omega, hj, r, hr, hxr⟩)
  rw [List.getElem?_eq_getElem hx] at h1
  simp only [Option.some.injEq] at h1
  rw [h1]; rfl
theorem placesV_small (ps : List Pt) (l : List (List Int)) : (placesV ps l).1.length ≤ 100 ∧ ∀ r ∈ (placesV ps l).1, r.length ≤ 1048576 := by
  unfold placesV
  cases h : askB ps l with
  | false => simp
  | true =>
    have h' := h
    unfold askB at h'
    rw [Bool.and_eq_true] at h'
    have hJ := joinsB_iff.1 h'.2
    obtain ⟨h1, h2⟩ := (eqv_all (ms := TM ps l l.length) hJ (eqv0 hJ) l.length (Nat.le_refl _)).rows hJ
    have := hJ.1
    exact ⟨by simp only [if_true]; omega, fun r hr => by have := h2 r hr; omega⟩
theorem lawPlaces_eq (ps : List Pt) (l : List (List Int)) (hp : ps.length ≤ 9223372036854775807) (hb : l.length ≤ 9223372036854775807) (hr : ∀ r ∈ l, r.length ≤ 9223372036854775807) : m_laws_FnExactClockPlaces ps l = some true := by
  unfold m_laws_FnExactClockPlaces
  obtain ⟨z, hz, h'⟩ := szP_eq ps 1048576 (by omega) hp
  rw [hz]
  simp only [bind_some']
  rcases h' with h' | ⟨rfl, h'⟩
  · rw [bif_t (by simpa using h')]
  rw [bif_f (by simpa using h')]
  obtain ⟨y, hy, h''⟩ := szInt64SS_eq l (1048576 - ps.length) (by omega) hb hr
  rw [hy]
  simp only [bind_some']
  rcases h'' with h'' | ⟨h0, _, h1, h2⟩
  · rw [bif_t (by simpa using h'')]
  have hr2 : ∀ r ∈ l, r.length ≤ 1048576 := fun r hr' => by have := h2 r hr'; omega
  obtain ⟨hw, hw2⟩ := placesV_small ps l
  have ho := offs_le hw2 (k := 1) (placesV ps l).1.length (Nat.le_refl _)
  obtain ⟨mp, hmp, hmp'⟩ := markP_eq ps 1 (by omega) (by omega)
  obtain ⟨mr, hmr, hmr'⟩ := markII_eq l mp.1 (by omega) (by omega) (by omega) hr2
  rw [bif_f (by simpa using h0)]
  simp only [toPointS_eq ps (by omega), toInt64SS_eq l (by omega) hr2, bind_some', specPlaces_eq ps l (by omega), implPlaces_eq ps l (by omega), eqInt64SS_eq (placesV ps l).1 (by omega) (fun r hr' => by have := hw2 r hr'; omega), eqPointS_eq ps (by omega), eqInt64SS_eq l hb hr, hmp, hmr]
  simp only [Bool.not_true, beq_self_eq_true, cond_false, markR_eq (placesV ps l).1 1 (by omega) (by omega) (by omega) hw2, heldR_eq (placesV ps l).1 1 (by omega) (by omega) (by omega) hw2, bind_some']
  rw [bif_f (by simpa using hmr'), bif_f (by simp; omega), bif_f (by simp), bif_f (by simp; omega), bif_f (by simp)]
end Go.Proofs.Ytmodhpgnkbnbaaa
