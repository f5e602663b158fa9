/- Plain facts on how the laws mark what they were given and look whether the marks still stand. -/
import Derived.Test.YtmodhpgnkbnbaaaPuSS
set_option linter.unusedSimpArgs false
set_option linter.unusedVariables false
namespace Go.Proofs.Ytmodhpgnkbnbaaa
open Go.RowKit

theorem geti_set {α : Type} {l : List α} {i : Nat} {x : α} (h : i < l.length) : geti (l.set i x) (i : Int) = some x := by
  rw [geti_nat, List.getElem?_set_self h]
theorem Laid.all' {α : Type} {l acc : List α} {n : Nat} (h : Laid l acc n) (hn : l.length = n) : acc = l := by subst hn; exact h.all
def seqI (k : Int) (n : Nat) : List Int := (List.range n).map fun (j : Nat) => k + (j : Int)
theorem seqI_len (k : Int) (n : Nat) : (seqI k n).length = n := by simp [seqI]
theorem seqI_at {k : Int} {n i : Nat} (h : i < (seqI k n).length) : (seqI k n)[i] = k + i := by simp [seqI]
theorem markI_eq (l : List Int) (k : Int) (h0 : 0 ≤ k) (hb : k + l.length ≤ 4611686018427387904) : m_laws_markInt64S l k = some (k + l.length, seqI k l.length) := by
  unfold m_laws_markInt64S
  have hl : loopM m_laws_markInt64S_s1 (k, 0, l) = some (k + l.length, seqI k l.length) := by
    refine loopM_val _ l.length (fun i s => s.1 = k + i ∧ s.2.1 = (i : Int) ∧ Laid (seqI k l.length) s.2.2 i) ⟨by simp, rfl, Laid.zero _ _ (by rw [seqI_len])⟩ ?_ ?_
    · rintro i ⟨x, y, acc⟩ hi ⟨hx, hy, hL⟩
      simp only at hx hy hL
      subst hx; subst hy
      have hal : acc.length = l.length := by rw [hL.1, seqI_len]
      unfold m_laws_markInt64S_s1
      simp only []
      rw [bif_t (by simp; omega), geti_lt (l := acc) (by omega)]
      left
      refine ⟨_, rfl, by simp only []; rw [wr_in (by omega)]; omega, by simp only []; rw [wr_in (by omega)]; omega, ?_⟩
      have := hL.succ (by rw [seqI_len]; exact hi)
      rw [seqI_at] at this
      simpa using this
    · rintro ⟨x, y, acc⟩ ⟨hx, hy, hL⟩
      simp only at hx hy hL
      subst hx; subst hy
      have hal : acc.length = l.length := by rw [hL.1, seqI_len]
      unfold m_laws_markInt64S_s1
      simp only []
      rw [bif_f (by simp; omega), hL.all' (seqI_len k l.length)]
  rw [hl]; rfl
theorem heldI_eq (n : Nat) (k : Int) (h0 : 0 ≤ k) (hb : k + n ≤ 4611686018427387904) : m_laws_heldInt64S (seqI k n) k = some (k + n) := by
  unfold m_laws_heldInt64S
  have hl : loopM (m_laws_heldInt64S_s1 (seqI k n)) (k, 0) = some (Sum.inl (k + n)) := by
    refine loopM_val _ n (fun i s => s = (k + i, (i : Int))) (by simp) ?_ ?_
    · rintro i _ hi rfl
      unfold m_laws_heldInt64S_s1
      simp only []
      rw [bif_t (by rw [seqI_len]; simpa using hi), geti_lt (by rw [seqI_len]; exact hi), seqI_at]
      left
      refine ⟨_, by simp [bind_some']; rfl, ?_⟩
      rw [wr_in (by omega), wr_in (by omega)]
      simp; omega
    · rintro _ rfl
      unfold m_laws_heldInt64S_s1
      simp only []
      rw [bif_f (by rw [seqI_len]; simp)]
  rw [hl]; rfl
theorem markP_eq (l : List Pt) (k : Int) (h0 : 0 ≤ k) (hb : k + 2 * l.length ≤ 4611686018427387904) : ∃ r, m_laws_markPointS l k = some r ∧ r.1 = k + 2 * l.length := by
  unfold m_laws_markPointS
  obtain ⟨r, h1, h2⟩ := loopM_count m_laws_markPointS_s1 l.length (fun i s => s.1 = k + 2 * i ∧ s.2.1 = (i : Int) ∧ s.2.2.length = l.length) (fun r => r.1 = k + 2 * l.length) (s0 := (k, 0, l)) ⟨by simp, rfl, rfl⟩ (by
    rintro i ⟨x, y, acc⟩ hi ⟨hx, hy, hL⟩
    simp only at hx hy hL
    subst hx; subst hy
    unfold m_laws_markPointS_s1
    simp only []
    rw [bif_t (by simp; omega), geti_lt (l := acc) (by omega)]
    simp only [bind_some', Int.toNat_natCast]
    rw [geti_set (by omega)]
    simp only [bind_some']
    left
    refine ⟨_, rfl, by simp only []; rw [wr_in (x := k + 2 * (i : Int) + 1) (by omega), wr_in (by omega)]; omega, by simp only []; rw [wr_in (by omega)]; omega, by simpa using hL⟩) (by
    rintro ⟨x, y, acc⟩ ⟨hx, hy, hL⟩
    simp only at hx hy hL
    subst hx; subst hy
    unfold m_laws_markPointS_s1
    simp only []
    rw [bif_f (by simp; omega)]
    exact ⟨_, rfl, rfl⟩)
  rw [h1]
  exact ⟨_, rfl, h2⟩
theorem markII_eq (l : List (List Int)) (k : Int) (h0 : 0 ≤ k) (hk : k ≤ 1073741824) (hb : l.length ≤ 1048576) (hr : ∀ r ∈ l, r.length ≤ 1048576) : ∃ r, m_laws_markInt64SS l k = some r ∧ 0 ≤ r.1 := by
  unfold m_laws_markInt64SS
  obtain ⟨r, h1, h2⟩ := loopM_count m_laws_markInt64SS_s1 l.length (fun i s => k ≤ s.1 ∧ s.1 ≤ k + 1048576 * i ∧ s.2.1 = (i : Int) ∧ s.2.2.length = l.length ∧ ∀ j, i ≤ j → s.2.2[j]? = l[j]?) (fun r => 0 ≤ r.1) (s0 := (k, 0, l))
    ⟨Int.le_refl _, by simp, rfl, rfl, fun _ _ => rfl⟩ (by
    rintro i ⟨x, y, acc⟩ hi ⟨hx, hx', hy, hL, hrow⟩
    simp only at hx hx' hy hL hrow
    subst hy
    unfold m_laws_markInt64SS_s1
    simp only []
    rw [bif_t (by simp; omega), geti_lt (l := acc) (by omega)]
    have e : acc[i] = l[i] := by
      have := hrow i (Nat.le_refl _)
      rw [List.getElem?_eq_getElem (by omega), List.getElem?_eq_getElem hi] at this
      simpa using this
    have hri := hr _ (List.getElem_mem hi)
    simp only [bind_some', e]
    rw [markI_eq _ x (by omega) (by omega)]
    simp only [bind_some']
    left
    refine ⟨_, rfl, by simp only []; omega, by simp only []; omega, by simp only []; rw [wr_in (by omega)]; omega, by simpa using hL, fun j hj => ?_⟩
    simp only [Int.toNat_natCast]
    rw [List.getElem?_set_ne (by omega)]
    exact hrow j (by omega)) (by
    rintro ⟨x, y, acc⟩ ⟨hx, hx', hy, hL, hrow⟩
    simp only at hx hx' hy hL hrow
    subst hy
    unfold m_laws_markInt64SS_s1
    simp only []
    rw [bif_f (by simp; omega)]
    exact ⟨_, rfl, by simp only []; omega⟩)
  rw [h1]
  exact ⟨_, rfl, h2⟩
theorem szP_eq (l : List Pt) (p : Int) (h : 0 ≤ p ∧ p ≤ 1048576) (hb : l.length ≤ 9223372036854775807) : ∃ y, m_laws_szPointS l p = some y ∧ (y < 0 ∨ (y = p - l.length ∧ 0 ≤ y)) := by
  unfold m_laws_szPointS
  rw [wr_in (x := p - l.length) (by omega)]
  by_cases hn : p - (l.length : Int) < 0
  · exact ⟨-1, bif_t (by simpa using hn), Or.inl (by omega)⟩
  · exact ⟨_, bif_f (by simpa using hn), Or.inr ⟨rfl, by omega⟩⟩
end Go.Proofs.Ytmodhpgnkbnbaaa
