/- The law of ClockMerges. -/
import Derived.Test.YtmodhpgnkbnbaaaPuWires
set_option linter.unusedSimpArgs false
set_option linter.unusedVariables false
namespace Go.Proofs.Ytmodhpgnkbnbaaa
open Go.RowKit

theorem eqMerge_eq (a b c d e : Int) : m_laws_eqMerge a b c d e a b c d e = some true := by
  unfold m_laws_eqMerge m_laws_eqRegion
  simp
theorem eqMergeS_eq (ms : List Mg) (hb : ms.length ≤ 9223372036854775807) : m_laws_eqMergeS ms ms = some true := by
  unfold m_laws_eqMergeS
  rw [bif_f (by simp)]
  have hl : loopM (m_laws_eqMergeS_s1 ms ms) 0 = some (Sum.inl ()) := by
    refine loopM_val _ ms.length (fun k s => s = (k : Int)) rfl ?_ ?_
    · rintro k _ hk rfl
      unfold m_laws_eqMergeS_s1
      simp only []
      rw [bif_t (by simpa using hk), geti_lt hk]
      left
      exact ⟨wr ((k : Int) + 1), by simp [bind_some', eqMerge_eq], by rw [wr_in (by omega)]; omega⟩
    · rintro _ rfl
      unfold m_laws_eqMergeS_s1
      simp only []
      rw [bif_f (by simp)]
  rw [hl]; rfl
def seqM (k : Int) (n : Nat) : List Mg := (List.range n).map fun (j : Nat) => (k + 5 * (j : Int), k + 5 * (j : Int) + 1, k + 5 * (j : Int) + 2, k + 5 * (j : Int) + 3, k + 5 * (j : Int) + 4)
theorem seqM_len (k : Int) (n : Nat) : (seqM k n).length = n := by simp [seqM]
theorem seqM_at {k : Int} {n i : Nat} (h : i < (seqM k n).length) : (seqM k n)[i] = (k + 5 * (i : Int), k + 5 * (i : Int) + 1, k + 5 * (i : Int) + 2, k + 5 * (i : Int) + 3, k + 5 * (i : Int) + 4) := by simp [seqM]
theorem wr4 {x : Int} (h : 0 ≤ x ∧ x ≤ 4611686018427387904) : wr (x + 1) = x + 1 ∧ wr (x + 1 + 1) = x + 2 ∧ wr (x + 2 + 1) = x + 3 ∧ wr (x + 3 + 1) = x + 4 ∧ wr (x + 4 + 1) = x + 5 :=
  ⟨wr_in (by omega), by rw [wr_in (by omega)]; omega, by rw [wr_in (by omega)]; omega, by rw [wr_in (by omega)]; omega, by rw [wr_in (by omega)]; omega⟩
theorem markM_eq (l : List Mg) (k : Int) (h0 : 0 ≤ k) (hb : k + 5 * l.length ≤ 4611686018427387904) : m_laws_markMergeS l k = some (k + 5 * l.length, seqM k l.length) := by
  unfold m_laws_markMergeS
  have hl : loopM m_laws_markMergeS_s1 (k, 0, l) = some (k + 5 * l.length, seqM k l.length) := by
    refine loopM_val _ l.length (fun i s => s.1 = k + 5 * i ∧ s.2.1 = (i : Int) ∧ Laid (seqM k l.length) s.2.2 i) ⟨by simp, rfl, Laid.zero _ _ (by rw [seqM_len])⟩ ?_ ?_
    · rintro i ⟨x, y, acc⟩ hi ⟨hx, hy, hL⟩
      simp only at hx hy hL
      subst hx; subst hy
      have hal : acc.length = l.length := by rw [hL.1, seqM_len]
      obtain ⟨w1, w2, w3, w4, w5⟩ := wr4 (x := k + 5 * (i : Int)) (by omega)
      unfold m_laws_markMergeS_s1
      simp only []
      rw [bif_t (by simp; omega), geti_lt (l := acc) (by omega)]
      simp only [bind_some', Int.toNat_natCast, w1, w2, w3, w4, w5]
      rw [geti_set (by omega)]
      simp only [bind_some', List.set_set]
      rw [geti_set (by omega)]
      simp only [bind_some', List.set_set]
      rw [geti_set (by omega)]
      simp only [bind_some', List.set_set]
      rw [geti_set (by omega)]
      simp only [bind_some', List.set_set]
      left
      refine ⟨_, rfl, by simp only []; omega, by simp only []; rw [wr_in (by omega)]; omega, ?_⟩
      have := hL.succ (by rw [seqM_len]; exact hi)
      rw [seqM_at] at this
      simpa using this
    · rintro ⟨x, y, acc⟩ ⟨hx, hy, hL⟩
      simp only at hx hy hL
      subst hx; subst hy
      have hal : acc.length = l.length := by rw [hL.1, seqM_len]
      unfold m_laws_markMergeS_s1
      simp only []
      rw [bif_f (by simp; omega), hL.all' (seqM_len k l.length)]
  rw [hl]; rfl
theorem heldM_eq (n : Nat) (k : Int) (h0 : 0 ≤ k) (hb : k + 5 * n ≤ 4611686018427387904) : m_laws_heldMergeS (seqM k n) k = some (k + 5 * n) := by
  unfold m_laws_heldMergeS
  have hl : loopM (m_laws_heldMergeS_s1 (seqM k n)) (k, 0) = some (Sum.inl (k + 5 * n)) := by
    refine loopM_val _ n (fun i s => s = (k + 5 * i, (i : Int))) (by simp) ?_ ?_
    · rintro i _ hi rfl
      obtain ⟨w1, w2, w3, w4, w5⟩ := wr4 (x := k + 5 * (i : Int)) (by omega)
      unfold m_laws_heldMergeS_s1
      simp only []
      rw [bif_t (by rw [seqM_len]; simpa using hi), geti_lt (by rw [seqM_len]; exact hi), seqM_at]
      left
      refine ⟨_, by simp only [bind_some', w1, w2, w3, w4, w5, bne_self_eq_false, cond_false]; rfl, ?_⟩
      rw [wr_in (x := (i : Int) + 1) (by omega)]
      simp; omega
    · rintro _ rfl
      unfold m_laws_heldMergeS_s1
      simp only []
      rw [bif_f (by rw [seqM_len]; simp)]
  rw [hl]; rfl
noncomputable def mergesV (ps : List Pt) (l : List (List Int)) : List Mg × Bool := if askB ps l then (TM ps l l.length, true) else ([], false)
theorem mergesV_len (ps : List Pt) (l : List (List Int)) : ((mergesV ps l).1.length : Int) ≤ ps.length + l.length := by
  unfold mergesV
  split
  · rename_i h
    unfold askB at h
    rw [Bool.and_eq_true] at h
    simp only []; rw [TM_len (joinsB_iff.1 h.2) _ (Nat.le_refl _)]; omega
  · simp; omega
theorem specMerges_eq (ps : List Pt) (l : List (List Int)) (hb : ps.length ≤ 140737488355328) : m_spec_ClockMerges ps l = some (mergesV ps l) := by
  unfold m_spec_ClockMerges mergesV
  rw [ask_eq ps l hb]
  simp only [bind_some']
  cases h : askB ps l with
  | false => rfl
  | true => rw [bif_f (by rfl), specTree_eq h]; rfl
theorem implMerges_eq (ps : List Pt) (l : List (List Int)) (hb : ps.length ≤ 140737488355328) : m_impl_ClockMerges ps l = some (mergesV ps l) := by
  unfold m_impl_ClockMerges mergesV
  rw [implTree_eq ps l hb]
  simp only [bind_some']
  cases h : askB ps l <;> rfl
theorem lawMerges_eq (ps : List Pt) (l : List (List Int)) (hp : ps.length ≤ 9223372036854775807) (hb : l.length ≤ 9223372036854775807) (hr : ∀ r ∈ l, r.length ≤ 9223372036854775807) : m_laws_FnExactClockMerges ps l = some true := by
  unfold m_laws_FnExactClockMerges
  obtain ⟨z, hz, h'⟩ := szP_eq ps 1048576 (by omega) hp
  rw [hz]
  simp only [bind_some']
  rcases h' with h' | ⟨rfl, h'⟩
  · rw [bif_t (by simpa using h')]
  rw [bif_f (by simpa using h')]
  obtain ⟨y, hy, h''⟩ := szInt64SS_eq l (1048576 - ps.length) (by omega) hb hr
  rw [hy]
  simp only [bind_some']
  rcases h'' with h'' | ⟨h0, _, h1, h2⟩
  · rw [bif_t (by simpa using h'')]
  have hr2 : ∀ r ∈ l, r.length ≤ 1048576 := fun r hr' => by have := h2 r hr'; omega
  have hw := mergesV_len ps l
  obtain ⟨mp, hmp, hmp'⟩ := markP_eq ps 1 (by omega) (by omega)
  obtain ⟨mr, hmr, hmr'⟩ := markII_eq l mp.1 (by omega) (by omega) (by omega) hr2
  rw [bif_f (by simpa using h0)]
  simp only [toPointS_eq ps (by omega), toInt64SS_eq l (by omega) hr2, bind_some', specMerges_eq ps l (by omega), implMerges_eq ps l (by omega), eqMergeS_eq (mergesV ps l).1 (by omega), eqPointS_eq ps (by omega), eqInt64SS_eq l hb hr, hmp, hmr]
  simp only [Bool.not_true, beq_self_eq_true, cond_false, markM_eq (mergesV ps l).1 1 (by omega) (by omega), heldM_eq (mergesV ps l).1.length 1 (by omega) (by omega), bind_some']
  rw [bif_f (by simpa using hmr'), bif_f (by simp; omega), bif_f (by simp), bif_f (by simp; omega), bif_f (by simp)]
end Go.Proofs.Ytmodhpgnkbnbaaa
