/- Paths that are apart. -/
import Derived.Test.YtgaecldkiijmpaaPuThr2
import Derived.Test.YtgaecldkiijmpaaPuRow
set_option linter.unusedSimpArgs false
set_option linter.unusedVariables false
namespace Go.Proofs.Ytgaecldkiijmpaa
open Go.RowKit

def rwP (ll : List (List Pt)) (j : Nat) : List Pt := ll.getD j []
theorem geti_rwP {ll : List (List Pt)} {j : Nat} (h : j < ll.length) : geti ll (j : Int) = some (rwP ll j) := by rw [geti_lt h]; simp [rwP, List.getD, List.getElem?_eq_getElem h]
theorem rwP_len {ll : List (List Pt)} (hr : ∀ r ∈ ll, r.length ≤ 1048576) {j : Nat} (h : j < ll.length) : (rwP ll j).length ≤ 1048576 := by
  have : rwP ll j = ll[j] := by simp [rwP, List.getD, List.getElem?_eq_getElem h]
  rw [this]; exact hr _ (List.getElem_mem h)
/-- All points of the first j paths. -/
def catF (ll : List (List Pt)) : Nat → List Pt
  | 0 => []
  | j + 1 => catF ll j ++ fullV (rwP ll j)
def ThrAll (ll : List (List Pt)) : Prop := ∀ j, j < ll.length → Thru (rwP ll j)
def Apart (ll : List (List Pt)) : Prop := ll.length ≤ 20 ∧ ThrAll ll ∧ (catF ll ll.length).Nodup
theorem catF_le {ll : List (List Pt)} : ∀ j, (∀ i, i < j → Thru (rwP ll i)) → (catF ll j).length ≤ 576 * j
  | 0, _ => by simp [catF]
  | j + 1, h => by
    have := catF_le j (fun i hi => h i (by omega))
    have h2 := (pathB_len (h j (by omega)).2.2.2.2.1).2
    show (catF ll j ++ _).length ≤ _
    rw [List.length_append]; omega
theorem catF_pre {ll : List (List Pt)} (i : Nat) : ∀ j, i ≤ j → (catF ll i).Sublist (catF ll j)
  | 0, h => by rw [show i = 0 by omega]; exact List.Sublist.refl _
  | j + 1, h => by
    by_cases e : i = j + 1
    · rw [e]; exact List.Sublist.refl _
    · exact (catF_pre i j (by omega)).trans (List.sublist_append_left _ _)
open Classical in
noncomputable def apartV (ll : List (List Pt)) : Bool := decide (Apart ll)
theorem apV_t {ll : List (List Pt)} (h : Apart ll) : apartV ll = true := by simp [apartV, h]
theorem apV_f {ll : List (List Pt)} (h : ¬ Apart ll) : apartV ll = false := by simp [apartV, h]
section
variable {ll : List (List Pt)}
theorem implAp_loop (hl : ll.length ≤ 20) (hr : ∀ r ∈ ll, r.length ≤ 1048576) :
    ∃ r, loopM (m_impl_AreApart_s1 ll) (([] : List Pt), 0) = some r ∧ (ThrAll ll ∧ r = Sum.inl (catF ll ll.length) ∨ ¬ ThrAll ll ∧ r = Sum.inr false) := by
  refine loopM_count _ ll.length (fun j s => s = (catF ll j, (j : Int)) ∧ ∀ i, i < j → Thru (rwP ll i)) _ ⟨rfl, fun i hi => by omega⟩ ?_ ?_
  · rintro j _ hj ⟨rfl, hg⟩
    unfold m_impl_AreApart_s1
    simp only []
    rw [bif_t (by simpa using hj), geti_rwP hj]
    simp only [bind_some']
    obtain ⟨x, b, hx, hle, h⟩ := implThr_eq (C := rwP ll j) (rwP_len hr hj)
    rw [hx]
    simp only [bind_some']
    rcases h with ⟨rfl, hT, rfl⟩ | ⟨rfl, hT⟩
    · left
      have hc := catF_le j hg
      rw [bif_f (by rfl), apC_ok (by unfold lim; omega)]
      simp only [bind_some']
      refine ⟨_, rfl, by rw [wr_in (by omega)]; rfl, fun i hi => ?_⟩
      by_cases e : i = j
      · rw [e]; exact hT
      · exact hg i (by omega)
    · right
      exact ⟨_, bif_t (by rfl), Or.inr ⟨fun h => hT (h j hj), rfl⟩⟩
  · rintro _ ⟨rfl, hg⟩
    unfold m_impl_AreApart_s1
    simp only []
    rw [bif_f (by simp)]
    exact ⟨_, rfl, Or.inl ⟨hg, rfl⟩⟩
theorem implAp_eq (hr : ∀ r ∈ ll, r.length ≤ 1048576) : m_impl_AreApart ll = some (apartV ll) := by
  unfold m_impl_AreApart
  by_cases h1 : (ll.length : Int) > 20
  · rw [bif_t (by simpa using h1), apV_f (fun h => by have := h.1; omega)]
  · rw [bif_f (by simpa using h1)]
    obtain ⟨r, hr', hJ⟩ := implAp_loop (ll := ll) (by omega) hr
    rw [hr']
    simp only [bind_some']
    rcases hJ with ⟨hT, rfl⟩ | ⟨hT, rfl⟩
    · have hc := catF_le ll.length hT
      simp only []
      rw [Clone_eq _ (by omega)]
      simp only [bind_some']
      rw [sorted_eq _ (by omega)]
      simp only [bind_some']
      by_cases hA : Apart ll
      · have := (setPts_len _).2 hA.2.2
        rw [apV_t hA, this]; simp
      · have : (setPts (catF ll ll.length)).length ≠ (catF ll ll.length).length := fun h => hA ⟨by omega, hT, (setPts_len _).1 h⟩
        rw [apV_f hA]
        simp; omega
    · simp only []
      rw [apV_f (fun h => hT h.2.1)]
def ixP (p : Pt) : Int := p.1 * 100 + p.2
theorem ixP_ok {p : Pt} (h : okP p = true) : wr (wr (p.1 * 100) + p.2) = ixP p ∧ 0 ≤ ixP p ∧ ixP p < 10000 := by
  have := okP_t h
  unfold ixP
  rw [wr_in (x := p.1 * 100) (by omega), wr_in (by omega)]
  exact ⟨rfl, by omega, by omega⟩
theorem ixP_inj {p q : Pt} (hp : okP p = true) (hq : okP q = true) (h : ixP p = ixP q) : p = q := by
  have := okP_t hp; have := okP_t hq
  unfold ixP at h
  exact Prod.ext (by omega) (by omega)
open Classical in
/-- The cells that are marked are those of the points of L. -/
def Mk (s : List Bool) (L : List Pt) : Prop := s.length = 10000 ∧ ∀ p, okP p = true → geti s (ixP p) = some (decide (p ∈ L))
theorem Mk.set {s : List Bool} {L : List Pt} (h : Mk s L) {p : Pt} (hp : okP p = true) : Mk (s.set (Int.toNat (ixP p)) true) (L ++ [p]) := by
  refine ⟨by rw [List.length_set]; exact h.1, fun q hq => ?_⟩
  obtain ⟨_, p0, p1⟩ := ixP_ok hp
  obtain ⟨_, q0, q1⟩ := ixP_ok hq
  have hg := h.2 q hq
  unfold geti at hg ⊢
  rw [if_pos q0] at hg ⊢
  by_cases e : p = q
  · subst e
    rw [List.getElem?_set_self (by rw [h.1]; omega)]
    simp
  · have hne : Int.toNat (ixP p) ≠ Int.toNat (ixP q) := fun he => e (ixP_inj hp hq (by omega))
    rw [List.getElem?_set_ne hne, hg]
    congr 1
    have : (q ∈ L ++ [p]) ↔ q ∈ L := by simp [Ne.symm e]
    simp [this]
theorem pathB_ok {ps : List Pt} (h : pathB ps = true) : okPs ps = true := by
  unfold pathB at h
  simp only [Bool.and_eq_true, decide_eq_true_eq] at h
  exact h.1.2.1
end
end Go.Proofs.Ytgaecldkiijmpaa
