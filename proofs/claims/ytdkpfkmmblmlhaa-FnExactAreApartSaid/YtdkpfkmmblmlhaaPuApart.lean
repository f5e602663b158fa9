/- Paths that are apart. -/
import Derived.Test.YtdkpfkmmblmlhaaPuThr2
import Derived.Test.YtdkpfkmmblmlhaaPuRow
set_option linter.unusedSimpArgs false
set_option linter.unusedVariables false
namespace Go.Proofs.Ytdkpfkmmblmlhaa
open Go.RowKit

def rwP (ll : List (List Pt)) (j : Nat) : List Pt := ll.getD j []
theorem geti_rwP {ll : List (List Pt)} {j : Nat} (h : j < ll.length) : geti ll (j : Int) = some (rwP ll j) := by rw [geti_lt h]; simp [rwP, List.getD, List.getElem?_eq_getElem h]
theorem rwP_len {ll : List (List Pt)} (hr : ∀ r ∈ ll, r.length ≤ 1048576) {j : Nat} (h : j < ll.length) : (rwP ll j).length ≤ 1048576 := by
  have : rwP ll j = ll[j] := by simp [rwP, List.getD, List.getElem?_eq_getElem h]
  rw [this]; exact hr _ (List.getElem_mem h)
/-- All points of the first j paths. -/
def catF (ll : List (List Pt)) : Nat → List Pt
  | 0 => []
  | j + 1 => catF ll j ++ fullV (rwP ll j)
def ThrAll (ll : List (List Pt)) : Prop := ∀ j, j < ll.length → Thru (rwP ll j)
def Apart (ll : List (List Pt)) : Prop := ll.length ≤ 20 ∧ ThrAll ll ∧ (catF ll ll.length).Nodup
theorem catF_le {ll : List (List Pt)} : ∀ j, (∀ i, i < j → Thru (rwP ll i)) → (catF ll j).length ≤ 576 * j
  | 0, _ => by simp [catF]
  | j + 1, h => by
    have := catF_le j (fun i hi => h i (by omega))
    have h2 := (pathB_len (h j (by omega)).2.2.2.2.1).2
    show (catF ll j ++ _).length ≤ _
    rw [List.length_append]; omega
theorem catF_pre {ll : List (List Pt)} (i : Nat) : ∀ j, i ≤ j → (catF ll i).Sublist (catF ll j)
  | 0, h => by rw [show i = 0 by omega]; exact List.Sublist.refl _
  | j + 1, h => by
    by_cases e : i = j + 1
    · rw [e]; exact List.Sublist.refl _
    · exact (catF_pre i j (by omega)).trans (List.sublist_append_left _ _)
open Classical in
noncomputable def apartV (ll : List (List Pt)) : Bool := decide (Apart ll)
theorem apV_t {ll : List (List Pt)} (h : Apart ll) : apartV ll = true := by simp [apartV, h]
theorem apV_f {ll : List (List Pt)} (h : ¬ Apart ll) : apartV ll = false := by simp [apartV, h]
section
variable {ll : List (List Pt)}
theorem implAp_loop (hl : ll.length ≤ 20) (hr : ∀ r ∈ ll, r.length ≤ 1048576) :
    ∃ r, loopM (m_impl_AreApart_s1 ll) (([] : List Pt), 0) = some r ∧ (ThrAll ll ∧ r = Sum.inl (catF ll ll.length) ∨ ¬ ThrAll ll ∧ r = Sum.inr false) := by
  refine loopM_count _ ll.length (fun j s => s = (catF ll j, (j : Int)) ∧ ∀ i, i < j → Thru (rwP ll i)) _ ⟨rfl, fun i hi => by omega⟩ ?_ ?_
  · rintro j _ hj ⟨rfl, hg⟩
    unfold m_impl_AreApart_s1
    simp only []
    rw [bif_t (by simpa using hj), geti_rwP hj]
    simp only [bind_some']
    obtain ⟨x, b, hx, hle, h⟩ := implThr_eq (C := rwP ll j) (rwP_len hr hj)
    rw [hx]
    simp only [bind_some']
    rcases h with ⟨rfl, hT, rfl⟩ | ⟨rfl, hT⟩
    · left
      have hc := catF_le j hg
      rw [bif_f (by rfl), apC_ok (by unfold lim; omega)]
      simp only [bind_some']
      refine ⟨_, rfl, by rw [wr_in (by omega)]; rfl, fun i hi => ?_⟩
      by_cases e : i = j
      · rw [e]; exact hT
      · exact hg i (by omega)
    · right
      exact ⟨_, bif_t (by rfl), Or.inr ⟨fun h => hT (h j hj), rfl⟩⟩
  · rintro _ ⟨rfl, hg⟩
    unfold m_impl_AreApart_s1
    simp only []
    rw [bif_f (by simp)]
    exact ⟨_, rfl, Or.inl ⟨hg, rfl⟩⟩
theorem implAp_eq (hr : ∀ r ∈ ll, r.length ≤ 1048576) : m_impl_AreApart ll = some (apartV ll) := by
  unfold m_impl_AreApart
  by_cases h1 : (ll.length : Int) > 20
  · rw [bif_t (by simpa using h1), apV_f (fun h => by have := h.1; omega)]
  · rw [bif_f (by simpa using h1)]
    obtain ⟨r, hr', hJ⟩ := implAp_loop (ll := ll) (by omega) hr
    rw [hr']
    simp only [bind_some']
    rcases hJ with ⟨hT, rfl⟩ | ⟨hT, rfl⟩
    · have hc := catF_le ll.length hT
      simp only []
      rw [Clone_eq _ (by omega)]
      simp only [bind_some']
      rw [sorted_eq _ (by omega)]
      simp only [bind_some']
      by_cases hA : Apart ll
      · have := (setPts_len _).2 hA.2.2
        rw [apV_t hA, this]; simp
      · have : (setPts (catF ll ll.length)).length ≠ (catF ll ll.length).length := fun h => hA ⟨by omega, hT, (setPts_len _).1 h⟩
        rw [apV_f hA]
        simp; omega
    · simp only []
      rw [apV_f (fun h => hT h.2.1)]
def ixP (p : Pt) : Int := p.1 * 100 + p.2
theorem ixP_ok {p : Pt} (h : okP p = true) : wr (wr (p.1 * 100) + p.2) = ixP p ∧ 0 ≤ ixP p ∧ ixP p < 10000 := by
  have := okP_t h
  unfold ixP
  rw [wr_in (x := p.1 * 100) (by omega), wr_in (by omega)]
  exact ⟨rfl, by omega, by omega⟩
theorem ixP_inj {p q : Pt} (hp : okP p = true) (hq : okP q = true) (h : ixP p = ixP q) : p = q := by
  have := okP_t hp; have := okP_t hq
  unfold ixP at h
  exact Prod.ext (by omega) (by omega)
open Classical in
/-- The cells that are marked are those of the points of L. -/
def Mk (s : List Bool) (L : List Pt) : Prop := s.length = 10000 ∧ ∀ p, okP p = true → geti s (ixP p) = some (decide (p ∈ L))
theorem Mk.set {s : List Bool} {L : List Pt} (h : Mk s L) {p : Pt} (hp : okP p = true) : Mk (s.set (Int.toNat (ixP p)) true) (L ++ [p]) := by
  refine ⟨by rw [List.length_set]; exact h.1, fun q hq => ?_⟩
  obtain ⟨_, p0, p1⟩ := ixP_ok hp
  obtain ⟨_, q0, q1⟩ := ixP_ok hq
  have hg := h.2 q hq
  unfold geti at hg ⊢
  rw [if_pos q0] at hg ⊢
  by_cases e : p = q
  · subst e
    rw [List.getElem?_set_self (by rw [h.1]; omega)]
    simp
  · have hne : Int.toNat (ixP p) ≠ Int.toNat (ixP q) := fun he => e (ixP_inj hp hq (by omega))
    rw [List.getElem?_set_ne hne, hg]
    congr 1
    have : (q ∈ L ++ [p]) ↔ q ∈ L := by simp [Ne.symm e]
    simp [this]
theorem specAp_in {F L : List Pt} (hF : okPs F = true) (hl : F.length ≤ 576) {s : List Bool} (hM : Mk s L) (hL : L.Nodup) (b : Bool) :
    ∃ r, loopM (m_spec_AreApart_s4 (F, b)) (0, s) = some r ∧ ((L ++ F).Nodup ∧ (∃ s', r = Sum.inl s' ∧ Mk s' (L ++ F)) ∨ ¬ (L ++ F).Nodup ∧ r = Sum.inr false) := by
  refine loopM_count _ F.length (fun k s => s.1 = (k : Int) ∧ Mk s.2 (L ++ F.take k) ∧ (L ++ F.take k).Nodup) _ ⟨rfl, by simpa using hM, by simpa using hL⟩ ?_ ?_
  · rintro k ⟨x, s⟩ hk ⟨hx, hm, hn⟩
    simp only at hx hm hn
    subst hx
    have hp := okPs_at hF hk
    obtain ⟨w, _, _⟩ := ixP_ok hp
    have hg := hm.2 _ hp
    have et : F.take (k + 1) = F.take k ++ [F[k]] := by rw [List.take_succ_eq_append_getElem hk]
    unfold m_spec_AreApart_s4
    simp only []
    rw [bif_t (by simpa using hk), geti_lt hk]
    simp only [bind_some']
    rw [w, hg]
    simp only [bind_some']
    by_cases c : F[k] ∈ L ++ F.take k
    · right
      refine ⟨_, bif_t (by simpa using c), Or.inr ⟨fun hnd => ?_, rfl⟩⟩
      have h2 : (L ++ F.take (k + 1)).Nodup := hnd.sublist (List.Sublist.append_left (List.take_sublist _ _) _)
      rw [et, ← List.append_assoc] at h2
      have := (List.nodup_append.1 h2).2.2 _ c _ (List.mem_singleton.2 rfl)
      exact this rfl
    · left
      rw [bif_f (by simpa using c)]
      refine ⟨_, rfl, by simp only []; rw [wr_in (by omega)]; rfl, ?_, ?_⟩
      · rw [et, ← List.append_assoc]; exact hm.set hp
      · rw [et, ← List.append_assoc]
        refine List.nodup_append.2 ⟨hn, by simp, fun a ha b hb => ?_⟩
        simp only [List.mem_singleton] at hb
        intro e; rw [e, hb] at ha; exact c ha
  · rintro ⟨x, s⟩ ⟨hx, hm, hn⟩
    simp only at hx hm hn
    subst hx
    rw [List.take_length] at hm hn
    unfold m_spec_AreApart_s4
    simp only []
    rw [bif_f (by simp)]
    exact ⟨_, rfl, Or.inl ⟨hn, s, rfl, hm⟩⟩
theorem pathB_ok {ps : List Pt} (h : pathB ps = true) : okPs ps = true := by
  unfold pathB at h
  simp only [Bool.and_eq_true, decide_eq_true_eq] at h
  exact h.1.2.1
theorem specAp_eq (hr : ∀ r ∈ ll, r.length ≤ 1048576) : m_spec_AreApart ll = some (apartV ll) := by
  unfold m_spec_AreApart
  by_cases h1 : (ll.length : Int) > 20
  · rw [bif_t (by simpa using h1), apV_f (fun h => by have := h.1; omega)]
  · rw [bif_f (by simpa using h1), mkC_ok (by unfold lim; omega)]
    simp only [bind_some']
    have hM0 : Mk (List.replicate (Int.toNat 10000) false) [] := by
      refine ⟨by rw [List.length_replicate]; rfl, fun p hp => ?_⟩
      obtain ⟨_, p0, p1⟩ := ixP_ok hp
      unfold geti
      rw [if_pos p0, List.getElem?_replicate, if_pos (by omega)]
      simp
    obtain ⟨r, hr', hJ⟩ := loopM_count (m_spec_AreApart_s3 ll) ll.length (fun j s => s.1 = (j : Int) ∧ Mk s.2 (catF ll j) ∧ (catF ll j).Nodup ∧ ∀ i, i < j → Thru (rwP ll i))
      (fun r => (ThrAll ll ∧ (catF ll ll.length).Nodup) ∧ r = Sum.inl () ∨ ¬ (ThrAll ll ∧ (catF ll ll.length).Nodup) ∧ r = Sum.inr false)
      (s0 := (0, List.replicate (Int.toNat 10000) false)) ⟨rfl, hM0, List.nodup_nil, fun i hi => by omega⟩
      (by
        rintro j ⟨x, s⟩ hj ⟨hx, hm, hn, hg⟩
        simp only at hx hm hn
        subst hx
        unfold m_spec_AreApart_s3
        simp only []
        rw [bif_t (by simpa using hj), geti_rwP hj]
        simp only [bind_some']
        rw [specThr_eq (rwP_len hr hj)]
        simp only [bind_some']
        unfold thruV
        by_cases hT : Thru (rwP ll j)
        · rw [if_pos hT, bif_f (by rfl)]
          have hp := hT.2.2.2.2.1
          obtain ⟨r, e1, e2⟩ := specAp_in (pathB_ok hp) (pathB_len hp).2 hm hn true
          rw [e1]
          simp only [bind_some']
          rcases e2 with ⟨g1, s', rfl, g2⟩ | ⟨g1, rfl⟩
          · left
            refine ⟨_, rfl, by simp only []; rw [wr_in (by omega)]; rfl, g2, g1, fun i hi => ?_⟩
            by_cases e : i = j
            · rw [e]; exact hT
            · exact hg i (by omega)
          · right
            exact ⟨_, rfl, Or.inr ⟨fun h => g1 (h.2.sublist (catF_pre (j + 1) ll.length (by omega))), rfl⟩⟩
        · rw [if_neg hT]
          right
          exact ⟨_, bif_t (by rfl), Or.inr ⟨fun h => hT (h.1 j hj), rfl⟩⟩)
      (by
        rintro ⟨x, s⟩ ⟨hx, hm, hn, hg⟩
        simp only at hx hm hn
        subst hx
        unfold m_spec_AreApart_s3
        simp only []
        rw [bif_f (by simp)]
        exact ⟨_, rfl, Or.inl ⟨⟨hg, hn⟩, rfl⟩⟩)
    rw [hr']
    simp only [bind_some']
    rcases hJ with ⟨hT, rfl⟩ | ⟨hT, rfl⟩
    · simp only []
      rw [apV_t (show Apart ll from ⟨by omega, hT⟩)]
    · simp only []
      rw [apV_f (fun h => hT h.2)]
end
theorem lawAreApart_eq (pp : List (List Pt)) (hb : pp.length ≤ 9223372036854775807) (hr : ∀ r ∈ pp, r.length ≤ 9223372036854775807) : m_laws_FnExactAreApart pp = some true := by
  unfold m_laws_FnExactAreApart
  obtain ⟨z, hz, h⟩ := szPointSS_eq pp 1048576 (by omega) hb hr
  rw [hz, bind_some']
  rcases h with h | ⟨h0, _, hn, hrn⟩
  · rw [bif_t (by simpa using h)]
  rw [bif_f (by simpa using h0)]
  have hr2 : ∀ r ∈ pp, r.length ≤ 1048576 := fun r h => by have := hrn r h; omega
  simp only [toPointSS_eq pp (by omega) hr2, bind_some', specAp_eq hr2, implAp_eq hr2, eqPointSS_eq pp (by omega) (fun r h => by have := hr2 r h; omega), Bool.not_true, cond_false, beq_self_eq_true]
end Go.Proofs.Ytdkpfkmmblmlhaa
