/- The path through the corners of a path is that path. -/
import Derived.Test.YtgaecldkiijmpaaPuThr2
set_option linter.unusedSimpArgs false
set_option linter.unusedVariables false
namespace Go.Proofs.Ytgaecldkiijmpaa
open Go.RowKit

theorem pathB_step {ps : List Pt} (h : pathB ps = true) {k : Nat} (h1 : 1 ≤ k) (h2 : k < ps.length) : dist (gP ps (k - 1)) (gP ps k) = 1 := by
  unfold pathB at h
  simp only [Bool.and_eq_true, Bool.not_eq_true'] at h
  have := anyIn_f.1 h.2 k h1 h2
  unfold stepBad at this
  simpa using this
theorem gP_inj {ps : List Pt} (h : ps.Nodup) {i j : Nat} (hi : i < ps.length) (hj : j < ps.length) (hij : i < j) : gP ps i ≠ gP ps j := by
  rw [gP_at hi, gP_at hj]
  exact List.pairwise_iff_getElem.1 h i j hi hj hij
/-- A point that is no bend: straight on. -/
theorem straight {ps : List Pt} (h : pathB ps = true) {i : Nat} (h1 : 0 < i) (h2 : i + 1 < ps.length) (hn : bendB ps i = false) :
    (gP ps (i + 1)).1 - (gP ps i).1 = (gP ps i).1 - (gP ps (i - 1)).1 ∧ (gP ps (i + 1)).2 - (gP ps i).2 = (gP ps i).2 - (gP ps (i - 1)).2 := by
  have s1 := pathB_step h (k := i) (by omega) (by omega)
  have s2 := pathB_step h (k := i + 1) (by omega) h2
  rw [show i + 1 - 1 = i by omega] at s2
  have hne := gP_inj (pathB_nodup h) (i := i - 1) (j := i + 1) (by omega) h2 (by omega)
  have hn' : ¬ ((gP ps (i - 1)).1 = (gP ps (i + 1)).1 ∧ (gP ps (i - 1)).2 = (gP ps (i + 1)).2) := fun e => hne (Prod.ext e.1 e.2)
  have hb : (gP ps (i - 1)).1 = (gP ps (i + 1)).1 ∨ (gP ps (i - 1)).2 = (gP ps (i + 1)).2 := by
    unfold bendB at hn
    rw [Bool.and_eq_false_iff] at hn
    simpa using hn
  unfold dist at s1 s2
  generalize (gP ps (i - 1)).1 = a at *
  generalize (gP ps (i - 1)).2 = b at *
  generalize (gP ps i).1 = c at *
  generalize (gP ps i).2 = d at *
  generalize (gP ps (i + 1)).1 = e at *
  generalize (gP ps (i + 1)).2 = f at *
  omega
/-- From corner c to corner c' without one between: every point lies on the way. -/
theorem seg_at {ps : List Pt} (h : pathB ps = true) {c c' : Nat} (hcc : c < c') (hc' : c' < ps.length) (hno : ∀ i, c < i → i < c' → cornB ps i = false) :
    ∀ t, t ≤ c' - c → (gP ps (c + t)).1 = (gP ps c).1 + t * ((gP ps (c + 1)).1 - (gP ps c).1) ∧ (gP ps (c + t)).2 = (gP ps c).2 + t * ((gP ps (c + 1)).2 - (gP ps c).2)
  | 0, _ => by simp
  | 1, _ => by simp; omega
  | t + 2, ht => by
    obtain ⟨a1, a2⟩ := seg_at h hcc hc' hno (t + 1) (by omega)
    obtain ⟨b1, b2⟩ := seg_at h hcc hc' hno t (by omega)
    have hn : bendB ps (c + (t + 1)) = false := by
      have := hno (c + (t + 1)) (by omega) (by omega)
      unfold cornB innB at this
      simp only [Bool.or_eq_false_iff, Bool.and_eq_false_iff, decide_eq_false_iff_not] at this
      rcases this.2 with (h3 | h3) | h3
      · omega
      · omega
      · exact h3
    have hs := straight h (i := c + (t + 1)) (by omega) (by omega) hn
    rw [show c + (t + 1) + 1 = c + (t + 2) by omega, show c + (t + 1) - 1 = c + t by omega] at hs
    generalize (gP ps (c + 1)).1 - (gP ps c).1 = v at *
    generalize (gP ps (c + 1)).2 - (gP ps c).2 = u at *
    have e1 : ((t + 2 : Nat) : Int) * v = ((t + 1 : Nat) : Int) * v + v := by rw [show ((t + 2 : Nat) : Int) = ((t + 1 : Nat) : Int) + 1 by omega, Int.add_mul]; omega
    have e2 : ((t + 2 : Nat) : Int) * u = ((t + 1 : Nat) : Int) * u + u := by rw [show ((t + 2 : Nat) : Int) = ((t + 1 : Nat) : Int) + 1 by omega, Int.add_mul]; omega
    have e3 : ((t + 1 : Nat) : Int) * v = (t : Int) * v + v := by rw [show ((t + 1 : Nat) : Int) = (t : Int) + 1 by omega, Int.add_mul]; omega
    have e4 : ((t + 1 : Nat) : Int) * u = (t : Int) * u + u := by rw [show ((t + 1 : Nat) : Int) = (t : Int) + 1 by omega, Int.add_mul]; omega
    rw [e1, e2]
    omega
theorem sgn_mul {v : Int} (hv : -1 ≤ v ∧ v ≤ 1) {t : Int} (ht : 0 < t) : sgn (t * v) = v := by
  have : v = -1 ∨ v = 0 ∨ v = 1 := by omega
  unfold sgn
  rcases this with rfl | rfl | rfl
  · rw [if_pos (by omega)]
  · simp
  · rw [if_neg (by omega), if_pos (by omega)]
theorem seg_it {ps : List Pt} (h : pathB ps = true) {c c' : Nat} (hcc : c < c') (hc' : c' < ps.length) (hno : ∀ i, c < i → i < c' → cornB ps i = false) :
    ∀ t, t ≤ c' - c → it (gP ps c') (gP ps c) t = gP ps (c + t)
  | 0, _ => rfl
  | t + 1, ht => by
    have ih := seg_it h hcc hc' hno t (by omega)
    obtain ⟨a1, a2⟩ := seg_at h hcc hc' hno (t + 1) ht
    obtain ⟨b1, b2⟩ := seg_at h hcc hc' hno t (by omega)
    obtain ⟨d1, d2⟩ := seg_at h hcc hc' hno (c' - c) (Nat.le_refl _)
    rw [show c + (c' - c) = c' by omega] at d1 d2
    have s1 := pathB_step h (k := c + 1) (by omega) (by omega)
    rw [show c + 1 - 1 = c by omega] at s1
    show stp (gP ps c') (it (gP ps c') (gP ps c) t) = _
    rw [ih]
    unfold stp
    unfold dist at s1
    generalize hv : (gP ps (c + 1)).1 - (gP ps c).1 = v at *
    generalize hu : (gP ps (c + 1)).2 - (gP ps c).2 = u at *
    have v1 : -1 ≤ v ∧ v ≤ 1 := by omega
    have u1 : -1 ≤ u ∧ u ≤ 1 := by omega
    have e1 : (gP ps c').1 - (gP ps (c + t)).1 = (((c' - c : Nat) : Int) - t) * v := by rw [d1, b1, Int.sub_mul]; omega
    have e2 : (gP ps c').2 - (gP ps (c + t)).2 = (((c' - c : Nat) : Int) - t) * u := by rw [d2, b2, Int.sub_mul]; omega
    have e3 : ((t + 1 : Nat) : Int) * v = (t : Int) * v + v := by rw [show ((t + 1 : Nat) : Int) = (t : Int) + 1 by omega, Int.add_mul]; omega
    have e4 : ((t + 1 : Nat) : Int) * u = (t : Int) * u + u := by rw [show ((t + 1 : Nat) : Int) = (t : Int) + 1 by omega, Int.add_mul]; omega
    rw [e1, e2, sgn_mul v1 (by omega), sgn_mul u1 (by omega)]
    refine Prod.ext ?_ ?_
    · simp only []; rw [show c + (t + 1) = c + (t + 1) from rfl, a1, b1, e3]; omega
    · simp only []; rw [a2, b2, e4]; omega
theorem seg_dist {ps : List Pt} (h : pathB ps = true) {c c' : Nat} (hcc : c < c') (hc' : c' < ps.length) (hno : ∀ i, c < i → i < c' → cornB ps i = false) :
    Al (gP ps c) (gP ps c') ∧ dist (gP ps c) (gP ps c') = (c' - c : Nat) := by
  obtain ⟨d1, d2⟩ := seg_at h hcc hc' hno (c' - c) (Nat.le_refl _)
  rw [show c + (c' - c) = c' by omega] at d1 d2
  have s1 := pathB_step h (k := c + 1) (by omega) (by omega)
  rw [show c + 1 - 1 = c by omega] at s1
  unfold Al
  unfold dist at s1 ⊢
  generalize hv : (gP ps (c + 1)).1 - (gP ps c).1 = v at *
  generalize hu : (gP ps (c + 1)).2 - (gP ps c).2 = u at *
  have hcase : (v = 0 ∧ (u = 1 ∨ u = -1)) ∨ (u = 0 ∧ (v = 1 ∨ v = -1)) := by omega
  rw [d1, d2]
  rcases hcase with ⟨rfl, rfl | rfl⟩ | ⟨rfl, rfl | rfl⟩
  · exact ⟨Or.inl (by omega), by omega⟩
  · exact ⟨Or.inl (by omega), by omega⟩
  · exact ⟨Or.inr (by omega), by omega⟩
  · exact ⟨Or.inr (by omega), by omega⟩
/-- The numbers of the corners. -/
def ixF (ps : List Pt) : List Nat := (List.range ps.length).filter (cornB ps)
theorem ixF_sort (ps : List Pt) : (ixF ps).Pairwise (· < ·) := List.Pairwise.sublist List.filter_sublist List.pairwise_lt_range
theorem ixF_mem {ps : List Pt} {i : Nat} : i ∈ ixF ps ↔ i < ps.length ∧ cornB ps i = true := by unfold ixF; rw [List.mem_filter, List.mem_range]
theorem corn_ix (ps : List Pt) : cornF ps ps.length = (ixF ps).map (gP ps) := rfl
theorem ixF_gap {ps : List Pt} {j : Nat} (hj : j + 1 < (ixF ps).length) : (ixF ps)[j] < (ixF ps)[j + 1] ∧ (ixF ps)[j + 1] < ps.length ∧ ∀ i, (ixF ps)[j] < i → i < (ixF ps)[j + 1] → cornB ps i = false := by
  have hs := List.pairwise_iff_getElem.1 (ixF_sort ps)
  have hm := ixF_mem.1 (List.getElem_mem hj)
  refine ⟨hs j (j + 1) (by omega) hj (by omega), hm.1, fun i h1 h2 => ?_⟩
  cases hc : cornB ps i with
  | false => rfl
  | true =>
    exfalso
    obtain ⟨t, ht, e⟩ := List.mem_iff_getElem.1 (ixF_mem.2 ⟨by omega, hc⟩)
    rcases Nat.lt_or_ge t (j + 1) with h3 | h3
    · rcases Nat.lt_or_ge t j with h4 | h4
      · have := hs t j ht (by omega) h4; omega
      · have : t = j := by omega
        subst this; omega
    · rcases Nat.lt_or_ge (j + 1) t with h4 | h4
      · have := hs (j + 1) t hj ht h4; omega
      · have : t = j + 1 := by omega
        subst this; omega
theorem ixF_first {ps : List Pt} (h : 1 ≤ ps.length) : ∃ h0 : 0 < (ixF ps).length, (ixF ps)[0] = 0 := by
  have hm : 0 ∈ ixF ps := ixF_mem.2 ⟨by omega, by simp [cornB]⟩
  obtain ⟨t, ht, e⟩ := List.mem_iff_getElem.1 hm
  refine ⟨by omega, ?_⟩
  rcases Nat.eq_zero_or_pos t with h0 | h0
  · subst h0; exact e
  · have := List.pairwise_iff_getElem.1 (ixF_sort ps) 0 t (by omega) ht h0; omega
theorem ixF_last {ps : List Pt} (h : 1 ≤ ps.length) (hl : (ixF ps).length - 1 < (ixF ps).length) : (ixF ps)[(ixF ps).length - 1] = ps.length - 1 := by
  have hm : ps.length - 1 ∈ ixF ps := ixF_mem.2 ⟨by omega, by simp [cornB]; omega⟩
  obtain ⟨t, ht, e⟩ := List.mem_iff_getElem.1 hm
  have hb := (ixF_mem.1 (List.getElem_mem hl)).1
  rcases Nat.lt_or_ge t ((ixF ps).length - 1) with h0 | h0
  · have := List.pairwise_iff_getElem.1 (ixF_sort ps) t _ ht hl h0; omega
  · have : t = (ixF ps).length - 1 := by omega
    subst this; exact e
theorem gC {ps : List Pt} {j : Nat} (hj : j < (ixF ps).length) : gP (cornF ps ps.length) j = gP ps (ixF ps)[j] := by
  rw [corn_ix, gP_at (by simpa using hj)]; simp
theorem full_corn {ps : List Pt} (h : pathB ps = true) : ∀ j (hj : j < (ixF ps).length), fullF (cornF ps ps.length) j = ps.take ((ixF ps)[j] + 1)
  | 0, hj => by
    obtain ⟨h0, e⟩ := ixF_first (pathB_len h).1
    have h1 := (pathB_len h).1
    show [gP (cornF ps ps.length) 0] = _
    rw [gC hj, e, gP_at (by omega)]
    cases ps with
    | nil => simp at h1
    | cons x l => simp
  | j + 1, hj => by
    obtain ⟨g1, g2, g3⟩ := ixF_gap hj
    have ih := full_corn h j (by omega)
    obtain ⟨_, hd⟩ := seg_dist h g1 g2 g3
    have hi := seg_it h g1 g2 g3
    show fullF (cornF ps ps.length) j ++ lnF (gP (cornF ps ps.length) (j + 1)) (gP (cornF ps ps.length) j) (dN (gP (cornF ps ps.length) j) (gP (cornF ps ps.length) (j + 1))) = _
    rw [ih, gC hj, gC (j := j) (by omega)]
    generalize (ixF ps)[j] = c at *
    generalize (ixF ps)[j + 1] = c' at *
    have hdn : dN (gP ps c) (gP ps c') = c' - c := by unfold dN; rw [hd]; omega
    rw [hdn]
    apply List.ext_getElem?
    intro k
    by_cases hk : k < c + 1
    · rw [List.getElem?_append_left (by rw [List.length_take]; omega), List.getElem?_take, List.getElem?_take, if_pos hk, if_pos (by omega)]
    · rw [List.getElem?_append_right (by rw [List.length_take]; omega), List.length_take, Nat.min_eq_left (by omega)]
      unfold lnF
      rw [List.getElem?_map]
      by_cases hk2 : k < c' + 1
      · rw [List.getElem?_range (by omega), List.getElem?_take, if_pos hk2]
        simp only [Option.map_some]
        rw [hi _ (by omega), show c + (k - (c + 1) + 1) = k by omega, gP_at (by omega), List.getElem?_eq_getElem (by omega)]
      · rw [List.getElem?_eq_none (by simp; omega), List.getElem?_take, if_neg hk2]; rfl
theorem fullV_corn {ps : List Pt} (h : pathB ps = true) : fullV (cornF ps ps.length) = ps := by
  obtain ⟨h0, _⟩ := ixF_first (pathB_len h).1
  have h1 := (pathB_len h).1
  unfold fullV
  rw [show (cornF ps ps.length).length = (ixF ps).length by rw [corn_ix]; simp]
  rw [full_corn h _ (by omega), ixF_last h1 (by omega), List.take_of_length_le (by omega)]
theorem thru_corn {ps : List Pt} (h : pathB ps = true) : Thru (cornF ps ps.length) := by
  obtain ⟨h0, _⟩ := ixF_first (pathB_len h).1
  have hl : (cornF ps ps.length).length = (ixF ps).length := by rw [corn_ix]; simp
  have hcl := cornF_len ps ps.length
  have hpl := pathB_len h
  refine ⟨by omega, by omega, ?_, fun k h1 h2 => ?_, by rw [fullV_corn h]; exact h, by rw [fullV_corn h]⟩
  · refine okPs_all fun j hj => ?_
    have := gC (ps := ps) (j := j) (by omega)
    rw [gP_at hj] at this
    rw [this]
    have ho : okPs ps = true := by
      unfold pathB at h
      simp only [Bool.and_eq_true] at h
      exact h.1.2.1
    exact gP_ok' ho (ixF_mem.1 (List.getElem_mem _)).1
  · obtain ⟨j, rfl⟩ : ∃ j, k = j + 1 := ⟨k - 1, by omega⟩
    obtain ⟨g1, g2, g3⟩ := ixF_gap (ps := ps) (j := j) (by omega)
    rw [show j + 1 - 1 = j by omega, gC (j := j) (by omega), gC (j := j + 1) (by omega)]
    exact (seg_dist h g1 g2 g3).1
end Go.Proofs.Ytgaecldkiijmpaa
