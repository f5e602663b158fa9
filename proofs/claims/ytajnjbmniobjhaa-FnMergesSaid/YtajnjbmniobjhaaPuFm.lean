/- FnMerges in plain numbers. -/
import Derived.Test.YtajnjbmniobjhaaPuSrc
set_option linter.unusedSimpArgs false
set_option linter.unusedVariables false
namespace Go.Proofs.Ytajnjbmniobjhaa
open Go.RowKit

theorem fm_in (a b c : Int) : m_impl_in a b c = some (decide (b ≤ a) && decide (a ≤ c)) := by
  unfold m_impl_in
  by_cases h : b ≤ a
  · rw [bif_t (by simpa using h)]; simp [h]
  · rw [bif_f (by simpa using h)]; simp [h]
/-- A small region. -/
structure Sm (p q r s : Int) : Prop where
  p0 : -1000 ≤ p
  q0 : q ≤ 1000
  r0 : -1000 ≤ r
  s0 : s ≤ 1000
  pq : p ≤ q
  rs : r ≤ s
theorem Sm.valid {p q r s : Int} (h : Sm p q r s) : m_impl_ValidRegion p q r s = some true := by
  obtain ⟨h1, h2, h3, h4, h5, h6⟩ := h
  unfold m_impl_ValidRegion
  simp only [fm_in, bind_some']
  rw [bif_t (by simp; omega), bif_t (by simp; omega), bif_t (by simp; omega)]
  congr 1; simp; omega
def ffar (p q r s p' q' r' s' : Int) : Int := max (max 0 (max (p - q') (p' - q))) (max 0 (max (r - s') (r' - s)))
theorem fm_rfar {p q r s p' q' r' s' : Int} (h : Sm p q r s) (h' : Sm p' q' r' s') : m_impl_Region_far p q r s p' q' r' s' = some (ffar p q r s p' q' r' s') := by
  obtain ⟨h1, h2, h3, h4, h5, h6⟩ := h
  obtain ⟨g1, g2, g3, g4, g5, g6⟩ := h'
  unfold m_impl_Region_far
  rw [wr_in (x := p - q') (by omega), wr_in (x := p' - q) (by omega), wr_in (x := r - s') (by omega), wr_in (x := r' - s) (by omega)]
  have e1 : ∀ x y : Int, (if y > x then y else x) = max x y := fun x y => by split <;> omega
  simp only [e1]
  unfold ffar
  congr 1; omega
theorem fm_far {p q r s p' q' r' s' : Int} (h : Sm p q r s) (h' : Sm p' q' r' s') : m_impl_FarRegions p q r s p' q' r' s' = some (ffar p q r s p' q' r' s', true) := by
  unfold m_impl_FarRegions
  rw [h.valid, h'.valid, fm_rfar h h']
  rfl
theorem fm_grow {p q r s x : Int} (h : Sm p q r s) (h0 : 0 ≤ x) (h' : Sm (p - x) (q + x) (r - x) (s + x)) : m_impl_GrowRegion p q r s x = some ((p - x, q + x, r - x, s + x), true) := by
  obtain ⟨h1, h2, h3, h4, h5, h6⟩ := id h
  obtain ⟨g1, g2, g3, g4, g5, g6⟩ := id h'
  unfold m_impl_GrowRegion m_impl_Region_grown
  rw [h.valid, fm_in, wr_in (x := p - x) (by omega), wr_in (x := q + x) (by omega), wr_in (x := r - x) (by omega), wr_in (x := s + x) (by omega)]
  simp only [bind_some']
  rw [bif_f (by rfl), bif_f (by simp; omega), h'.valid]
  rfl
theorem fm_rmeet (p q r s t u v w : Int) (h : max p t ≤ min q u ∧ max r v ≤ min s w) : m_impl_Region_meet p q r s t u v w = some ((max p t, min q u, max r v, min s w), true) := by
  unfold m_impl_Region_meet
  have e1 : ∀ x y : Int, (if y > x then y else x) = max x y := fun x y => by split <;> omega
  have e2 : ∀ x y : Int, (if y < x then y else x) = min x y := fun x y => by split <;> omega
  simp only [e1, e2]
  rw [bif_t (by simp only [decide_eq_true_eq]; omega)]
  simp only [h.2, decide_true]
theorem fm_meet {p q r s t u v w : Int} (h1 : Sm p q r s) (h2 : Sm t u v w) (h : max p t ≤ min q u ∧ max r v ≤ min s w) : m_impl_MeetRegions p q r s t u v w = some ((max p t, min q u, max r v, min s w), true) := by
  unfold m_impl_MeetRegions
  rw [h1.valid, h2.valid, fm_rmeet _ _ _ _ _ _ _ _ h]
  rfl
theorem fm_ok {p q r s d : Int} (h : Sm p q r s) (h0 : 0 ≤ d) (h1 : d ≤ 1000) : m_impl_mergeOk p q r s d = some true := by
  unfold m_impl_mergeOk
  rw [h.valid, fm_in]
  simp only [bind_some']
  rw [bif_t (by rfl)]
  congr 1; simp; omega
theorem fm_size {x : Int} (h : -1000000000 ≤ x ∧ x ≤ 1000000000) : m_impl_size x = some (max x (-x)) := by
  unfold m_impl_size
  rw [wr_in (by omega)]
  congr 1; split <;> omega
/-- What is drawn. -/
structure Dr (p q r s d : Int) : Prop where
  p0 : -9 ≤ p
  p1 : p ≤ 20
  q0 : p ≤ q
  q1 : q ≤ p + 5
  r0 : -9 ≤ r
  r1 : r ≤ 20
  s0 : r ≤ s
  s1 : s ≤ r + 5
  d0 : 0 ≤ d
  d1 : d ≤ 13
section
variable {p q r s d p' q' r' s' d' : Int}
theorem Dr.sm (h : Dr p q r s d) : Sm p q r s := by
  obtain ⟨a1, a2, a3, a4, a5, a6, a7, a8, a9, a10⟩ := h
  constructor <;> omega
/-- The wires x and y of a merge: not negative, not long, together as long as the regions are apart at least, and the delays are alike. -/
structure Wi (p q r s d p' q' r' s' d' x y : Int) : Prop where
  x0 : 0 ≤ x
  y0 : 0 ≤ y
  x1 : x ≤ 100
  y1 : y ≤ 100
  far : ffar p q r s p' q' r' s' ≤ x + y
  del : d + x = d' + y
theorem fm_far_le (h : Dr p q r s d) (h' : Dr p' q' r' s' d') : 0 ≤ ffar p q r s p' q' r' s' ∧ ffar p q r s p' q' r' s' ≤ 40 ∧ p - q' ≤ ffar p q r s p' q' r' s' ∧ p' - q ≤ ffar p q r s p' q' r' s' ∧ r - s' ≤ ffar p q r s p' q' r' s' ∧ r' - s ≤ ffar p q r s p' q' r' s' := by
  obtain ⟨a1, a2, a3, a4, a5, a6, a7, a8, a9, a10⟩ := h
  obtain ⟨b1, b2, b3, b4, b5, b6, b7, b8, b9, b10⟩ := h'
  unfold ffar; omega
/-- The merged region. -/
abbrev mgP (p q r s p' q' r' s' x y : Int) : Int × Int × Int × Int := (max (p - x) (p' - y), min (q + x) (q' + y), max (r - x) (r' - y), min (s + x) (s' + y))
theorem mg_sm (h : Dr p q r s d) (h' : Dr p' q' r' s' d') {x y : Int} (w : Wi p q r s d p' q' r' s' d' x y) :
    Sm (p - x) (q + x) (r - x) (s + x) ∧ Sm (p' - y) (q' + y) (r' - y) (s' + y) ∧ (max (p - x) (p' - y) ≤ min (q + x) (q' + y) ∧ max (r - x) (r' - y) ≤ min (s + x) (s' + y)) ∧ Sm (max (p - x) (p' - y)) (min (q + x) (q' + y)) (max (r - x) (r' - y)) (min (s + x) (s' + y)) ∧
    ffar (max (p - x) (p' - y)) (min (q + x) (q' + y)) (max (r - x) (r' - y)) (min (s + x) (s' + y)) p q r s ≤ x ∧ ffar (max (p - x) (p' - y)) (min (q + x) (q' + y)) (max (r - x) (r' - y)) (min (s + x) (s' + y)) p' q' r' s' ≤ y := by
  obtain ⟨f0, f1, f2, f3, f4, f5⟩ := fm_far_le h h'
  obtain ⟨a1, a2, a3, a4, a5, a6, a7, a8, a9, a10⟩ := h
  obtain ⟨b1, b2, b3, b4, b5, b6, b7, b8, b9, b10⟩ := h'
  obtain ⟨w1, w2, w3, w4, w5, w6⟩ := w
  generalize ffar p q r s p' q' r' s' = f at *
  refine ⟨⟨by omega, by omega, by omega, by omega, by omega, by omega⟩, ⟨by omega, by omega, by omega, by omega, by omega, by omega⟩, ⟨by omega, by omega⟩, ⟨by omega, by omega, by omega, by omega, by omega, by omega⟩, ?_, ?_⟩
  · unfold ffar; omega
  · unfold ffar; omega
/-- The tail of both ways of the merge. -/
theorem fm_tail (h : Dr p q r s d) (h' : Dr p' q' r' s' d') {x y : Int} (w : Wi p q r s d p' q' r' s' d' x y) :
    m_impl_Region_meet (wr (p - x)) (wr (q + x)) (wr (r - x)) (wr (s + x)) (wr (p' - y)) (wr (q' + y)) (wr (r' - y)) (wr (s' + y)) = some (mgP p q r s p' q' r' s' x y, true) ∧
    m_impl_mergeOk (max (p - x) (p' - y)) (min (q + x) (q' + y)) (max (r - x) (r' - y)) (min (s + x) (s' + y)) (wr (d + x)) = some true ∧ wr (d + x) = d + x := by
  obtain ⟨g1, g2, g3, g4, g5, g6⟩ := mg_sm h h' w
  obtain ⟨a1, a2, a3, a4, a5, a6, a7, a8, a9, a10⟩ := h
  obtain ⟨b1, b2, b3, b4, b5, b6, b7, b8, b9, b10⟩ := h'
  obtain ⟨w1, w2, w3, w4, w5, w6⟩ := w
  rw [wr_in (x := p - x) (by omega), wr_in (x := q + x) (by omega), wr_in (x := r - x) (by omega), wr_in (x := s + x) (by omega), wr_in (x := p' - y) (by omega), wr_in (x := q' + y) (by omega), wr_in (x := r' - y) (by omega), wr_in (x := s' + y) (by omega), wr_in (x := d + x) (by omega)]
  exact ⟨fm_rmeet _ _ _ _ _ _ _ _ g3, fm_ok g4 (by omega) (by omega), rfl⟩
theorem fm_pair (h : Dr p q r s d) (h' : Dr p' q' r' s' d') :
    m_impl_MergePair p q r s d p' q' r' s' d' = m_impl_merge p q r s d p' q' r' s' d' := by
  unfold m_impl_MergePair
  rw [fm_ok h.sm h.d0 (by have := h.d1; omega), fm_ok h'.sm h'.d0 (by have := h'.d1; omega)]
  simp only [bind_some']
  rw [bif_f (by rfl), bif_f (by rfl)]
  cases m_impl_merge p q r s d p' q' r' s' d' with
  | none => rfl
  | some y => rfl
/-- The gap is greater than the distance. -/
theorem fm_long (h : Dr p q r s d) (h' : Dr p' q' r' s' d') (c : ffar p q r s p' q' r' s' < max (d - d') (d' - d)) :
    Wi p q r s d p' q' r' s' d' (max 0 (d' - d)) (max 0 (d - d')) ∧
    m_impl_merge p q r s d p' q' r' s' d' = some (((max (p - max 0 (d' - d)) (p' - max 0 (d - d'))), (min (q + max 0 (d' - d)) (q' + max 0 (d - d'))), (max (r - max 0 (d' - d)) (r' - max 0 (d - d'))), (min (s + max 0 (d' - d)) (s' + max 0 (d - d'))), d + max 0 (d' - d)), max 0 (d' - d), max 0 (d - d'), true) := by
  have w : Wi p q r s d p' q' r' s' d' (max 0 (d' - d)) (max 0 (d - d')) := by
    have := h.d0; have := h.d1; have := h'.d0; have := h'.d1
    constructor <;> omega
  refine ⟨w, ?_⟩
  have := h.d0; have := h.d1; have := h'.d0; have := h'.d1
  unfold m_impl_merge m_impl_Region_grown
  rw [fm_rfar h.sm h'.sm, wr_in (x := d - d') (by omega), fm_size (by omega)]
  simp only [bind_some']
  rw [bif_f (by simp; omega), wr_in (x := d' - d) (by omega)]
  have e2 : (if 0 > d' - d then 0 else d' - d) = max 0 (d' - d) := by split <;> omega
  have e3 : (if 0 > d - d' then 0 else d - d') = max 0 (d - d') := by split <;> omega
  rw [e2, e3]
  obtain ⟨t1, t2, t3⟩ := fm_tail h h' w
  simp only [bind_some', t1]
  rw [bif_f (by rfl), t2]
  simp only [bind_some']
  rw [bif_f (by rfl), t3]
/-- The half is an integer. -/
theorem fm_even (h : Dr p q r s d) (h' : Dr p' q' r' s' d') (c : max (d - d') (d' - d) ≤ ffar p q r s p' q' r' s') {x : Int} (hx : 2 * x = ffar p q r s p' q' r' s' + d' - d) :
    Wi p q r s d p' q' r' s' d' x (ffar p q r s p' q' r' s' - x) ∧
    m_impl_merge p q r s d p' q' r' s' d' = some (((max (p - x) (p' - (ffar p q r s p' q' r' s' - x))), (min (q + x) (q' + (ffar p q r s p' q' r' s' - x))), (max (r - x) (r' - (ffar p q r s p' q' r' s' - x))), (min (s + x) (s' + (ffar p q r s p' q' r' s' - x))), d + x), x, ffar p q r s p' q' r' s' - x, true) := by
  obtain ⟨f0, f1, _⟩ := fm_far_le h h'
  have w : Wi p q r s d p' q' r' s' d' x (ffar p q r s p' q' r' s' - x) := by
    have := h.d0; have := h.d1; have := h'.d0; have := h'.d1
    constructor <;> omega
  refine ⟨w, ?_⟩
  have := h.d0; have := h.d1; have := h'.d0; have := h'.d1
  obtain ⟨t1, t2, t3⟩ := fm_tail h h' w
  unfold m_impl_merge m_impl_Region_grown
  rw [fm_rfar h.sm h'.sm, wr_in (x := d - d') (by omega), fm_size (by omega)]
  generalize ffar p q r s p' q' r' s' = f at *
  simp only [bind_some']
  rw [bif_t (by simp; omega), wr_in (x := f + d') (by omega), wr_in (x := f + d' - d) (by omega), ← hx]
  rw [Int.tmod_eq_emod_of_nonneg (by omega), Int.tdiv_eq_ediv_of_nonneg (by omega)]
  rw [bif_f (by simp), show 2 * x / 2 = x by omega, wr_in (x := x) (by have := w.x0; have := w.x1; omega), wr_in (x := f - x) (by have := w.y0; have := w.y1; omega)]
  simp only [bind_some', t1]
  rw [bif_f (by rfl), t2]
  simp only [bind_some']
  rw [bif_f (by rfl), t3]
/-- It is none. -/
theorem fm_odd (h : Dr p q r s d) (h' : Dr p' q' r' s' d') (c : max (d - d') (d' - d) ≤ ffar p q r s p' q' r' s') (hx : (ffar p q r s p' q' r' s' + d' - d) % 2 = 1) :
    m_impl_merge p q r s d p' q' r' s' d' = some ((0, 0, 0, 0, 0), 0, 0, false) := by
  obtain ⟨f0, f1, _⟩ := fm_far_le h h'
  have := h.d0; have := h.d1; have := h'.d0; have := h'.d1
  unfold m_impl_merge m_impl_Region_grown
  rw [fm_rfar h.sm h'.sm, wr_in (x := d - d') (by omega), fm_size (by omega)]
  generalize ffar p q r s p' q' r' s' = f at *
  simp only [bind_some']
  rw [bif_t (by simp; omega), wr_in (x := f + d') (by omega), wr_in (x := f + d' - d) (by omega)]
  rw [Int.tmod_eq_emod_of_nonneg (by omega), hx]
  rfl
end
theorem lawMerges (l0 l1 : List Int) (h0 : ∀ p ∈ l0, In8 p) (h1 : ∀ p ∈ l1, In8 p) : m_laws_FnMerges l0 l1 = some true := by
  have hlong : ∃ b, m_laws_r8Long l0 l1 = some b := by
    unfold m_laws_r8Long
    cases decide ((l0.length : Int) > 48)
    · exact ⟨_, rfl⟩
    · exact ⟨_, rfl⟩
  obtain ⟨b, hb⟩ := hlong
  unfold m_laws_FnMerges
  rw [hb]
  simp only [bind_some']
  cases b
  case true => rfl
  obtain ⟨p, q, r, s, d, ea, a1, a2, a3, a4, a5, a6, a7, a8, a9, a10⟩ := merge_drawn h0
  obtain ⟨p', q', r', s', d', eb, b1, b2, b3, b4, b5, b6, b7, b8, b9, b10⟩ := merge_drawn h1
  have hA : Dr p q r s d := ⟨a1, a2, a3, a4, a5, a6, a7, a8, a9, a10⟩
  have hB : Dr p' q' r' s' d' := ⟨b1, b2, b3, b4, b5, b6, b7, b8, b9, b10⟩
  obtain ⟨f0, f1, _⟩ := fm_far_le hA hB
  rw [ea, eb, bif_f rfl]
  simp only [bind_some']
  rw [fm_far hA.sm hB.sm, fm_pair hA hB]
  have hgap : (bif decide ((wr (d - d')) < 0) then some (wr (0 - (wr (d - d')))) else some (wr (d - d'))) = some (max (d - d') (d' - d)) := by
    rw [wr_in (x := d - d') (by omega), wr_in (x := 0 - (d - d')) (by omega)]
    by_cases c : d - d' < 0
    · rw [bif_t (by simpa using c)]; congr 1; omega
    · rw [bif_f (by simpa using c)]; congr 1; omega
  by_cases c : ffar p q r s p' q' r' s' < max (d - d') (d' - d)
  · obtain ⟨w, e⟩ := fm_long hA hB c
    obtain ⟨g1, g2, g3, g4, g5, g6⟩ := mg_sm hA hB w
    rw [e]
    simp only [bind_some', hgap]
    have k1 : d + max 0 (d' - d) = d' + max 0 (d - d') := w.del
    have k2 : max 0 (d' - d) + max 0 (d - d') = max (d - d') (d' - d) := by omega
    have k3 : max 0 (d' - d) = 0 ∨ max 0 (d - d') = 0 := by omega
    have k4 := w.x0; have k5 := w.y0; have k6 := w.x1; have k7 := w.y1
    generalize max 0 (d' - d) = x at *
    generalize max 0 (d - d') = y at *
    generalize max (d - d') (d' - d) = gap at *
    rw [wr_in (x := d + x) (by omega), wr_in (x := d' + y) (by omega), wr_in (x := x + y) (by omega), fm_grow hA.sm k4 g1, fm_grow hB.sm k5 g2]
    simp only [bind_some']
    rw [fm_meet g1 g2 g3, g4.valid, fm_far g4 hA.sm, fm_far g4 hB.sm]
    simp only [bind_some']
    generalize ffar (max (p - x) (p' - y)) (min (q + x) (q' + y)) (max (r - x) (r' - y)) (min (s + x) (s' + y)) p q r s = n1 at *
    generalize ffar (max (p - x) (p' - y)) (min (q + x) (q' + y)) (max (r - x) (r' - y)) (min (s + x) (s' + y)) p' q' r' s' = n2 at *
    generalize ffar p q r s p' q' r' s' = f at *
    have q1 := show ¬ f < 0 by omega
    have q2 := show ¬ gap ≤ f by omega
    have q3 := show ¬ gap < 0 by omega
    rcases k3 with k3 | k3
    · have ky : y = gap := by omega
      have kd : d = d' + gap := by omega
      have kn : n1 ≤ 0 := by omega
      have g6' : n2 ≤ gap := by omega
      rw [k3, ky, kd]
      simp [q1, q2, q3, c, kn, g6']
    · have kx : x = gap := by omega
      have kd : d' = d + gap := by omega
      have kn : n2 ≤ 0 := by omega
      have g5' : n1 ≤ gap := by omega
      rw [k3, kx, kd]
      simp [q1, q2, q3, c, kn, g5']
  · have c' : max (d - d') (d' - d) ≤ ffar p q r s p' q' r' s' := by omega
    rcases Int.emod_two_eq (ffar p q r s p' q' r' s' + d' - d) with par | par
    · obtain ⟨w, e⟩ := fm_even hA hB c' (x := (ffar p q r s p' q' r' s' + d' - d) / 2) (by omega)
      obtain ⟨g1, g2, g3, g4, g5, g6⟩ := mg_sm hA hB w
      rw [e]
      simp only [bind_some', hgap]
      have k4 := w.x0; have k5 := w.y0; have k6 := w.x1; have k7 := w.y1
      have k1 := w.del
      have kx : 2 * ((ffar p q r s p' q' r' s' + d' - d) / 2) = ffar p q r s p' q' r' s' + d' - d := by omega
      have kg : (ffar p q r s p' q' r' s' + max (d - d') (d' - d)) % 2 = 0 := by omega
      generalize hxx : (ffar p q r s p' q' r' s' + d' - d) / 2 = x at *
      generalize hyy : ffar p q r s p' q' r' s' - x = y at *
      have k2 : x + y = ffar p q r s p' q' r' s' := by omega
      have hgm : 0 ≤ max (d - d') (d' - d) := by omega
      generalize max (d - d') (d' - d) = gap at *
      rw [wr_in (x := d + x) (by omega), wr_in (x := d' + y) (by omega), wr_in (x := x + y) (by omega), wr_in (x := ffar p q r s p' q' r' s' + gap) (by omega), Int.tmod_eq_emod_of_nonneg (by omega), kg, fm_grow hA.sm k4 g1, fm_grow hB.sm k5 g2]
      simp only [bind_some']
      rw [fm_meet g1 g2 g3, g4.valid, fm_far g4 hA.sm, fm_far g4 hB.sm]
      simp only [bind_some']
      generalize ffar (max (p - x) (p' - y)) (min (q + x) (q' + y)) (max (r - x) (r' - y)) (min (s + x) (s' + y)) p q r s = n1 at *
      generalize ffar (max (p - x) (p' - y)) (min (q + x) (q' + y)) (max (r - x) (r' - y)) (min (s + x) (s' + y)) p' q' r' s' = n2 at *
      generalize ffar p q r s p' q' r' s' = f at *
      simp [show ¬ f < 0 by omega, c, c', k1, show ¬ x < 0 by omega, show ¬ y < 0 by omega, show ¬ f < gap by omega, k2, g5, g6]
    · rw [fm_odd hA hB c' par]
      simp only [bind_some', hgap, hA.sm.valid]
      have kg : (ffar p q r s p' q' r' s' + max (d - d') (d' - d)) % 2 = 1 := by omega
      have hgm : 0 ≤ max (d - d') (d' - d) := by omega
      generalize max (d - d') (d' - d) = gap at *
      generalize ffar p q r s p' q' r' s' = f at *
      rw [wr_in (x := f + gap) (by omega), Int.tmod_eq_emod_of_nonneg (by omega), kg]
      simp [show ¬ f < 0 by omega, show ¬ f < gap by omega]
end Go.Proofs.Ytajnjbmniobjhaa
