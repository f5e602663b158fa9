/- The merge of two nodes of a clock tree: the reference's l06Pair and the program's merge come to the same, and what they come to is valid again. -/
import Derived.Test.YtajnjbmniobjhaaPkSkew
set_option linter.unusedSimpArgs false
set_option linter.unusedVariables false
namespace Go.Proofs.Ytajnjbmniobjhaa
open Go.RowKit

abbrev Mg := Int × Int × Int × Int × Int
def mfar (a b : Mg) : Int := max (max 0 (max (a.1 - b.2.1) (b.1 - a.2.1))) (max 0 (max (a.2.2.1 - b.2.2.2.1) (b.2.2.1 - a.2.2.2.1)))
def mone (a b : Mg) : Int :=
  if b.2.2.2.2 - a.2.2.2.2 > mfar a b then b.2.2.2.2 - a.2.2.2.2 else if b.2.2.2.2 - a.2.2.2.2 < - mfar a b then 0 else (mfar a b + (b.2.2.2.2 - a.2.2.2.2)) / 2
def mtwo (a b : Mg) : Int :=
  if b.2.2.2.2 - a.2.2.2.2 > mfar a b then 0 else if b.2.2.2.2 - a.2.2.2.2 < - mfar a b then a.2.2.2.2 - b.2.2.2.2 else mfar a b - (mfar a b + (b.2.2.2.2 - a.2.2.2.2)) / 2
def mmeet (a b : Mg) (x y : Int) : Mg := (max (a.1 - x) (b.1 - y), min (a.2.1 + x) (b.2.1 + y), max (a.2.2.1 - x) (b.2.2.1 - y), min (a.2.2.2.1 + x) (b.2.2.2.1 + y), a.2.2.2.2 + x)
def mmrg (a b : Mg) : Mg := mmeet a b (mone a b) (mtwo a b)
/-- What holds of every node: its region is one, it meets the pins' box, it lies in that box grown by the delay, the delay is at most half of B, and all is a multiple of g. -/
structure MgOk (g B : Int) (m : Mg) : Prop where
  u : m.1 ≤ m.2.1
  v : m.2.2.1 ≤ m.2.2.2.1
  u0 : m.1 ≤ 811008
  u1 : 0 ≤ m.2.1
  v0 : m.2.2.1 ≤ 405504
  v1 : -405504 ≤ m.2.2.2.1
  lu : -m.2.2.2.2 ≤ m.1
  hu : m.2.1 ≤ 811008 + m.2.2.2.2
  lv : -405504 - m.2.2.2.2 ≤ m.2.2.1
  hv : m.2.2.2.1 ≤ 405504 + m.2.2.2.2
  d0 : 0 ≤ m.2.2.2.2
  d1 : 2 * m.2.2.2.2 ≤ B
  g1 : g ∣ m.1
  g2 : g ∣ m.2.1
  g3 : g ∣ m.2.2.1
  g4 : g ∣ m.2.2.2.1
  g5 : g ∣ m.2.2.2.2
theorem MgOk.mono {g g' B B' : Int} {m : Mg} (h : MgOk g B m) (hg : g' ∣ g) (hB : B ≤ B') : MgOk g' B' m :=
  ⟨h.u, h.v, h.u0, h.u1, h.v0, h.v1, h.lu, h.hu, h.lv, h.hv, h.d0, by have := h.d1; omega, Int.dvd_trans hg h.g1, Int.dvd_trans hg h.g2, Int.dvd_trans hg h.g3, Int.dvd_trans hg h.g4, Int.dvd_trans hg h.g5⟩
theorem dvd_max {g a b : Int} (ha : g ∣ a) (hb : g ∣ b) : g ∣ max a b := by
  rcases Int.le_total a b with h | h
  · rw [Int.max_eq_right h]; exact hb
  · rw [Int.max_eq_left h]; exact ha
theorem dvd_min {g a b : Int} (ha : g ∣ a) (hb : g ∣ b) : g ∣ min a b := by
  rcases Int.le_total a b with h | h
  · rw [Int.min_eq_left h]; exact ha
  · rw [Int.min_eq_right h]; exact hb
theorem dvd_half {g x : Int} (h : 2 * g ∣ x) : g ∣ x / 2 ∧ x / 2 * 2 = x := by
  obtain ⟨c, rfl⟩ := h
  have e : 2 * g * c / 2 = g * c := by rw [Int.mul_assoc]; exact Int.mul_ediv_cancel_left _ (by omega)
  rw [e]
  exact ⟨Int.dvd_mul_right g c, by rw [Int.mul_comm, Int.mul_assoc]⟩
section
variable {g B : Int} {a b : Mg}
theorem mfar_dvd (ha : MgOk g B a) (hb : MgOk g B b) : g ∣ mfar a b :=
  dvd_max (dvd_max (Int.dvd_zero g) (dvd_max (Int.dvd_sub ha.g1 hb.g2) (Int.dvd_sub hb.g1 ha.g2))) (dvd_max (Int.dvd_zero g) (dvd_max (Int.dvd_sub ha.g3 hb.g4) (Int.dvd_sub hb.g3 ha.g4)))
theorem mfar_le (ha : MgOk g B a) (hb : MgOk g B b) : 0 ≤ mfar a b ∧ mfar a b ≤ 811008 ∧ a.1 - b.2.1 ≤ mfar a b ∧ b.1 - a.2.1 ≤ mfar a b ∧ a.2.2.1 - b.2.2.2.1 ≤ mfar a b ∧ b.2.2.1 - a.2.2.2.1 ≤ mfar a b := by
  have := ha.u0; have := ha.u1; have := ha.v0; have := ha.v1; have := hb.u0; have := hb.u1; have := hb.v0; have := hb.v1
  unfold mfar; omega
theorem mhalf (ha : MgOk (2 * g) B a) (hb : MgOk (2 * g) B b) : g ∣ (mfar a b + (b.2.2.2.2 - a.2.2.2.2)) / 2 ∧ (mfar a b + (b.2.2.2.2 - a.2.2.2.2)) / 2 * 2 = mfar a b + (b.2.2.2.2 - a.2.2.2.2) :=
  dvd_half (Int.dvd_add (mfar_dvd ha hb) (Int.dvd_sub hb.g5 ha.g5))
theorem d2 {g x : Int} (h : 2 * g ∣ x) : g ∣ x := Int.dvd_trans (Int.dvd_mul_left 2 g) h
theorem mone_dvd (ha : MgOk (2 * g) B a) (hb : MgOk (2 * g) B b) : g ∣ mone a b ∧ g ∣ mtwo a b := by
  have h1 := (mhalf ha hb).1
  unfold mone mtwo
  split
  · exact ⟨Int.dvd_sub (d2 hb.g5) (d2 ha.g5), Int.dvd_zero g⟩
  · split
    · exact ⟨Int.dvd_zero g, Int.dvd_sub (d2 ha.g5) (d2 hb.g5)⟩
    · exact ⟨h1, Int.dvd_sub (d2 (mfar_dvd ha hb)) h1⟩
/-- The wires: not negative, together at least the distance, and equal delays. -/
theorem mone_facts (ha : MgOk (2 * g) B a) (hb : MgOk (2 * g) B b) : 0 ≤ mone a b ∧ 0 ≤ mtwo a b ∧ mfar a b ≤ mone a b + mtwo a b ∧ a.2.2.2.2 + mone a b = b.2.2.2.2 + mtwo a b ∧ 2 * (a.2.2.2.2 + mone a b) ≤ B + 811008 ∧ 2 * mone a b ≤ B + 811008 ∧ 2 * mtwo a b ≤ B + 811008 := by
  obtain ⟨h0, h1, _⟩ := mfar_le ha hb
  have h2 := (mhalf ha hb).2
  have := ha.d0; have := hb.d0; have := ha.d1; have := hb.d1
  unfold mone mtwo
  generalize mfar a b = f at *
  generalize (f + (b.2.2.2.2 - a.2.2.2.2)) / 2 = q at *
  generalize a.2.2.2.2 = x at *
  generalize b.2.2.2.2 = y at *
  split
  · omega
  · split
    · omega
    · omega
theorem mmrg_ok (ha : MgOk (2 * g) B a) (hb : MgOk (2 * g) B b) : MgOk g (B + 811008) (mmrg a b) := by
  obtain ⟨_, _, f1, f2, f3, f4⟩ := mfar_le ha hb
  obtain ⟨k1, k2, k3, k4, k5, _, _⟩ := mone_facts ha hb
  obtain ⟨q1, q2⟩ := mone_dvd ha hb
  unfold mmrg mmeet
  generalize mone a b = x at *
  generalize mtwo a b = y at *
  generalize mfar a b = f at *
  have := ha.u; have := ha.v; have := ha.u0; have := ha.u1; have := ha.v0; have := ha.v1; have := ha.lu; have := ha.hu; have := ha.lv; have := ha.hv
  have := hb.u; have := hb.v; have := hb.u0; have := hb.u1; have := hb.v0; have := hb.v1; have := hb.lu; have := hb.hu; have := hb.lv; have := hb.hv
  exact ⟨by simp only []; omega, by simp only []; omega, by simp only []; omega, by simp only []; omega, by simp only []; omega, by simp only []; omega, by simp only []; omega, by simp only []; omega, by simp only []; omega, by simp only []; omega,
    by simp only []; have := ha.d0; omega, by simp only []; omega,
    dvd_max (Int.dvd_sub (d2 ha.g1) q1) (Int.dvd_sub (d2 hb.g1) q2), dvd_min (Int.dvd_add (d2 ha.g2) q1) (Int.dvd_add (d2 hb.g2) q2),
    dvd_max (Int.dvd_sub (d2 ha.g3) q1) (Int.dvd_sub (d2 hb.g3) q2), dvd_min (Int.dvd_add (d2 ha.g4) q1) (Int.dvd_add (d2 hb.g4) q2), Int.dvd_add (d2 ha.g5) q1⟩
/-- All is small. -/
theorem MgOk.small (h : MgOk g B a) (hB : B ≤ 8921088) : -5000000 ≤ a.1 ∧ a.1 ≤ 6000000 ∧ -5000000 ≤ a.2.1 ∧ a.2.1 ≤ 6000000 ∧ -5000000 ≤ a.2.2.1 ∧ a.2.2.1 ≤ 6000000 ∧ -5000000 ≤ a.2.2.2.1 ∧ a.2.2.2.1 ≤ 6000000 ∧ 0 ≤ a.2.2.2.2 ∧ a.2.2.2.2 ≤ 5000000 := by
  have := h.u; have := h.v; have := h.u0; have := h.u1; have := h.v0; have := h.v1; have := h.lu; have := h.hu; have := h.lv; have := h.hv; have := h.d0; have := h.d1
  omega
theorem size_eq {x : Int} (h : -1000000000 ≤ x ∧ x ≤ 1000000000) : m_impl_size x = some (max x (-x)) := by
  unfold m_impl_size
  rw [wr_in (by omega)]
  congr 1; split <;> omega
theorem Valid_eq (a b c d : Int) : m_impl_ValidRegion a b c d = some (decide (-1000000000 ≤ a) && decide (a ≤ b) && (decide (-1000000000 ≤ c) && decide (c ≤ d)) && (decide (b ≤ 1000000000) && decide (d ≤ 1000000000))) := by
  unfold m_impl_ValidRegion
  simp only [implIn_eq, bind_some']
  by_cases h1 : -1000000000 ≤ a <;> by_cases h2 : a ≤ b <;> by_cases h3 : -1000000000 ≤ c <;> by_cases h4 : c ≤ d <;> by_cases h5 : b ≤ 1000000000 <;> simp [h1, h2, h3, h4, h5]
theorem mergeOk_eq (a b c d e : Int) (h : -1000000000 ≤ a ∧ a ≤ b ∧ -1000000000 ≤ c ∧ c ≤ d ∧ b ≤ 1000000000 ∧ d ≤ 1000000000 ∧ 0 ≤ e ∧ e ≤ 1000000000) : m_impl_mergeOk a b c d e = some true := by
  unfold m_impl_mergeOk
  simp only [Valid_eq, implIn_eq, bind_some']
  simp [h.1, h.2.1, h.2.2.1, h.2.2.2.1, h.2.2.2.2.1, h.2.2.2.2.2.1, h.2.2.2.2.2.2.1, h.2.2.2.2.2.2.2]
theorem meet_eq (p q r s t u v w : Int) (h : max p t ≤ min q u ∧ max r v ≤ min s w) : m_impl_Region_meet p q r s t u v w = some ((max p t, min q u, max r v, min s w), true) := by
  unfold m_impl_Region_meet
  have e1 : ∀ x y : Int, (if y > x then y else x) = max x y := fun x y => by split <;> omega
  have e2 : ∀ x y : Int, (if y < x then y else x) = min x y := fun x y => by split <;> omega
  simp only [e1, e2]
  rw [bif_t (by simp only [decide_eq_true_eq]; omega)]
  simp only [h.2, decide_true]
theorem Rfar_eq {a b : Mg} (sa : -5000000 ≤ a.1 ∧ a.1 ≤ 6000000 ∧ -5000000 ≤ a.2.1 ∧ a.2.1 ≤ 6000000 ∧ -5000000 ≤ a.2.2.1 ∧ a.2.2.1 ≤ 6000000 ∧ -5000000 ≤ a.2.2.2.1 ∧ a.2.2.2.1 ≤ 6000000 ∧ 0 ≤ a.2.2.2.2 ∧ a.2.2.2.2 ≤ 5000000)
    (sb : -5000000 ≤ b.1 ∧ b.1 ≤ 6000000 ∧ -5000000 ≤ b.2.1 ∧ b.2.1 ≤ 6000000 ∧ -5000000 ≤ b.2.2.1 ∧ b.2.2.1 ≤ 6000000 ∧ -5000000 ≤ b.2.2.2.1 ∧ b.2.2.2.1 ≤ 6000000 ∧ 0 ≤ b.2.2.2.2 ∧ b.2.2.2.2 ≤ 5000000) :
    m_impl_Region_far a.1 a.2.1 a.2.2.1 a.2.2.2.1 b.1 b.2.1 b.2.2.1 b.2.2.2.1 = some (mfar a b) := by
  unfold m_impl_Region_far
  rw [wr_in (x := a.1 - b.2.1) (by omega), wr_in (x := b.1 - a.2.1) (by omega), wr_in (x := a.2.2.1 - b.2.2.2.1) (by omega), wr_in (x := b.2.2.1 - a.2.2.2.1) (by omega)]
  have e1 : ∀ x y : Int, (if y > x then y else x) = max x y := fun x y => by split <;> omega
  simp only [e1]
  unfold mfar
  congr 1; omega
theorem implMerge_eq (ha : MgOk (2 * g) B a) (hb : MgOk (2 * g) B b) (hB : B ≤ 8110080) :
    m_impl_merge a.1 a.2.1 a.2.2.1 a.2.2.2.1 a.2.2.2.2 b.1 b.2.1 b.2.2.1 b.2.2.2.1 b.2.2.2.2 = some (mmrg a b, mone a b, mtwo a b, true) := by
  have sa := ha.small (by omega)
  have sb := hb.small (by omega)
  obtain ⟨h0, h1, _⟩ := mfar_le ha hb
  obtain ⟨k1, k2, _, k5, _, k3, k4⟩ := mone_facts ha hb
  have hO := mmrg_ok ha hb
  have so := hO.small (by omega)
  have hev := (mhalf ha hb).2
  have ou := hO.u
  have ov := hO.v
  unfold m_impl_merge m_impl_Region_grown
  rw [Rfar_eq sa sb, wr_in (x := a.2.2.2.2 - b.2.2.2.2) (by omega), size_eq (by omega)]
  simp only [bind_some']
  have tail : ∀ x y : Int, x = mone a b → y = mtwo a b → m_impl_Region_meet (wr (a.1 - x)) (wr (a.2.1 + x)) (wr (a.2.2.1 - x)) (wr (a.2.2.2.1 + x)) (wr (b.1 - y)) (wr (b.2.1 + y)) (wr (b.2.2.1 - y)) (wr (b.2.2.2.1 + y)) =
      some (((mmrg a b).1, (mmrg a b).2.1, (mmrg a b).2.2.1, (mmrg a b).2.2.2.1), true) ∧ m_impl_mergeOk (mmrg a b).1 (mmrg a b).2.1 (mmrg a b).2.2.1 (mmrg a b).2.2.2.1 (wr (a.2.2.2.2 + x)) = some true ∧ wr (a.2.2.2.2 + x) = (mmrg a b).2.2.2.2 := by
    rintro x y rfl rfl
    rw [wr_in (x := a.1 - mone a b) (by omega), wr_in (x := a.2.1 + mone a b) (by omega), wr_in (x := a.2.2.1 - mone a b) (by omega), wr_in (x := a.2.2.2.1 + mone a b) (by omega), wr_in (x := b.1 - mtwo a b) (by omega), wr_in (x := b.2.1 + mtwo a b) (by omega), wr_in (x := b.2.2.1 - mtwo a b) (by omega), wr_in (x := b.2.2.2.1 + mtwo a b) (by omega), wr_in (x := a.2.2.2.2 + mone a b) (by omega)]
    refine ⟨meet_eq _ _ _ _ _ _ _ _ ⟨ou, ov⟩, mergeOk_eq _ _ _ _ _ ?_, rfl⟩
    have e5 : (mmrg a b).2.2.2.2 = a.2.2.2.2 + mone a b := rfl
    rw [← e5]; omega
  by_cases c : max (a.2.2.2.2 - b.2.2.2.2) (-(a.2.2.2.2 - b.2.2.2.2)) ≤ mfar a b
  · rw [bif_t (by simpa using c), wr_in (x := mfar a b + b.2.2.2.2) (by omega), wr_in (x := mfar a b + b.2.2.2.2 - a.2.2.2.2) (by omega)]
    have e0 : mfar a b + b.2.2.2.2 - a.2.2.2.2 = mfar a b + (b.2.2.2.2 - a.2.2.2.2) := by omega
    rw [e0, Int.tmod_eq_emod_of_nonneg (by omega), Int.tdiv_eq_ediv_of_nonneg (by omega)]
    have e1 : (mfar a b + (b.2.2.2.2 - a.2.2.2.2)) % 2 = 0 := by omega
    have e2 : mone a b = (mfar a b + (b.2.2.2.2 - a.2.2.2.2)) / 2 := by unfold mone; split; omega; split; omega; rfl
    have e3 : mtwo a b = mfar a b - (mfar a b + (b.2.2.2.2 - a.2.2.2.2)) / 2 := by unfold mtwo; split; omega; split; omega; rfl
    rw [bif_f (by rw [e1]; rfl), wr_in (x := (mfar a b + (b.2.2.2.2 - a.2.2.2.2)) / 2) (by omega), ← e2, wr_in (x := mfar a b - mone a b) (by omega), show mfar a b - mone a b = mtwo a b by omega]
    obtain ⟨t1, t2, t3⟩ := tail (mone a b) (mtwo a b) rfl rfl
    simp only [bind_some', t1]
    rw [bif_f (by rfl), t2]
    simp only [bind_some']
    rw [bif_f (by rfl), t3]
  · rw [bif_f (by simpa using c), wr_in (x := b.2.2.2.2 - a.2.2.2.2) (by omega)]
    have e2 : (if 0 > b.2.2.2.2 - a.2.2.2.2 then 0 else b.2.2.2.2 - a.2.2.2.2) = mone a b := by unfold mone; split <;> split <;> omega
    have e3 : (if 0 > a.2.2.2.2 - b.2.2.2.2 then 0 else a.2.2.2.2 - b.2.2.2.2) = mtwo a b := by unfold mtwo; split <;> split <;> omega
    rw [e2, e3]
    obtain ⟨t1, t2, t3⟩ := tail (mone a b) (mtwo a b) rfl rfl
    simp only [bind_some', t1]
    rw [bif_f (by rfl), t2]
    simp only [bind_some']
    rw [bif_f (by rfl), t3]
end
end Go.Proofs.Ytajnjbmniobjhaa
