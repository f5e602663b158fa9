/- Rivers: the law. -/
import Derived.Test.YtgaecldkiijmpaaPuRv1
set_option linter.unusedSimpArgs false
set_option linter.unusedVariables false
set_option linter.unusedSectionVars false
namespace Go.Proofs.Ytgaecldkiijmpaa
open Go.RowKit

theorem row_drawn {l : List Int} (hl : ∀ p ∈ l, In8 p) {n : Nat} (hn : n ≤ 20) (h9 : 4 + 4 * n ≤ 40) : ∃ t, m_spec_R8Row l (n : Int) = some t ∧ Row t n := by
  unfold m_spec_R8Row m_spec_l00From
  simp only [bind_some']
  obtain ⟨v, k', s', e1, e2, e3, e4, e5⟩ := src_pick1 (k := 0) (s := 0) (n := 5) hl (by omega) (by omega) (by omega) (by omega)
  rw [e1]
  simp only [bind_some']
  obtain ⟨r, g1, g2⟩ := loopM_count (m_spec_R8Row_s1 l (n : Int)) n
    (fun k s => Row s.1 k ∧ s.2.2.1 = (k : Int) ∧ 0 ≤ s.2.1 ∧ s.2.1 ≤ 4 + 4 * k ∧ (∀ j, j < k → gI s.1 j < s.2.1) ∧ 0 ≤ s.2.2.2.1 ∧ s.2.2.2.1 ≤ 1 + k)
    (fun r => Row r n) (s0 := (([] : List (Int)), v, 0, k', s')) ⟨⟨rfl, fun i h => by omega, fun i h => by omega⟩, rfl, e2, by simp only []; omega, fun j h => by omega, e4, by simp only []; omega⟩ (by
      rintro k ⟨out, x, i, c, s⟩ hk ⟨a1, a2, a3, a4, a5, a6, a7⟩
      simp only at a1 a2 a3 a4 a5 a6 a7
      subst a2
      unfold m_spec_R8Row_s1
      simp only []
      have hlen := a1.len
      rw [bif_t (by simp; omega), apC_ok (by unfold lim; simp; omega)]
      simp only [bind_some']
      obtain ⟨y, c1, s1, b1, b2, b3, b4, b5⟩ := src_pick1 (k := c) (s := s) (n := 4) hl (by omega) (by omega) (by omega) (by omega)
      rw [b1]
      simp only [bind_some']
      rw [wr_in (x := 1 + y) (by omega), wr_in (x := x + (1 + y)) (by omega), wr_in (x := (k : Int) + 1) (by omega)]
      left
      have g0 : ∀ j, j < k → gI (out ++ [x]) j = gI out j := fun j hj => by unfold gI; simp [List.getD, List.getElem?_append_left (show j < out.length by omega)]
      have g1 : gI (out ++ [x]) k = x := by unfold gI; rw [← hlen]; simp [List.getD]
      refine ⟨_, rfl, ⟨by simp [hlen], fun j hj => ?_, fun j hj => ?_⟩, rfl, by simp only []; omega, by simp only []; omega, fun j hj => ?_, by simp only []; omega, by simp only []; omega⟩
      · by_cases e : j = k
        · subst e; rw [g1]; omega
        · rw [g0 j (by omega)]; exact a1.rng j (by omega)
      · by_cases e : j + 1 = k
        · rw [g0 j (by omega), e, g1]; exact a5 j (by omega)
        · rw [g0 j (by omega), g0 (j + 1) (by omega)]; exact a1.inc j (by omega)
      · show gI (out ++ [x]) j < x + (1 + y)
        by_cases e : j = k
        · subst e; rw [g1]; omega
        · rw [g0 j (by omega)]; have := a5 j (by omega); omega) (by
      rintro ⟨out, x, i, c, s⟩ ⟨a1, a2, a3, a4, a5, a6, a7⟩
      simp only at a1 a2 a3 a4 a5 a6 a7
      subst a2
      unfold m_spec_R8Row_s1
      simp only []
      rw [bif_f (by simp)]
      exact ⟨_, rfl, a1⟩)
  rw [g1]
  exact ⟨r, rfl, g2⟩
theorem rowOk_eq {t : List Int} {n : Nat} (h : Row t n) (h1 : 1 ≤ n) (h2 : n ≤ 20) : m_impl_rowOk t = some true := by
  unfold m_impl_rowOk
  have hl := h.len
  have hh := loop_run (step := m_impl_rowOk_s1 t) n (fun k => (k : Int)) (r := Sum.inl ()) (by
    intro k hk
    have hr := h.rng k hk
    unfold m_impl_rowOk_s1
    simp only []
    rw [bif_t (by simp; omega), geti_gI (by omega)]
    simp only [bind_some']
    rw [in_eq', decide_eq_true (show 0 ≤ gI t k by omega), decide_eq_true (show gI t k ≤ 99 by omega)]
    simp only [bind_some', Bool.and_true, Bool.not_true, cond_false]
    rw [wr_in (x := (k : Int) + 1) (by omega)]
    by_cases e : k = 0
    · subst e; rw [bif_f (by simp)]; rfl
    · rw [bif_t (by simp; omega), wr_in (by omega), show (k : Int) - 1 = ((k - 1 : Nat) : Int) by omega, geti_gI (by omega)]
      have := h.inc (k - 1) (by omega)
      rw [show k - 1 + 1 = k by omega] at this
      simp only [bind_some']
      rw [bif_f (by simp; omega)]
      rfl) (by
    unfold m_impl_rowOk_s1
    simp only []
    rw [bif_f (by simp; omega)])
  rw [show ((0 : Nat) : Int) = 0 from rfl] at hh
  rw [hh]
  simp only [bind_some']
  rw [in_eq', decide_eq_true (show (1 : Int) ≤ t.length by omega), decide_eq_true (show (t.length : Int) ≤ 20 by omega)]
  rfl
section
variable {t b : List Int} {n : Nat} (ht : Row t n) (hb : Row b n) (h1 : 1 ≤ n) (h20 : n ≤ 20)
include ht hb h1 h20
theorem validRv : m_impl_ValidRiver t b = some true := by
  unfold m_impl_ValidRiver
  rw [rowOk_eq ht h1 h20, rowOk_eq hb h1 h20]
  simp only [bind_some', cond_true]
  rw [ht.len, hb.len]; simp
theorem tight_eq (T : Nat) (hT : T ≤ 100) : ∃ i w, m_impl_tight t b (T : Int) = some (i, w) ∧ (i < 0 ↔ Fit t b n T) := by
  have hlt := ht.len
  have hlb := hb.len
  unfold m_impl_tight
  let p : Nat → Bool := fun k => decide (gI b (k + T) - gI t k < T) || decide (gI t (k + T) - gI b k < T)
  rcases loop_find (step := m_impl_tight_s1 t b (T : Int)) (n - T) p (fun k => ((k : Int), if gI b (k + T) - gI t k < T then (0 : Int) else 1)) (by
      intro k hk
      have r1 := ht.rng k (by omega); have r2 := hb.rng k (by omega); have r3 := ht.rng (k + T) (by omega); have r4 := hb.rng (k + T) (by omega)
      unfold m_impl_tight_s1
      simp only []
      rw [wr_in (x := (k : Int) + T) (by omega), bif_t (by simp; omega), show (k : Int) + (T : Int) = ((k + T : Nat) : Int) by omega, geti_gI (l := b) (by omega), geti_gI (l := t) (k := k) (by omega), geti_gI (l := t) (k := k + T) (by omega), geti_gI (l := b) (k := k) (by omega)]
      simp only [bind_some']
      rw [wr_in (x := gI b (k + T) - gI t k) (by omega), wr_in (x := gI t (k + T) - gI b k) (by omega), wr_in (x := (k : Int) + 1) (by omega)]
      show _ = some (if (decide (gI b (k + T) - gI t k < T) || decide (gI t (k + T) - gI b k < T)) = true then _ else _)
      by_cases c1 : gI b (k + T) - gI t k < T
      · rw [bif_t (by simpa using c1), decide_eq_true c1, if_pos c1]; rfl
      · rw [bif_f (by simpa using c1), decide_eq_false c1, if_neg c1]
        by_cases c2 : gI t (k + T) - gI b k < T
        · rw [bif_t (by simpa using c2), decide_eq_true c2]; rfl
        · rw [bif_f (by simpa using c2), decide_eq_false c2]; rfl) (by
      unfold m_impl_tight_s1
      simp only []
      rw [wr_in (by omega), bif_f (by simp; omega)]) with ⟨h1, h2⟩ | ⟨k, h1, h2, _, h3⟩
  · rw [h2]
    refine ⟨-1, 0, rfl, ⟨fun _ => ?_, fun _ => by omega⟩⟩
    intro i j hj hjn
    have := anyIn_f.1 h1 i (by omega) (by omega)
    have e : j = i + T := by omega
    subst e
    simp only [p, Bool.or_eq_false_iff, decide_eq_false_iff_not] at this
    omega
  · rw [h3]
    refine ⟨k, _, rfl, ⟨fun h => by omega, fun h => ?_⟩⟩
    have := h k (k + T) (by omega) (by omega)
    simp only [p, Bool.or_eq_true, decide_eq_true_eq] at h2
    omega
theorem fits_eq (T : Nat) (hT : T ≤ 100) : ∃ v, m_impl_fits t b (T : Int) = some v ∧ (v = true ↔ Fit t b n T) := by
  obtain ⟨i, w, e1, e2⟩ := tight_eq ht hb h1 h20 T hT
  unfold m_impl_fits
  rw [e1]
  exact ⟨decide (i < 0), rfl, by rw [decide_eq_true_iff]; exact e2⟩
theorem fitsRv (T : Nat) (hT : T ≤ 20) : ∃ v, m_impl_FitsRiver t b (T : Int) = some v ∧ (v = true ↔ Fit t b n T) := by
  obtain ⟨v, e1, e2⟩ := fits_eq ht hb h1 h20 T (by omega)
  unfold m_impl_FitsRiver m_impl_tracksOk
  rw [validRv ht hb h1 h20]
  simp only [bind_some', cond_true]
  rw [in_eq', decide_eq_true (show (0 : Int) ≤ T by omega), decide_eq_true (show (T : Int) ≤ 20 by omega)]
  simp only [bind_some', Bool.and_true, cond_true]
  rw [e1]
  exact ⟨v, rfl, e2⟩
theorem fitsRv_neg : m_impl_FitsRiver t b (-1) = some false := by
  unfold m_impl_FitsRiver m_impl_tracksOk
  rw [validRv ht hb h1 h20]
  simp only [bind_some', cond_true]
  rw [in_eq']
  rfl
theorem fit_n : Fit t b n n := fun i j hj hjn => by omega
theorem fit_succ {T : Nat} (h : Fit t b n T) : Fit t b n ((T + 1 : Nat) : Int) := by
  intro i j hj hjn
  have := h i (j - 1) (by omega) (by omega)
  have e1 := ht.inc (j - 1) (by omega)
  have e2 := hb.inc (j - 1) (by omega)
  rw [show j - 1 + 1 = j by omega] at e1 e2
  omega
theorem least_eq : ∃ L : Nat, L ≤ n ∧ m_impl_LeastTracks t b = some ((L : Int), true) ∧ Fit t b n L ∧ ∀ m : Nat, m < L → ¬ Fit t b n m := by
  have key : ∀ N : Nat, (∃ m, m ≤ N ∧ Fit t b n (m : Int)) → ∃ L : Nat, L ≤ N ∧ Fit t b n L ∧ ∀ m : Nat, m < L → ¬ Fit t b n m := by
    intro N
    induction N with
    | zero => rintro ⟨m, h1, h2⟩; exact ⟨0, Nat.le_refl _, by rw [show m = 0 by omega] at h2; exact h2, fun m hm => by omega⟩
    | succ N ih =>
      rintro ⟨m, h1, h2⟩
      by_cases hex : ∃ m, m ≤ N ∧ Fit t b n (m : Int)
      · obtain ⟨L, a, b, c⟩ := ih hex
        exact ⟨L, by omega, b, c⟩
      · have : m = N + 1 := by
          refine Classical.byContradiction fun hne => hex ⟨m, by omega, h2⟩
        subst this
        exact ⟨N + 1, Nat.le_refl _, h2, fun m hm hf => hex ⟨m, by omega, hf⟩⟩
  obtain ⟨L, l1, l2, l3⟩ := key n ⟨n, Nat.le_refl _, fit_n ht hb h1 h20⟩
  refine ⟨L, l1, ?_, l2, l3⟩
  unfold m_impl_LeastTracks
  rw [validRv ht hb h1 h20]
  simp only [bind_some', Bool.not_true, cond_false]
  have hh := loop_run (step := m_impl_LeastTracks_s1 t b) L (fun k => (k : Int)) (r := (L : Int)) (by
    intro k hk
    obtain ⟨v, e1, e2⟩ := fits_eq ht hb h1 h20 k (by omega)
    have hv : v = false := by
      cases v with
      | false => rfl
      | true => exact absurd (e2.1 rfl) (l3 k hk)
    unfold m_impl_LeastTracks_s1
    simp only []
    rw [e1, hv]
    simp only [bind_some', Bool.not_false, cond_true]
    rw [wr_in (by omega)]; rfl) (by
    obtain ⟨v, e1, e2⟩ := fits_eq ht hb h1 h20 L (by omega)
    unfold m_impl_LeastTracks_s1
    simp only []
    rw [e1, e2.2 l2]
    rfl)
  rw [show ((0 : Nat) : Int) = 0 from rfl] at hh
  rw [hh]; rfl
end
/-! ### All wires -/
noncomputable def rvP (t b : List Int) (T i : Nat) : List Pt := (m_impl_riverPath t b (T : Int) (i : Int)).getD []
noncomputable def rvC (t b : List Int) (T i : Nat) : List Pt := cornF (rvP t b T i) (rvP t b T i).length
noncomputable def lenS (t b : List Int) (T : Nat) : Nat → Int
  | 0 => 0
  | i + 1 => lenS t b T i + (((rvP t b T i).length : Int) - 1)
noncomputable def bndS (t b : List Int) (T : Nat) : Nat → Int
  | 0 => 0
  | i + 1 => bndS t b T i + (((rvC t b T i).length : Int) - 2)
section
variable {t b : List Int} {n T : Nat} (ht : Row t n) (hb : Row b n) (h1 : 1 ≤ n) (h20 : n ≤ 20) (hT : T ≤ 12) (hf : Fit t b n T)
include ht hb h1 h20 hT hf
theorem rvP_eq {i : Nat} (hi : i < n) : ∃ σ, m_impl_riverPath t b (T : Int) (i : Int) = some (rvP t b T i) ∧ (rvP t b T i).length ≤ 576 ∧ RvI σ (Zn t b n i T) (gI b i) T (rvP t b T i) (gI t i, (T : Int) + 1) := by
  obtain ⟨out, σ, e1, e2, e3⟩ := rv_path ht hb h20 hi hT hf
  have : rvP t b T i = out := by unfold rvP; rw [e1]; rfl
  rw [this]
  exact ⟨σ, e1, e2, e3⟩
theorem rvP_path {i : Nat} (hi : i < n) : pathB (rvP t b T i) = true := by
  obtain ⟨σ, e1, e2, e3⟩ := rvP_eq ht hb h1 h20 hT hf hi
  exact e3.path e2
theorem rvC_len {i : Nat} (hi : i < n) : (rvC t b T i).length ≤ 576 := by
  obtain ⟨σ, e1, e2, e3⟩ := rvP_eq ht hb h1 h20 hT hf hi
  have := cornF_len (rvP t b T i) (rvP t b T i).length
  unfold rvC; omega
theorem S_b : ∀ i, i ≤ n → -2 * (i : Int) ≤ lenS t b T i ∧ lenS t b T i ≤ 576 * i ∧ -2 * (i : Int) ≤ bndS t b T i ∧ bndS t b T i ≤ 576 * i
  | 0, _ => by simp [lenS, bndS]
  | i + 1, hi => by
    have ih := S_b i (by omega)
    obtain ⟨σ, e1, e2, e3⟩ := rvP_eq ht hb h1 h20 hT hf (i := i) (by omega)
    have := rvC_len ht hb h1 h20 hT hf (i := i) (by omega)
    unfold lenS bndS
    omega
theorem corners_rv {i : Nat} (hi : i < n) : m_impl_corners (rvP t b T i) = some (rvC t b T i) := by
  obtain ⟨σ, e1, e2, e3⟩ := rvP_eq ht hb h1 h20 hT hf hi
  exact implCorners_eq _ (by omega)
theorem wire_eq {i : Nat} (hi : i < n) : m_impl_RiverWire t b (T : Int) (i : Int) = some (rvC t b T i, true) := by
  obtain ⟨σ, e1, e2, e3⟩ := rvP_eq ht hb h1 h20 hT hf hi
  obtain ⟨v, f1, f2⟩ := fitsRv ht hb h1 h20 T (by omega)
  have hl := ht.len
  unfold m_impl_RiverWire
  rw [f1, f2.2 hf]
  simp only [bind_some', Bool.not_true, cond_false]
  rw [wr_in (by omega), in_eq', decide_eq_true (show (0 : Int) ≤ i by omega), decide_eq_true (show (i : Int) ≤ (t.length : Int) - 1 by omega)]
  simp only [bind_some', Bool.and_true, Bool.not_true, cond_false]
  rw [e1]
  simp only [bind_some']
  rw [corners_rv ht hb h1 h20 hT hf hi]
  rfl
theorem thru_rv {i : Nat} (hi : i < n) : m_impl_PathThrough (rvC t b T i) = some (rvP t b T i, true) := by
  have hp := rvP_path ht hb h1 h20 hT hf hi
  have hc := rvC_len ht hb h1 h20 hT hf hi
  rw [implPathThrough_eq (by omega)]
  have hth := thru_corn hp
  unfold thruV rvC
  rw [if_pos hth, fullV_corn hp]
theorem rvP_pos {i : Nat} (hi : i < n) : 1 ≤ (rvP t b T i).length := by
  obtain ⟨σ, e1, e2, e3⟩ := rvP_eq ht hb h1 h20 hT hf hi
  exact e3.pos
theorem s4_eq {i : Nat} (hi : i < n) {L r : Int} (hLr : L + r = T) (hL : 0 ≤ L ∧ L ≤ 100) (hr : 0 ≤ r ∧ r ≤ 100) (v1 v2 : Bool) : loopM (m_laws_FnRivers_s4 (L, v1) r (rvP t b T i, v2)) 1 = some (Sum.inl ()) := by
  obtain ⟨σ, e1, e2, e3⟩ := rvP_eq ht hb h1 h20 hT hf hi
  have hpos := e3.pos
  have hh := loop_run (step := m_laws_FnRivers_s4 (L, v1) r (rvP t b T i, v2)) ((rvP t b T i).length - 1) (fun k => ((k + 1 : Nat) : Int)) (r := Sum.inl ()) (by
    intro k hk
    have hs := (e3.stp (k + 1) (by omega) (by omega)).2
    rw [show k + 1 - 1 = k by omega] at hs
    unfold m_laws_FnRivers_s4
    simp only []
    rw [bif_t (by simp; omega), geti_gP' (by omega), wr_in (x := ((k + 1 : Nat) : Int) - 1) (by omega), show ((k + 1 : Nat) : Int) - 1 = (k : Int) by omega, geti_gP' (by omega)]
    simp only [bind_some']
    rw [wr_in (x := ((k + 1 : Nat) : Int) + 1) (by omega), wr_in (x := L + r) (by omega), hLr]
    by_cases e : (gP (rvP t b T i) (k + 1)).1 = (gP (rvP t b T i) k).1
    · rw [bif_f (by simpa using e)]; rfl
    · have := hs e
      rw [bif_t (by simpa using e), bif_f (by simp; omega), bif_f (by simp; omega)]
      rfl) (by
    unfold m_laws_FnRivers_s4
    simp only []
    rw [bif_f (by simp; omega)])
  exact hh
noncomputable def wiresV (t b : List Int) (T i : Nat) : List (List Pt) := (List.range i).map (rvC t b T)
theorem s3_eq {L r : Int} (hLr : L + r = T) (hL : 0 ≤ L ∧ L ≤ 100) (hr : 0 ≤ r ∧ r ≤ 100) (v1 : Bool) {y8 : Int} (hy : 1 + y8 = n) : loopM (m_laws_FnRivers_s3 y8 t b (L, v1) r) (([] : List (List (Int × Int))), 0, 0, 0) = some (Sum.inl (wiresV t b T n, lenS t b T n, bndS t b T n)) := by
  have hh := loop_run (step := m_laws_FnRivers_s3 y8 t b (L, v1) r) n (fun i => (wiresV t b T i, lenS t b T i, bndS t b T i, (i : Int))) (r := Sum.inl (wiresV t b T n, lenS t b T n, bndS t b T n)) (by
    intro i hi
    obtain ⟨σ, e1, e2, e3⟩ := rvP_eq ht hb h1 h20 hT hf hi
    have hpos := e3.pos
    have hcl := rvC_len ht hb h1 h20 hT hf hi
    have hS := S_b ht hb h1 h20 hT hf i (by omega)
    unfold m_laws_FnRivers_s3
    simp only []
    rw [wr_in (x := 1 + y8) (by omega), wr_in (x := L + r) (by omega), bif_t (by simp; omega), hLr, wire_eq ht hb h1 h20 hT hf hi]
    simp only [bind_some']
    rw [thru_rv ht hb h1 h20 hT hf hi]
    simp only [bind_some', Bool.not_true, cond_false]
    have g0 : geti (rvP t b T i) 0 = some (gI b i, 0) := by
      have := geti_gP' (ps := rvP t b T i) (k := 0) (by omega)
      rw [e3.fst] at this; exact this
    have g1 : geti (rvP t b T i) (wr (((rvP t b T i).length : Int) - 1)) = some (gI t i, (T : Int) + 1) := by
      rw [wr_in (by omega), show ((rvP t b T i).length : Int) - 1 = (((rvP t b T i).length - 1 : Nat) : Int) by omega, geti_gP' (by omega), e3.lst]
    have gb : geti b (i : Int) = some (gI b i) := geti_gI (by rw [hb.len]; exact hi)
    have gt : geti t (i : Int) = some (gI t i) := geti_gI (by rw [ht.len]; exact hi)
    rw [g0]
    simp only [bind_some', gb, gt, g1, wr_in (x := (T : Int) + 1) (by omega), beq_self_eq_true, Bool.and_true, Bool.not_true, cond_false]
    rw [s4_eq ht hb h1 h20 hT hf hi hLr hL hr]
    simp only [bind_some']
    have hwl : (wiresV t b T i).length = i := by unfold wiresV; simp
    rw [apC_ok (by unfold lim; rw [hwl]; simp; omega)]
    simp only [bind_some']
    rw [wr_in (x := ((rvP t b T i).length : Int) - 1) (by omega), wr_in (x := ((rvC t b T i).length : Int) - 2) (by omega), wr_in (x := lenS t b T i + _) (by omega), wr_in (x := bndS t b T i + _) (by omega), wr_in (x := (i : Int) + 1) (by omega)]
    have hw : wiresV t b T (i + 1) = wiresV t b T i ++ [rvC t b T i] := by unfold wiresV; rw [List.range_succ, List.map_append]; rfl
    rw [hw]
    rfl) (by
    unfold m_laws_FnRivers_s3
    simp only []
    rw [wr_in (x := 1 + y8) (by omega), bif_f (by simp; omega)])
  exact hh
theorem len_eq : m_impl_RiverLength t b (T : Int) = some (lenS t b T n, true) := by
  obtain ⟨v, f1, f2⟩ := fitsRv ht hb h1 h20 T (by omega)
  have hl := ht.len
  unfold m_impl_RiverLength m_impl_riverSum_impl_RiverLength_1
  rw [f1, f2.2 hf]
  simp only [bind_some', Bool.not_true, cond_false]
  have hh := loop_run (step := m_impl_riverSum_impl_RiverLength_1_s1 t b (T : Int)) n (fun i => (lenS t b T i, (i : Int))) (r := lenS t b T n) (by
    intro i hi
    obtain ⟨σ, e1, e2, e3⟩ := rvP_eq ht hb h1 h20 hT hf hi
    have hS := S_b ht hb h1 h20 hT hf i (by omega)
    unfold m_impl_riverSum_impl_RiverLength_1_s1 m_impl_RiverLength_1
    simp only []
    rw [bif_t (by simp; omega), e1]
    simp only [bind_some']
    rw [wr_in (x := ((rvP t b T i).length : Int) - 1) (by omega), wr_in (x := lenS t b T i + _) (by omega), wr_in (x := (i : Int) + 1) (by omega)]
    rfl) (by
    unfold m_impl_riverSum_impl_RiverLength_1_s1
    simp only []
    rw [bif_f (by simp; omega)])
  rw [show ((lenS t b T 0, ((0 : Nat) : Int)) : Int × Int) = (0, 0) from rfl] at hh
  rw [hh]; rfl
theorem bnd_eq : m_impl_RiverBends t b (T : Int) = some (bndS t b T n, true) := by
  obtain ⟨v, f1, f2⟩ := fitsRv ht hb h1 h20 T (by omega)
  have hl := ht.len
  unfold m_impl_RiverBends m_impl_riverSum_impl_RiverBends_1
  rw [f1, f2.2 hf]
  simp only [bind_some', Bool.not_true, cond_false]
  have hh := loop_run (step := m_impl_riverSum_impl_RiverBends_1_s1 t b (T : Int)) n (fun i => (bndS t b T i, (i : Int))) (r := bndS t b T n) (by
    intro i hi
    obtain ⟨σ, e1, e2, e3⟩ := rvP_eq ht hb h1 h20 hT hf hi
    have hS := S_b ht hb h1 h20 hT hf i (by omega)
    have hcl := rvC_len ht hb h1 h20 hT hf hi
    unfold m_impl_riverSum_impl_RiverBends_1_s1 m_impl_RiverBends_1
    simp only []
    rw [bif_t (by simp; omega), e1]
    simp only [bind_some']
    rw [corners_rv ht hb h1 h20 hT hf hi]
    simp only [bind_some']
    rw [wr_in (x := ((rvC t b T i).length : Int) - 2) (by omega), wr_in (x := bndS t b T i + _) (by omega), wr_in (x := (i : Int) + 1) (by omega)]
    rfl) (by
    unfold m_impl_riverSum_impl_RiverBends_1_s1
    simp only []
    rw [bif_f (by simp; omega)])
  rw [show ((bndS t b T 0, ((0 : Nat) : Int)) : Int × Int) = (0, 0) from rfl] at hh
  rw [hh]; rfl
theorem apart_rv : m_impl_AreApart (wiresV t b T n) = some true := by
  have hlen : (wiresV t b T n).length = n := by unfold wiresV; simp
  have hrw : ∀ j, j < n → rwP (wiresV t b T n) j = rvC t b T j := fun j hj => by unfold rwP wiresV; simp [List.getD, hj]
  have hfull : ∀ j, j < n → fullV (rwP (wiresV t b T n) j) = rvP t b T j := fun j hj => by
    rw [hrw j hj]; exact fullV_corn (rvP_path ht hb h1 h20 hT hf hj)
  have hmem : ∀ k, k ≤ n → ∀ q ∈ catF (wiresV t b T n) k, ∃ j, j < k ∧ q ∈ rvP t b T j := by
    intro k
    induction k with
    | zero => intro _ q hq; cases hq
    | succ k ih =>
      intro hk q hq
      rw [show catF (wiresV t b T n) (k + 1) = catF (wiresV t b T n) k ++ fullV (rwP (wiresV t b T n) k) from rfl, List.mem_append, hfull k (by omega)] at hq
      rcases hq with hq | hq
      · obtain ⟨j, hj, hq⟩ := ih (by omega) q hq
        exact ⟨j, by omega, hq⟩
      · exact ⟨k, by omega, hq⟩
  have hnod : ∀ k, k ≤ n → (catF (wiresV t b T n) k).Nodup := by
    intro k
    induction k with
    | zero => intro _; exact List.nodup_nil
    | succ k ih =>
      intro hk
      rw [show catF (wiresV t b T n) (k + 1) = catF (wiresV t b T n) k ++ fullV (rwP (wiresV t b T n) k) from rfl, hfull k (by omega), List.nodup_append]
      refine ⟨ih (by omega), pathB_nodup (rvP_path ht hb h1 h20 hT hf (by omega)), fun q hq q' hq' e => ?_⟩
      subst e
      obtain ⟨j, hj, hqj⟩ := hmem k (by omega) q hq
      obtain ⟨_, _, _, ej⟩ := rvP_eq ht hb h1 h20 hT hf (i := j) (by omega)
      obtain ⟨_, _, _, ek⟩ := rvP_eq ht hb h1 h20 hT hf (i := k) (by omega)
      exact Zn_apart ht hb hj (by omega) (ej.zone q hqj) (ek.zone q hq')
  rw [implAp_eq (fun r hr => by
    unfold wiresV at hr
    obtain ⟨j, hj, rfl⟩ := List.mem_map.1 hr
    rw [List.mem_range] at hj
    have := rvC_len ht hb h1 h20 hT hf hj
    omega)]
  rw [apV_t ⟨by rw [hlen]; exact h20, fun j hj => by rw [hlen] at hj; rw [hrw j hj]; exact thru_corn (rvP_path ht hb h1 h20 hT hf hj), by rw [hlen]; exact hnod n (Nat.le_refl _)⟩]
end
theorem r8At_ok {l : List Int} (hl : ∀ p ∈ l, In8 p) {k n : Int} (hk : 0 ≤ k) (hn : 2 ≤ n) : ∃ v, m_laws_r8At l k n = some v ∧ 0 ≤ v ∧ v < n := by
  unfold m_laws_r8At
  rw [bif_f (by simp; omega)]
  by_cases c : k ≥ (l.length : Int)
  · rw [bif_t (by simpa using c)]; exact ⟨0, rfl, by omega, by omega⟩
  · rw [bif_f (by simpa using c)]
    obtain ⟨j, rfl⟩ := Int.eq_ofNat_of_zero_le hk
    have hj : j < l.length := by omega
    rw [geti_lt hj]
    have hb := hl _ (List.getElem_mem hj)
    simp only [bind_some']
    rw [nzC_ok (by omega)]
    simp only [bind_some']
    rw [wr_in (by unfold In8 at hb; omega)]
    refine ⟨_, rfl, Int.tmod_nonneg _ hb.1, ?_⟩
    rw [Int.tmod_eq_emod_of_nonneg hb.1]; exact Int.emod_lt_of_pos _ (by omega)
theorem lawRivers (l0 l1 : List Int) (h0 : ∀ p ∈ l0, In8 p) (h1 : ∀ p ∈ l1, In8 p) : m_laws_FnRivers l0 l1 = some true := by
  unfold m_laws_FnRivers m_laws_r8Long
  by_cases c0 : (l0.length : Int) > 48
  · rw [bif_t (by simpa using c0)]; rfl
  rw [bif_f (by simpa using c0)]
  simp only [bind_some']
  by_cases c1 : (l1.length : Int) > 48
  · rw [bif_t (by simpa using c1)]
  rw [bif_f (by simpa using c1)]
  obtain ⟨y, y1, y2, y3⟩ := r8At_ok h0 (k := 40) (n := 7) (by omega) (by omega)
  rw [y1]
  simp only [bind_some']
  obtain ⟨n, hn⟩ := Int.eq_ofNat_of_zero_le (show 0 ≤ 1 + y by omega)
  rw [wr_in (x := 1 + y) (by omega), hn]
  obtain ⟨t, t1, ht⟩ := row_drawn h0 (n := n) (by omega) (by omega)
  obtain ⟨b, b1, hb⟩ := row_drawn h1 (n := n) (by omega) (by omega)
  rw [t1, b1]
  simp only [bind_some']
  have hn1 : 1 ≤ n := by omega
  have hn20 : n ≤ 20 := by omega
  obtain ⟨L, l1', l2, l3, l4⟩ := least_eq ht hb hn1 hn20
  rw [l2]
  simp only [bind_some', Bool.not_true, cond_false]
  rw [bif_f (by simp), bif_f (by simp; omega), validRv ht hb hn1 hn20]
  simp only [bind_some', Bool.not_true, cond_false]
  obtain ⟨v, v1, v2⟩ := fitsRv ht hb hn1 hn20 L (by omega)
  rw [v1, v2.2 l3]
  simp only [bind_some', Bool.not_true, cond_false]
  have hlow : m_impl_FitsRiver t b (wr ((L : Int) - 1)) = some false := by
    by_cases e : L = 0
    · subst e; exact fitsRv_neg ht hb hn1 hn20
    · rw [wr_in (by omega), show (L : Int) - 1 = ((L - 1 : Nat) : Int) by omega]
      obtain ⟨w, w1, w2⟩ := fitsRv ht hb hn1 hn20 (L - 1) (by omega)
      rw [w1]
      cases w with
      | false => rfl
      | true => exact absurd (w2.1 rfl) (l4 (L - 1) (by omega))
  rw [hlow]
  simp only [bind_some', cond_false]
  obtain ⟨r, r1, r2, r3⟩ := r8At_ok h0 (k := 41) (n := 3) (by omega) (by omega)
  rw [r1]
  simp only [bind_some']
  obtain ⟨rn, rfl⟩ := Int.eq_ofNat_of_zero_le r2
  have hfit : Fit t b n ((L + rn : Nat) : Int) := by
    have : ∀ k : Nat, Fit t b n ((L + k : Nat) : Int) := by
      intro k
      induction k with
      | zero => exact l3
      | succ k ih => exact fit_succ ht hb hn1 hn20 ih
    exact this rn
  rw [wr_in (x := (L : Int) + (rn : Int)) (by omega), show (L : Int) + (rn : Int) = ((L + rn : Nat) : Int) by omega]
  obtain ⟨w, w1, w2⟩ := fitsRv ht hb hn1 hn20 (L + rn) (by omega)
  rw [w1, w2.2 hfit]
  simp only [bind_some', Bool.not_true, cond_false]
  rw [s3_eq ht hb hn1 hn20 (T := L + rn) (by omega) hfit (L := (L : Int)) (r := (rn : Int)) (by omega) (by omega) (by omega) true (y8 := y) hn]
  simp only [bind_some']
  rw [len_eq ht hb hn1 hn20 (T := L + rn) (by omega) hfit, bnd_eq ht hb hn1 hn20 (T := L + rn) (by omega) hfit]
  simp only [bind_some', cond_true, beq_self_eq_true]
  rw [apart_rv ht hb hn1 hn20 (T := L + rn) (by omega) hfit]
  rfl
end Go.Proofs.Ytgaecldkiijmpaa
