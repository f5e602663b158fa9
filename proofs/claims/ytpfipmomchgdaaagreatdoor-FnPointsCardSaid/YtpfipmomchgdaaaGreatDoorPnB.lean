/- The law on points. -/
import Derived.Test.YtpfipmomchgdaaaGreatDoorPnA
import Derived.Test.YtpfipmomchgdaaaGreatDoorPuSrcM
set_option linter.unusedSimpArgs false
set_option linter.unusedVariables false
namespace Go.Proofs.YtpfipmomchgdaaaGreatDoor
open Go.RowKit

theorem ArePoints_eq (ps : List Pt) (hb : ps.length ≤ 140737488355328) : m_impl_ArePoints ps = some (okPs ps && decide (ps.length ≤ 24)) := by
  unfold m_impl_ArePoints
  rw [ContNo_eq ps hb]
  by_cases h : ps.length ≤ 24
  · rw [bif_t (by simp; omega)]; simp [h]
  · rw [bif_f (by simp; omega)]; simp [h]
/-- The index of the first of the nearest among the first k. -/
def nearI (f : Nat → Int) : Nat → Nat
  | 0 => 0
  | k + 1 => if f k < f (nearI f k) then k else nearI f k
theorem nearI_lt (f : Nat → Int) : ∀ k, nearI f k = 0 ∨ nearI f k < k
  | 0 => Or.inl rfl
  | k + 1 => by
    have := nearI_lt f k
    rw [nearI]; split
    · right; omega
    · rcases this with h | h
      · left; exact h
      · right; omega
def disto (ps : List Pt) (p : Pt) (i : Nat) : Int := dist (ps.getD i (0, 0)) p
theorem disto_at {ps : List Pt} {p : Pt} {i : Nat} (h : i < ps.length) : disto ps p i = dist ps[i] p := by unfold disto; simp [h]
def nearOk (ps : List Pt) (p : Pt) : Bool := okPs ps && decide (ps.length ≤ 24) && decide (ps.length ≠ 0) && okP p
def nearV (ps : List Pt) (p : Pt) : Int × Bool := if nearOk ps p then ((nearI (disto ps p) ps.length : Nat), true) else (0, false)
theorem implNear_eq (ps : List Pt) (p : Pt) (hb : ps.length ≤ 140737488355328) : m_impl_NearestPoint ps p.1 p.2 = some (nearV ps p) := by
  unfold m_impl_NearestPoint nearV nearOk
  rw [ArePoints_eq ps hb]
  simp only [bind_some']
  cases h1 : (okPs ps && decide (ps.length ≤ 24)) with
  | false => rw [bif_t (by rfl)]; simp
  | true =>
    rw [bif_f (by rfl)]
    by_cases h2 : ps.length = 0
    · rw [bif_t (by simp [h2])]; simp [h2]
    · rw [bif_f (by simpa using h2), IsPoint_eq]
      simp only [bind_some']
      cases h3 : okP (p.1, p.2) with
      | false => rw [bif_t (by rfl)]; simp [show okP p = false from h3]
      | true =>
        rw [bif_f (by rfl)]
        have hp : okP p = true := h3
        rw [Bool.and_eq_true] at h1
        have hl : loopM (m_impl_NearestPoint_s1 ps p.1 p.2) (0, 0) = some ((nearI (disto ps p) ps.length : Nat) : Int) := by
          refine loopM_val _ ps.length (fun k s => s = ((k : Int), ((nearI (disto ps p) k : Nat) : Int))) (by simp [nearI]) ?_ ?_
          · rintro k _ hk rfl
            have hj := nearI_lt (disto ps p) k
            have hjl : nearI (disto ps p) k < ps.length := by omega
            unfold m_impl_NearestPoint_s1
            simp only []
            rw [bif_t (by simpa using hk), geti_lt hk, geti_lt hjl]
            simp only [bind_some']
            rw [far_eq hp (okPs_at h1.1 hk), far_eq hp (okPs_at h1.1 hjl), dist_comm p, dist_comm p]
            simp only [bind_some']
            left
            by_cases hc : dist ps[k] p < dist ps[nearI (disto ps p) k] p
            · have e1 : nearI (disto ps p) (k + 1) = k := by
                show (if disto ps p k < disto ps p (nearI (disto ps p) k) then k else nearI (disto ps p) k) = k
                rw [disto_at hk, disto_at hjl, if_pos hc]
              exact ⟨_, by rw [bif_t (by simpa using hc)]; rfl, Prod.ext (by show wr _ = _; rw [wr_in (by omega)]; omega) (by simp only [e1])⟩
            · have e1 : nearI (disto ps p) (k + 1) = nearI (disto ps p) k := by
                show (if disto ps p k < disto ps p (nearI (disto ps p) k) then k else nearI (disto ps p) k) = _
                rw [disto_at hk, disto_at hjl, if_neg hc]
              exact ⟨_, by rw [bif_f (by simpa using hc)]; rfl, Prod.ext (by show wr _ = _; rw [wr_in (by omega)]; omega) (by simp only [e1])⟩
          · rintro _ rfl
            unfold m_impl_NearestPoint_s1
            simp only []
            rw [bif_f (by simp)]
        rw [hl]
        simp [h1.1, h1.2, h2, hp]
theorem nearI_min (f : Nat → Int) : ∀ k j, j < k → f (nearI f k) ≤ f j
  | 0, j, h => by omega
  | k + 1, j, h => by
    have ih := nearI_min f k
    rw [nearI]
    by_cases e : j = k
    · subst e; split <;> omega
    · have := ih j (by omega)
      split <;> omega
/-! ### What is drawn -/
section
variable {l : List Int} (hl : ∀ p ∈ l, In8 p)
include hl in
theorem src_pick1 {k s n : Int} (h0 : 0 ≤ k) (h1 : k ≤ 1000) (h2 : 1 ≤ n) (h3 : n ≤ 200) :
    ∃ v k' s', m_spec_l00Src_pick_bspecl00Src l k s n = some (v, k', s') ∧ 0 ≤ v ∧ v < n ∧ k ≤ k' ∧ k' ≤ k + 1 := by
  by_cases e : n = 1
  · subst e
    unfold m_spec_l00Src_pick_bspecl00Src
    rw [bif_t (by rfl)]
    exact ⟨0, k, s, rfl, by omega, by omega, by omega, by omega⟩
  · obtain ⟨v, s', e1, e2, e3⟩ := src_pick (s := s) hl h0 h1 (show 2 ≤ n by omega) h3
    exact ⟨v, k + 1, s', e1, e2, e3, by omega, by omega⟩
include hl in
theorem good_eq {k s : Int} (h0 : 0 ≤ k) (h1 : k ≤ 900) : ∃ p k' s', m_spec_l01DrawGood_bspecl00Src l k s = some (p, k', s') ∧ okP p = true ∧ 0 ≤ k' ∧ k' ≤ k + 3 := by
  unfold m_spec_l01DrawGood_bspecl00Src m_spec_l00Src_one_bspecl00Src
  obtain ⟨v1, k1, s1, e1, a0, a1, a2, a3⟩ := src_pick1 hl (k := k) (s := s) (n := 8) h0 (by omega) (by omega) (by omega)
  rw [e1]; simp only [bind_some']
  have hn : ∃ n : Int, (bif v1 == 0 then some (((100 : Int), k1, s1)) else some (((10 : Int), k1, s1))) = some (n, k1, s1) ∧ 1 ≤ n ∧ n ≤ 100 := by
    cases (v1 == 0)
    · exact ⟨10, rfl, by omega, by omega⟩
    · exact ⟨100, rfl, by omega, by omega⟩
  obtain ⟨n, en, n0, n1⟩ := hn
  rw [en]; simp only [bind_some']
  obtain ⟨v2, k2, s2, e2, b0, b1, b2, b3⟩ := src_pick1 hl (k := k1) (s := s1) (n := n) (by omega) (by omega) (by omega) (by omega)
  rw [e2]; simp only [bind_some']
  obtain ⟨v3, k3, s3, e3, c0, c1, c2, c3⟩ := src_pick1 hl (k := k2) (s := s2) (n := n) (by omega) (by omega) (by omega) (by omega)
  rw [e3]; simp only [bind_some']
  refine ⟨_, _, _, rfl, ?_, by omega, by omega⟩
  unfold okP
  simp only [Bool.and_eq_true, decide_eq_true_eq]
  omega
include hl in
theorem pts_eq : ∃ ps : List Pt, m_spec_B10Points l = some ps ∧ ps.length ≤ 6 ∧ okPs ps = true := by
  unfold m_spec_B10Points m_spec_l00From
  simp only [bind_some']
  obtain ⟨v, k0, s0, e0, a0, a1, a2, a3⟩ := src_pick1 hl (k := 0) (s := 0) (n := 7) (by omega) (by omega) (by omega) (by omega)
  rw [e0]; simp only [bind_some']
  obtain ⟨n, hn⟩ := Int.eq_ofNat_of_zero_le a0
  obtain ⟨r, e, h1, h2⟩ := loopM_count (m_spec_B10Points_s1 l) n (fun j st => st.1.length = j ∧ okPs st.1 = true ∧ st.2.1 = (n : Int) - j ∧ 0 ≤ st.2.2.1 ∧ st.2.2.1 ≤ 1 + 3 * j) (fun r => r.length = n ∧ okPs r = true) (s0 := ([], v, k0, s0)) ⟨rfl, rfl, by simp only []; omega, by simp only []; omega, by simp only []; omega⟩ (by
      rintro j ⟨ps, x, k, s⟩ hj ⟨g1, g2, g3, g4, g5⟩
      simp only at g1 g2 g3 g4 g5
      subst g3
      left
      obtain ⟨p, k', s', e, q1, q2, q3⟩ := good_eq hl (k := k) (s := s) g4 (by omega)
      unfold m_spec_B10Points_s1
      simp only []
      rw [bif_t (by simp; omega), e]
      simp only [bind_some']
      rw [apC_ok (by unfold lim; simp; omega)]
      simp only [bind_some']
      refine ⟨_, rfl, by simp [g1], ?_, by simp only []; rw [wr_in (by omega)]; omega, by simp only []; omega, by simp only []; omega⟩
      unfold okPs at g2 ⊢
      rw [List.all_append, g2]
      simpa using q1) (by
      rintro ⟨ps, x, k, s⟩ ⟨g1, g2, g3, g4, g5⟩
      simp only at g1 g2 g3 g4 g5
      subst g3
      unfold m_spec_B10Points_s1
      simp only []
      rw [bif_f (by simp)]
      exact ⟨_, rfl, g1, g2⟩)
  rw [e]
  exact ⟨r, rfl, by omega, h2⟩
include hl in
theorem at_eq {i n : Int} (h0 : 0 ≤ i) (h1 : i ≤ 10) (hn : n = 10) : ∃ v, m_laws_b10At l i n = some v ∧ 0 ≤ v ∧ v < 10 := by
  subst hn
  unfold m_laws_b10At
  rw [bif_f (by rfl)]
  have hz : nzC 10 = some () := by rfl
  by_cases c : i < (l.length : Int)
  · rw [bif_t (by simpa using c)]
    obtain ⟨j, rfl⟩ := Int.eq_ofNat_of_zero_le h0
    have hj : j < l.length := by omega
    have hb := hl _ (List.getElem_mem hj)
    unfold In8 at hb
    rw [geti_lt hj, bind_some', hz, bind_some', wr_in (by omega)]
    exact ⟨_, rfl, Int.tmod_nonneg _ hb.1, by rw [Int.tmod_eq_emod_of_nonneg hb.1]; exact Int.emod_lt_of_pos _ (by omega)⟩
  · rw [bif_f (by simpa using c), hz, bind_some', wr_in (x := i * 37) (by omega), wr_in (by omega)]
    exact ⟨_, rfl, Int.tmod_nonneg _ (by omega), by rw [Int.tmod_eq_emod_of_nonneg (by omega)]; exact Int.emod_lt_of_pos _ (by omega)⟩
include hl in
theorem pin_eq : ∃ p : Pt, m_laws_b10Pin l 0 = some p ∧ okP p = true := by
  unfold m_laws_b10Pin
  obtain ⟨x, ex, x0, x1⟩ := at_eq hl (i := 0) (n := 10) (by omega) (by omega) rfl
  have hw : wr ((0 : Int) + 1) = 1 := by rfl
  obtain ⟨y, ey, y0, y1⟩ := at_eq hl (i := 1) (n := 10) (by omega) (by omega) rfl
  rw [ex, bind_some', hw, ey, bind_some']
  refine ⟨_, rfl, ?_⟩
  unfold okP
  simp only [Bool.and_eq_true, decide_eq_true_eq]
  omega
end
/-! ### The law's own functions -/
theorem bSame_eq (ps : List Pt) (hb : ps.length ≤ 1000) : m_laws_b10Same ps ps = some true := by
  unfold m_laws_b10Same
  rw [bif_f (by simp)]
  have hl := loop_any (step := m_laws_b10Same_s1 ps ps) 0 ps.length (fun _ => false) false (by omega) (by
    intro k _ hk _
    unfold m_laws_b10Same_s1
    simp only []
    rw [bif_t (by simpa using hk), geti_lt hk]
    simp only [bind_some']
    rw [bif_f (by simp), wr_in (by omega)]; rfl) (by
    unfold m_laws_b10Same_s1
    simp only []
    rw [bif_f (by simp)])
  rw [show ((0 : Nat) : Int) = 0 from rfl] at hl
  rw [hl, anyIn_f.2 (fun _ _ _ => rfl)]; rfl
theorem bIn_eq (ps : List Pt) (hb : ps.length ≤ 1000) (p : Pt) (hp : p ∈ ps) : m_laws_b10In ps p.1 p.2 = some true := by
  unfold m_laws_b10In
  have hl := loop_any (step := m_laws_b10In_s1 ps p.1 p.2) 0 ps.length (fun k => decide (ps.getD k (0, 0) = p)) true (by omega) (by
    intro k _ hk _
    unfold m_laws_b10In_s1
    simp only []
    have e : ps.getD k (0, 0) = ps[k] := by simp [List.getD, List.getElem?_eq_getElem hk]
    rw [bif_t (by simpa using hk), geti_lt hk, e]
    simp only [bind_some']
    rw [eqb]
    cases decide (ps[k] = p) with
    | true => rfl
    | false => rw [bif_f rfl, wr_in (by omega)]; rfl) (by
    unfold m_laws_b10In_s1
    simp only []
    rw [bif_f (by simp)])
  obtain ⟨k, hk, e⟩ := List.mem_iff_getElem.1 hp
  rw [show ((0 : Nat) : Int) = 0 from rfl] at hl
  rw [hl, anyIn_t.2 ⟨k, by omega, hk, by simp [List.getD, List.getElem?_eq_getElem hk, e]⟩]; rfl
theorem dOf_eq {p q : Pt} (hp : okP p = true) (hq : okP q = true) : m_impl_DistanceOf p.1 p.2 q.1 q.2 = some (dist p q, true) := by
  unfold m_impl_DistanceOf
  rw [IsPoint_eq, bind_some', show okP (p.1, p.2) = true from hp, bif_f (by rfl), IsPoint_eq, bind_some', show okP (q.1, q.2) = true from hq, bif_f (by rfl), far_eq hp hq, bind_some']
theorem bFar_eq {p q : Pt} (hp : okP p = true) (hq : okP q = true) : m_laws_b10Far p.1 p.2 q.1 q.2 = some (dist p q) := by
  have h1 := okP_t hp
  have h2 := okP_t hq
  have ha : ∀ n : Int, -1000 ≤ n → n ≤ 1000 → m_laws_b10Abs n = some (max n (-n)) := fun n g1 g2 => by
    unfold m_laws_b10Abs
    by_cases c : n < 0
    · rw [bif_t (by simpa using c), wr_in (by omega)]; congr 1; omega
    · rw [bif_f (by simpa using c)]; congr 1; omega
  unfold m_laws_b10Far dist
  rw [wr_in (x := p.1 - q.1) (by omega), wr_in (x := p.2 - q.2) (by omega), ha _ (by omega) (by omega), bind_some', ha _ (by omega) (by omega), bind_some', wr_in (by omega)]
  congr 1; omega
def bxS (s : Int × Int × Int × Int) (p : Pt) : Int × Int × Int × Int := (if p.1 < s.1 then p.1 else s.1, if p.2 < s.2.1 then p.2 else s.2.1, if p.1 > s.2.2.1 then p.1 else s.2.2.1, if p.2 > s.2.2.2 then p.2 else s.2.2.2)
theorem box_loop (ps : List Pt) (hb : ps.length ≤ 1000) (s : Int × Int × Int × Int) : loopM (m_impl_box_s1 ps) (0, s.1, s.2.1, s.2.2.1, s.2.2.2) = some (ps.foldl bxS s) := by
  refine loopM_val _ ps.length (fun k st => st = ((k : Int), (ps.take k).foldl bxS s)) rfl ?_ ?_
  · rintro k _ hk rfl
    left
    unfold m_impl_box_s1
    simp only []
    rw [bif_t (by simpa using hk), geti_lt hk]
    simp only [bind_some']
    refine ⟨_, rfl, ?_⟩
    rw [wr_in (by omega), List.take_succ_eq_append_getElem hk, List.foldl_append]
    rfl
  · rintro _ rfl
    unfold m_impl_box_s1
    simp only []
    rw [bif_f (by simp), List.take_length]
theorem box_same {p : Pt} {r : List Pt} (hp : okP p = true) : (p :: r).foldl bxS (p.1, p.2, p.1, p.2) = (p :: r).foldl bxS (99, 99, 0, 0) := by
  have h1 := okP_t hp
  simp only [List.foldl_cons]
  congr 1
  unfold bxS
  simp only [Prod.mk.injEq]
  refine ⟨?_, ?_, ?_, ?_⟩ <;> split <;> split <;> omega
theorem dist_tri (p q r : Pt) : dist p q ≤ dist q r + dist p r := by unfold dist; omega
theorem dist_small {p q : Pt} (hp : okP p = true) (hq : okP q = true) : 0 ≤ dist p q ∧ dist p q ≤ 198 := by
  have h1 := okP_t hp
  have h2 := okP_t hq
  unfold dist; omega
theorem lawPoints (l0 l1 : List Int) (r0 : ∀ p ∈ l0, In8 p) (r1 : ∀ p ∈ l1, In8 p) : m_laws_FnPoints l0 l1 = some true := by
  unfold m_laws_FnPoints m_laws_b10Long
  have hL : ∃ b, (bif decide ((((l0).length : Int)) > 1048576) then some true else some (decide ((((l1).length : Int)) > 1048576))) = some b := by
    cases decide ((((l0).length : Int)) > 1048576) <;> exact ⟨_, rfl⟩
  obtain ⟨b, hb⟩ := hL
  rw [hb, bind_some']
  cases b with
  | true => rfl
  | false =>
    rw [bif_f rfl]
    obtain ⟨ps, e1, hn, hok⟩ := pts_eq r0
    obtain ⟨p, e2, hp⟩ := pin_eq r1
    have hA : m_impl_ArePoints ps = some true := by rw [ArePoints_eq ps (by omega), hok, decide_eq_true (by omega : ps.length ≤ 24)]; rfl
    have hS : m_impl_SortPoints ps = some (setPts ps, true) := by
      unfold m_impl_SortPoints
      rw [hA, bind_some', bif_f (by rfl), sorted_eq ps (by omega), bind_some']
    have hsl : (setPts ps).length ≤ ps.length := by
      unfold setPts
      exact Nat.le_trans (cmpct_len _) (by rw [(sortPts_perm ps).length_eq]; exact Nat.le_refl _)
    rw [e1, bind_some', e2, bind_some', hS, bind_some', PointsText_eq hok (by omega) hA, bind_some', ReadPoints_eq hok (by omega) hA, bind_some']
    rw [bif_f (by rfl), bif_f (by rfl), bif_f (by rfl), hA, bind_some', bif_f (by rfl), bSame_eq ps (by omega), bind_some', bif_f (by rfl)]
    have hloop1 := loop_any (step := m_laws_FnPoints_s1 ps (setPts ps, true)) 0 (setPts ps).length (fun _ => false) false (by omega) (by
      intro k _ hk _
      have hkm : (setPts ps)[k] ∈ ps := mem_setPts.1 (List.getElem_mem hk)
      have hw : wr ((k : Int) + 1) = ((k + 1 : Nat) : Int) := by rw [wr_in (by omega)]; rfl
      unfold m_laws_FnPoints_s1
      simp only []
      rw [bif_t (by simpa using hk), geti_lt hk]
      simp only [bind_some']
      rw [bIn_eq ps (by omega) _ hkm]
      simp only [bind_some']
      rw [bif_f (by rfl)]
      by_cases hk0 : k = 0
      · subst hk0
        rw [bif_f (by rfl), hw]; rfl
      · have hk1 : k - 1 < (setPts ps).length := by omega
        have hw2 : wr ((k : Int) - 1) = ((k - 1 : Nat) : Int) := by rw [wr_in (by omega)]; omega
        have hlt : ltP (setPts ps)[k - 1] (setPts ps)[k] := List.pairwise_iff_getElem.1 (setPts_strict ps) (k - 1) k hk1 hk (by omega)
        unfold ltP at hlt
        rw [bif_t (by simp; omega), hw2, geti_lt hk1]
        simp only [bind_some']
        rw [bif_f (by simp only [decide_eq_false_iff_not]; omega)]
        by_cases hx : (setPts ps)[k - 1].1 = (setPts ps)[k].1
        · rw [bif_t (by simpa using hx), bif_f (by simp only [decide_eq_false_iff_not]; omega), hw]; rfl
        · rw [bif_f (by simpa using hx), hw]; rfl) (by
      unfold m_laws_FnPoints_s1
      simp only []
      rw [bif_f (by simp)])
    rw [show ((0 : Nat) : Int) = 0 from rfl] at hloop1
    rw [hloop1, anyIn_f.2 (fun _ _ _ => rfl)]
    simp only [bind_some', if_false, Bool.false_eq_true]
    unfold m_impl_BoxOf
    rw [hA, bind_some', bif_f (by rfl), implNear_eq ps p (by omega)]
    cases hps : ps with
    | nil =>
      have e1 : nearV ([] : List Pt) p = (0, false) := by simp [nearV, nearOk]
      have e2 : setPts ([] : List Pt) = [] := by rw [hps] at hsl; exact List.length_eq_zero_iff.1 (Nat.le_zero.1 hsl)
      rw [e1, e2]
      rfl
    | cons q r =>
      have hne : ¬ ps.length = 0 := by rw [hps]; simp
      rw [← hps]
      have hq : okP q = true := by have := okPs_at hok (k := 0) (by omega); simpa [hps] using this
      have hnv : nearV ps p = (((nearI (disto ps p) ps.length : Nat) : Int), true) := by
        unfold nearV
        have : nearOk ps p = true := by
          unfold nearOk
          rw [hok, hp, decide_eq_true (by omega : ps.length ≤ 24), decide_eq_true hne]; rfl
        rw [if_pos this]
      rw [hnv]
      have hj := nearI_lt (disto ps p) ps.length
      have hmin := nearI_min (disto ps p) ps.length
      generalize hJ : nearI (disto ps p) ps.length = J at hj hmin
      have hJl : J < ps.length := by omega
      have hbox : m_impl_box ps = some (((ps.foldl bxS (99, 99, 0, 0)).1, (ps.foldl bxS (99, 99, 0, 0)).2.1), ((ps.foldl bxS (99, 99, 0, 0)).2.2.1, (ps.foldl bxS (99, 99, 0, 0)).2.2.2)) := by
        unfold m_impl_box
        have hg : geti ps 0 = some q := by rw [hps]; rfl
        rw [hg]
        simp only [bind_some']
        have := box_loop ps (by omega) (q.1, q.2, q.1, q.2)
        simp only at this
        rw [this]
        simp only [bind_some']
        have e : ps.foldl bxS (q.1, q.2, q.1, q.2) = ps.foldl bxS (99, 99, 0, 0) := by rw [hps]; exact box_same hq
        rw [e]
      have hne2 : (((ps.length : Nat) : Int) == 0) = false := by rw [beq_eq_false_iff_ne]; omega
      rw [hne2, bif_f rfl, hbox]
      simp only [bind_some']
      have hgt : decide (((ps.length : Nat) : Int) > 0) = true := decide_eq_true (by omega)
      rw [hgt, bif_f (by rfl), bif_f (by rfl), bif_f (by rfl), bif_f (by simp), bif_f (by simp; omega)]
      have hloop2 : loopM (m_laws_FnPoints_s2 ps p (setPts ps, true) (((J : Nat) : Int), true)) (0, 99, 99, 0, 0) = some (Sum.inl (ps.foldl bxS (99, 99, 0, 0))) := by
        refine loopM_val _ ps.length (fun k st => st = ((k : Int), (ps.take k).foldl bxS (99, 99, 0, 0))) rfl ?_ ?_
        · rintro k _ hk rfl
          left
          have hkp := okPs_at hok hk
          have hJp := okPs_at hok hJl
          have hd := hmin k hk
          rw [disto_at hJl, disto_at hk, dist_comm _ p, dist_comm _ p] at hd
          have d1 := dist_small hkp hJp
          have d2 := dist_small hp hJp
          have ht := dist_tri p ps[k] ps[J]
          unfold m_laws_FnPoints_s2
          simp only []
          rw [bif_t (by simpa using hk), geti_lt hk, geti_lt hJl]
          simp only [bind_some']
          rw [dOf_eq hp hkp, bind_some', dOf_eq hkp hp, bind_some', dOf_eq hkp hJp, bind_some', dOf_eq hp hJp, bind_some']
          rw [bif_f (by rfl), bif_f (by rfl), bif_f (by rfl), bif_f (by rfl), bif_f (by simp [dist_comm p]), bFar_eq hp hkp, bind_some', bif_f (by simp), bif_f (by simp only [decide_eq_false_iff_not]; omega), wr_in (by omega), bif_f (by simp only [decide_eq_false_iff_not]; omega), bIn_eq _ (by omega) _ (mem_setPts.2 (List.getElem_mem hk)), bind_some', bif_f (by rfl)]
          refine ⟨_, rfl, ?_⟩
          rw [wr_in (by omega), List.take_succ_eq_append_getElem hk, List.foldl_append]
          rfl
        · rintro _ rfl
          unfold m_laws_FnPoints_s2
          simp only []
          rw [bif_f (by simp), List.take_length]
      rw [hloop2]
      simp
end Go.Proofs.YtpfipmomchgdaaaGreatDoor
