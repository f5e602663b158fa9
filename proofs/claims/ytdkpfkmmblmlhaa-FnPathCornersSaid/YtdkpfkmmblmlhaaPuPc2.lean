/- FnPathCorners in plain numbers. -/
import Derived.Test.YtdkpfkmmblmlhaaPuPc
import Derived.Test.YtdkpfkmmblmlhaaPuSrcP
set_option linter.unusedSimpArgs false
set_option linter.unusedVariables false
namespace Go.Proofs.Ytdkpfkmmblmlhaa
open Go.RowKit

theorem path_mk {ps : List Pt} (h1 : 1 ≤ ps.length) (h2 : ps.length ≤ 576) (ho : okPs ps = true) (hn : ps.Nodup) (hs : ∀ k, 1 ≤ k → k < ps.length → dist (gP ps (k - 1)) (gP ps k) = 1) : pathB ps = true := by
  unfold pathB
  simp only [Bool.and_eq_true, decide_eq_true_eq, Bool.not_eq_true']
  exact ⟨⟨⟨h1, h2⟩, ho, hn⟩, anyIn_f.2 fun k hk1 hk2 => by unfold stepBad; simp [hs k hk1 hk2]⟩
structure PaI (ps : List Pt) : Prop where
  pos : 1 ≤ ps.length
  ok : okPs ps = true
  nod : ps.Nodup
  stp : ∀ k, 1 ≤ k → k < ps.length → dist (gP ps (k - 1)) (gP ps k) = 1
theorem gP_app {ps : List Pt} {x : Pt} {k : Nat} (h : k < ps.length) : gP (ps ++ [x]) k = gP ps k := by unfold gP; simp [List.getD, List.getElem?_append_left h]
theorem gP_end {ps : List Pt} {x : Pt} : gP (ps ++ [x]) ps.length = x := by unfold gP; simp [List.getD]
theorem PaI.snoc {ps : List Pt} (h : PaI ps) {x : Pt} (hx : okP x = true) (hn : x ∉ ps) (hd : dist (gP ps (ps.length - 1)) x = 1) : PaI (ps ++ [x]) := by
  obtain ⟨h1, h2, h3, h4⟩ := h
  refine ⟨by simp, ?_, ?_, fun k hk1 hk2 => ?_⟩
  · unfold okPs at h2 ⊢
    rw [List.all_append, h2]; simp [hx]
  · refine List.nodup_append.2 ⟨h3, by simp, fun a ha b hb e => ?_⟩
    simp only [List.mem_singleton] at hb
    rw [e, hb] at ha; exact hn ha
  · simp only [List.length_append, List.length_singleton] at hk2
    by_cases e : k = ps.length
    · subst e
      rw [gP_end, gP_app (by omega)]; exact hd
    · rw [gP_app (by omega), gP_app (by omega)]; exact h4 k hk1 (by omega)
theorem src_one {l : List Int} (hl : ∀ p ∈ l, In8 p) {k s n : Int} (h0 : 0 ≤ k) (h1 : k ≤ 1000) (h2 : 1 ≤ n) (h3 : n ≤ 200) :
    ∃ b k' s', m_spec_l00Src_one_bspecl00Src l k s n = some (b, k', s') ∧ k ≤ k' ∧ k' ≤ k + 1 := by
  unfold m_spec_l00Src_one_bspecl00Src
  obtain ⟨v, k', s', e1, e2, e3, e4, e5⟩ := src_pick1 (s := s) hl h0 h1 h2 h3
  rw [e1]
  exact ⟨_, _, _, rfl, e4, e5⟩
theorem good_drawn {l : List Int} (hl : ∀ p ∈ l, In8 p) : ∃ p k s, m_spec_l01DrawGood_bspecl00Src l 0 0 = some (p, k, s) ∧ okP p = true ∧ 0 ≤ k ∧ k ≤ 10 := by
  unfold m_spec_l01DrawGood_bspecl00Src
  obtain ⟨b, k1, s1, e1, e2, e3⟩ := src_one (s := 0) (k := 0) (n := 8) hl (by omega) (by omega) (by omega) (by omega)
  rw [e1]
  simp only [bind_some']
  have fin : ∀ m : Int, 1 ≤ m → m ≤ 100 → ∃ p k s, (Option.bind (m_spec_l00Src_pick_bspecl00Src l k1 s1 m) fun y31 => Option.bind (m_spec_l00Src_pick_bspecl00Src l y31.2.1 y31.2.2 m) fun y46 => some ((y31.1, y46.1), y46.2.1, y46.2.2)) = some (p, k, s) ∧ okP p = true ∧ 0 ≤ k ∧ k ≤ 10 := fun m m1 m2 => by
    obtain ⟨v, k2, s2, f1, f2, f3, f4, f5⟩ := src_pick1 (s := s1) (k := k1) (n := m) hl (by omega) (by omega) m1 (by omega)
    rw [f1]
    simp only [bind_some']
    obtain ⟨u, k3, s3, g1, g2, g3, g4, g5⟩ := src_pick1 (s := s2) (k := k2) (n := m) hl (by omega) (by omega) m1 (by omega)
    rw [g1]
    refine ⟨_, _, _, rfl, ?_, by simp only []; omega, by simp only []; omega⟩
    unfold okP
    simp only [Bool.and_eq_true, decide_eq_true_eq]
    omega
  cases b with
  | true => rw [bif_t (by rfl)]; simp only [bind_some']; exact fin 100 (by omega) (by omega)
  | false => rw [bif_f (by rfl)]; simp only [bind_some']; exact fin 10 (by omega) (by omega)
theorem way_drawn {l : List Int} (hl : ∀ p ∈ l, In8 p) {w k s : Int} (h0 : 0 ≤ k) (h1 : k ≤ 900) (w0 : 0 ≤ w) (w1 : w < 4) :
    ∃ w' k' s', (Option.bind (m_spec_l00Src_one_bspecl00Src l k s 3) fun y1007 => (bif y1007.1 then Option.bind (m_spec_l00Src_pick_bspecl00Src l y1007.2.1 y1007.2.2 4) fun y1013 => some ((y1013.1, y1013.2.1, y1013.2.2)) else some ((w, y1007.2.1, y1007.2.2)))) = some (w', k', s') ∧ 0 ≤ w' ∧ w' < 4 ∧ k ≤ k' ∧ k' ≤ k + 2 := by
  obtain ⟨b, k1, s1, e1, e2, e3⟩ := src_one (s := s) (k := k) (n := 3) hl (by omega) (by omega) (by omega) (by omega)
  rw [e1]
  simp only [bind_some']
  cases b with
  | false => rw [bif_f (by rfl)]; exact ⟨_, _, _, rfl, w0, w1, by omega, by omega⟩
  | true =>
    rw [bif_t (by rfl)]
    obtain ⟨v, k2, s2, f1, f2, f3, f4, f5⟩ := src_pick1 (s := s1) (k := k1) (n := 4) hl (by omega) (by omega) (by omega) (by omega)
    rw [f1]
    exact ⟨_, _, _, rfl, f2, f3, by simp only []; omega, by simp only []; omega⟩
theorem way_step {w : Int} (w0 : 0 ≤ w) (w1 : w < 4) : ∃ dx dy : Int, geti ([1, 0, (-1), 0] : List Int) w = some dx ∧ geti ([0, 1, 0, (-1)] : List Int) w = some dy ∧ ((dx = 0 ∧ (dy = 1 ∨ dy = -1)) ∨ (dy = 0 ∧ (dx = 1 ∨ dx = -1))) := by
  have : w = 0 ∨ w = 1 ∨ w = 2 ∨ w = 3 := by omega
  rcases this with rfl | rfl | rfl | rfl
  · exact ⟨1, 0, rfl, rfl, by omega⟩
  · exact ⟨0, 1, rfl, rfl, by omega⟩
  · exact ⟨-1, 0, rfl, rfl, by omega⟩
  · exact ⟨0, -1, rfl, rfl, by omega⟩
theorem path_drawn {l : List Int} (hl : ∀ p ∈ l, In8 p) : ∃ ps, m_spec_B10Path l = some ps ∧ pathB ps = true ∧ ps.length ≤ 20 := by
  unfold m_spec_B10Path m_spec_l00From
  simp only [bind_some']
  obtain ⟨p, k0, s0, e1, e2, e3, e4⟩ := good_drawn hl
  rw [e1]
  simp only [bind_some']
  obtain ⟨w, k1, s1, f1, f2, f3, f4, f5⟩ := src_pick1 (s := s0) (k := k0) (n := 4) hl (by omega) (by omega) (by omega) (by omega)
  rw [f1]
  simp only [bind_some']
  obtain ⟨n, k2, s2, g1, g2, g3, g4, g5⟩ := src_pick1 (s := s1) (k := k1) (n := 14) hl (by omega) (by omega) (by omega) (by omega)
  rw [g1]
  simp only [bind_some']
  have hp0 : PaI [(p.1, p.2)] := ⟨by simp, by unfold okPs; simpa using e2, by simp, fun k h1 h2 => by simp at h2; omega⟩
  obtain ⟨r, r1, r2, r3⟩ := loopM_count (m_spec_B10Path_s1 l) n.toNat (fun j s => PaI s.1 ∧ s.1.length ≤ 1 + j ∧ 0 ≤ s.2.1 ∧ s.2.1 < 4 ∧ s.2.2.1 = n - j ∧ 0 ≤ s.2.2.2.1 ∧ s.2.2.2.1 ≤ 20 + 2 * j) (fun r => PaI r ∧ r.length ≤ 20)
    (s0 := ([(p.1, p.2)], w, n, k2, s2)) ⟨hp0, by simp, f2, f3, by simp, by simp only []; omega, by simp only []; omega⟩
    (by
      rintro j ⟨out, w, x, k, s⟩ hj ⟨a1, a2, a3, a4, a5, a6, a7⟩
      simp only at a1 a2 a3 a4 a5 a6 a7
      subst a5
      have hpos := a1.pos
      unfold m_spec_B10Path_s1
      simp only []
      rw [bif_t (by simp; omega)]
      obtain ⟨w', k', s', b1, b2, b3, b4, b5⟩ := way_drawn (s := s) hl (k := k) (w := w) a6 (by omega) a3 a4
      rw [b1]
      simp only [bind_some']
      obtain ⟨dx, dy, c1, c2, c3⟩ := way_step b2 b3
      have hlast : geti out (wr ((out.length : Int) - 1)) = some (gP out (out.length - 1)) := by rw [wr_in (by omega), show (out.length : Int) - 1 = ((out.length - 1 : Nat) : Int) by omega]; exact geti_gP' (by omega)
      rw [hlast, c1, c2]
      simp only [bind_some']
      have hob := okP_t (gP_ok' a1.ok (k := out.length - 1) (by omega))
      rw [wr_in (x := (gP out (out.length - 1)).1 + dx) (by omega), wr_in (x := (gP out (out.length - 1)).2 + dy) (by omega), l01Point_eq]
      simp only [bind_some']
      have hw : wr (n - (j : Int) - 1) = n - ((j + 1 : Nat) : Int) := by rw [wr_in (by omega)]; omega
      left
      cases hx : okP ((gP out (out.length - 1)).1 + dx, (gP out (out.length - 1)).2 + dy) with
      | false =>
        rw [bif_f (by rfl)]
        simp only [bind_some']
        exact ⟨_, rfl, a1, by simp only []; omega, b2, b3, by simp only []; exact hw, by simp only []; omega, by simp only []; omega⟩
      | true =>
        rw [bif_t (by rfl)]
        obtain ⟨i, hi, hd⟩ := Index_eq out ((gP out (out.length - 1)).1 + dx, (gP out (out.length - 1)).2 + dy) (by omega)
        simp only [] at hi
        rw [hi]
        simp only [bind_some']
        by_cases cm : ((gP out (out.length - 1)).1 + dx, (gP out (out.length - 1)).2 + dy) ∈ out
        · have h0 : ¬ i < 0 := by have : decide (i ≥ 0) = true := by rw [hd]; simpa using cm
                                  simp at this; omega
          rw [bif_f (by simpa using h0)]
          simp only [bind_some']
          exact ⟨_, rfl, a1, by simp only []; omega, b2, b3, by simp only []; exact hw, by simp only []; omega, by simp only []; omega⟩
        · have h0 : i < 0 := by have : decide (i ≥ 0) = false := by rw [hd]; simpa using cm
                                simp at this; omega
          rw [bif_t (by simpa using h0), apC_ok (by unfold lim; simp; omega)]
          simp only [bind_some']
          refine ⟨_, rfl, a1.snoc hx cm ?_, by simp only [List.length_append, List.length_singleton]; omega, b2, b3, by simp only []; exact hw, by simp only []; omega, by simp only []; omega⟩
          unfold dist
          simp only []
          omega)
    (by
      rintro ⟨out, w, x, k, s⟩ ⟨a1, a2, a3, a4, a5, a6, a7⟩
      simp only at a1 a2 a3 a4 a5 a6 a7
      subst a5
      unfold m_spec_B10Path_s1
      simp only []
      rw [bif_f (by simp; omega)]
      exact ⟨_, rfl, a1, by omega⟩)
  rw [r1]
  exact ⟨r, rfl, path_mk r2.pos (by omega) r2.ok r2.nod r2.stp, r3⟩
theorem b10Abs_eq {x : Int} (h : -1000 ≤ x ∧ x ≤ 1000) : m_laws_b10Abs x = some (max x (-x)) := by
  unfold m_laws_b10Abs
  by_cases c : x < 0
  · rw [bif_t (by simpa using c), wr_in (by omega)]; congr 1; omega
  · rw [bif_f (by simpa using c)]; congr 1; omega
theorem b10Far_eq {p q : Pt} (hp : okP p = true) (hq : okP q = true) : m_laws_b10Far p.1 p.2 q.1 q.2 = some (dist p q) := by
  have h1 := okP_t hp
  have h2 := okP_t hq
  unfold m_laws_b10Far dist
  rw [wr_in (x := p.1 - q.1) (by omega), wr_in (x := p.2 - q.2) (by omega), b10Abs_eq (by omega), b10Abs_eq (by omega)]
  simp only [bind_some']
  rw [wr_in (by omega)]
  congr 1; omega
theorem b10Same_eq (l : List Pt) (hb : l.length ≤ 140737488) : m_laws_b10Same l l = some true := by
  unfold m_laws_b10Same
  rw [bif_f (by simp)]
  have : loopM (m_laws_b10Same_s1 l l) 0 = some (Sum.inl ()) := by
    refine loopM_val _ l.length (fun k s => s = (k : Int)) rfl ?_ ?_
    · rintro k _ hk rfl
      left
      unfold m_laws_b10Same_s1
      simp only []
      rw [bif_t (by simpa using hk), geti_lt hk]
      simp only [bind_some']
      rw [bif_f (by simp), wr_in (by omega)]
      exact ⟨_, rfl, rfl⟩
    · rintro _ rfl
      unfold m_laws_b10Same_s1
      simp only []
      rw [bif_f (by simp)]
  rw [this]; rfl
theorem sum_eq {ps : List Pt} (h : pathB ps = true) (b : Bool) : loopM (m_laws_FnPathCorners_s1 (cornF ps ps.length, b)) (0, 1) = some ((ps.length : Int) - 1) := by
  have hpl := pathB_len h
  obtain ⟨h0, hz⟩ := ixF_first hpl.1
  have hl : (cornF ps ps.length).length = (ixF ps).length := by rw [corn_ix]; simp
  have hcl := cornF_len ps ps.length
  have hT := (thru_corn h).2.2.1
  have hlt : ∀ j (hj : j < (ixF ps).length), (ixF ps)[j] < ps.length := fun j hj => (ixF_mem.1 (List.getElem_mem hj)).1
  refine loopM_val _ ((ixF ps).length - 1) (fun j s => s.2 = ((j + 1 : Nat) : Int) ∧ s.1 = (((ixF ps).getD j 0 : Nat) : Int)) ⟨rfl, by simp [List.getD, List.getElem?_eq_getElem h0, hz]⟩ ?_ ?_
  · rintro j ⟨s, x⟩ hj ⟨hx, hs⟩
    simp only at hx hs
    subst hx; subst hs
    left
    have hj1 : j + 1 < (ixF ps).length := by omega
    obtain ⟨g1, g2, g3⟩ := ixF_gap hj1
    obtain ⟨_, hd⟩ := seg_dist h g1 g2 g3
    have gprev : geti (cornF ps ps.length) (wr (((j + 1 : Nat) : Int) - 1)) = some (gP (cornF ps ps.length) j) := by rw [wr_in (by omega), show ((j + 1 : Nat) : Int) - 1 = (j : Int) by omega]; exact geti_gP' (by omega)
    have e1 : (ixF ps).getD j 0 = (ixF ps)[j] := by simp [List.getD, List.getElem?_eq_getElem (show j < (ixF ps).length by omega)]
    have e2 : (ixF ps).getD (j + 1) 0 = (ixF ps)[j + 1] := by simp [List.getD, List.getElem?_eq_getElem hj1]
    unfold m_laws_FnPathCorners_s1
    simp only []
    rw [bif_t (by simp; omega), gprev, geti_gP' (ps := cornF ps ps.length) (k := j + 1) (by omega)]
    simp only [bind_some']
    rw [b10Far_eq (gP_ok' hT (by omega)) (gP_ok' hT (by omega))]
    simp only [bind_some']
    rw [gC (j := j) (by omega), gC (j := j + 1) hj1, hd, e1, wr_in (x := (((ixF ps)[j] : Nat) : Int) + _) (by omega)]
    refine ⟨_, rfl, by simp only []; rw [wr_in (by omega)]; rfl, ?_⟩
    simp only []
    rw [e2]
    omega
  · rintro ⟨s, x⟩ ⟨hx, hs⟩
    simp only at hx hs
    subst hx; subst hs
    unfold m_laws_FnPathCorners_s1
    simp only []
    rw [bif_f (by simp; omega)]
    have e1 : (ixF ps).getD ((ixF ps).length - 1) 0 = (ixF ps)[(ixF ps).length - 1] := by simp [List.getD, List.getElem?_eq_getElem (show (ixF ps).length - 1 < (ixF ps).length by omega)]
    rw [e1, ixF_last hpl.1 (by omega)]
    congr 2; omega
theorem lawPathCorners (l0 l1 : List Int) (h0 : ∀ p ∈ l0, In8 p) (h1 : ∀ p ∈ l1, In8 p) : m_laws_FnPathCorners l0 l1 = some true := by
  have hlong : ∃ b, m_laws_b10Long l0 l1 = some b := by
    unfold m_laws_b10Long
    cases decide ((l0.length : Int) > 1048576)
    · exact ⟨_, rfl⟩
    · exact ⟨_, rfl⟩
  obtain ⟨b, hb⟩ := hlong
  unfold m_laws_FnPathCorners
  rw [hb]
  simp only [bind_some']
  cases b
  case true => rfl
  obtain ⟨ps, e1, hp, hn⟩ := path_drawn h0
  have hpl := pathB_len hp
  have hcl := cornF_len ps ps.length
  have c1 : m_impl_CornersOf ps = some (cornF ps ps.length, true) := by
    unfold m_impl_CornersOf
    rw [implPath_eq ps (by omega), bind_some', hp, implCorners_eq ps (by omega)]; rfl
  have c2 : m_impl_PathThrough (cornF ps ps.length) = some (ps, true) := by
    rw [implPathThrough_eq (by omega)]
    unfold thruV
    rw [if_pos (thru_corn hp), fullV_corn hp]
  have c3 : m_impl_LengthOf ps = some ((ps.length : Int) - 1, true) := by
    unfold m_impl_LengthOf
    rw [implPath_eq ps (by omega), bind_some', hp, bif_f (by rfl), wr_in (by omega)]
  have c4 : m_impl_BendsOf ps = some (if 0 > ((cornF ps ps.length).length : Int) - 2 then 0 else ((cornF ps ps.length).length : Int) - 2, true) := by
    unfold m_impl_BendsOf
    rw [implPath_eq ps (by omega), bind_some', hp, implCorners_eq ps (by omega), bif_f (by rfl)]
    simp only [bind_some']
    rw [wr_in (by omega)]
  have c5 : m_impl_IsPath ps = some true := by rw [implPath_eq ps (by omega), hp]
  rw [bif_f (by rfl), e1]
  simp only [bind_some']
  rw [c1]
  simp only [bind_some']
  rw [c2, c3, c4, c5]
  simp only [bind_some']
  rw [bif_f (by rfl), bif_f (by rfl), bif_f (by rfl), bif_f (by rfl), bif_f (by rfl), b10Same_eq ps (by omega)]
  simp only [bind_some']
  rw [bif_f (by rfl), wr_in (x := (ps.length : Int) - 1) (by omega), bif_f (by simp), sum_eq hp true]
  simp only [bind_some']
  rw [bif_f (by simp)]
  by_cases hs : ps.length = 1
  · have hc1 : (cornF ps ps.length).length = 1 := by
      obtain ⟨h0', _⟩ := ixF_first hpl.1
      have : (cornF ps ps.length).length = (ixF ps).length := by rw [corn_ix]; simp
      omega
    rw [bif_t (by simp [hs]), hc1]
    rfl
  · have hc2 := corn_count ps (by omega)
    rw [bif_f (by simpa using fun h => hs (by omega)), wr_in (by omega), if_neg (by omega)]
    simp
end Go.Proofs.Ytdkpfkmmblmlhaa
