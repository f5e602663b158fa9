/- The wiring of paths: the reference and the program. -/
import Derived.Test.YtgaecldkiijmpaaPuWirX
set_option linter.unusedSimpArgs false
set_option linter.unusedVariables false
namespace Go.Proofs.Ytgaecldkiijmpaa
open Go.RowKit

theorem gR_mem {c : List (List Int)} {k : Nat} (h : k < c.length) : gR c k ∈ c := by rw [gR_at h]; exact List.getElem_mem h
theorem geti_gR {c : List (List Int)} {k : Nat} (h : k < c.length) : geti c (k : Int) = some (gR c k) := by rw [geti_lt h, gR_at h]
/-! ### The rows of segments -/
structure SgI (pp : List (List Pt)) (m : Nat) (l : List (List Int)) : Prop where
  row : ∀ i, i < l.length → ∃ a x : Nat, gR l i = [(a : Int), (x : Int) - 1, (x : Int)] ∧ a < m ∧ 1 ≤ x ∧ x < cLen pp a
  dif : ∀ i k, i ≤ k → k < l.length → gI (gR l i) 0 = gI (gR l k) 0 → gI (gR l k) 2 - gI (gR l i) 2 = (k : Int) - i
theorem gR_app1 {l m : List (List Int)} {i : Nat} (h : i < l.length) : gR (l ++ m) i = gR l i := by unfold gR; simp [List.getD_eq_getElem?_getD, List.getElem?_append_left h]
theorem gR_app2 {l m : List (List Int)} {i : Nat} (h : l.length ≤ i) : gR (l ++ m) i = gR m (i - l.length) := by unfold gR; simp [List.getD_eq_getElem?_getD, List.getElem?_append_right h]
theorem segIn_at (i n : Nat) : ∀ k x, x < k → gR (segIn i n k) x = segRow i (x + 1)
  | 0, x, h => by omega
  | k + 1, x, h => by
    unfold segIn
    by_cases e : x < k
    · rw [gR_app1 (by rw [segIn_len]; exact e)]; exact segIn_at i n k x e
    · have : x = k := by omega
      subst this
      rw [gR_app2 (by rw [segIn_len]; exact Nat.le_refl _), segIn_len, Nat.sub_self]; rfl
theorem seg_inv (pp : List (List Pt)) : ∀ m, SgI pp m (segF pp m)
  | 0 => ⟨fun i h => by simp [segF] at h, fun i k _ h => by simp [segF] at h⟩
  | m + 1 => by
    have ih := seg_inv pp m
    have hL : (segF pp (m + 1)).length = (segF pp m).length + (cLen pp m - 1) := by rw [segF, List.length_append, segIn_len]
    have lo : ∀ i, i < (segF pp m).length → gR (segF pp (m + 1)) i = gR (segF pp m) i := fun i h => by rw [segF, gR_app1 h]
    have hi : ∀ i, (segF pp m).length ≤ i → i < (segF pp (m + 1)).length → gR (segF pp (m + 1)) i = segRow m (i - (segF pp m).length + 1) := fun i h1 h2 => by
      rw [segF, gR_app2 h1, segIn_at _ _ _ _ (by omega)]
    refine ⟨fun i h => ?_, fun i k hik hk he => ?_⟩
    · by_cases e : i < (segF pp m).length
      · obtain ⟨a, x, h1, h2, h3⟩ := ih.row i e
        exact ⟨a, x, by rw [lo i e]; exact h1, by omega, h3⟩
      · refine ⟨m, i - (segF pp m).length + 1, by rw [hi i (by omega) h]; rfl, by omega, by omega, by omega⟩
    · by_cases e : k < (segF pp m).length
      · rw [lo i (by omega), lo k e] at he ⊢
        exact ih.dif i k hik e he
      · by_cases e2 : i < (segF pp m).length
        · obtain ⟨a, x, h1, h2, h3⟩ := ih.row i e2
          rw [lo i e2, hi k (by omega) hk, h1] at he
          have : (a : Int) = (m : Int) := he
          omega
        · rw [hi i (by omega) (by omega), hi k (by omega) hk]
          show ((k - (segF pp m).length + 1 : Nat) : Int) - ((i - (segF pp m).length + 1 : Nat) : Int) = _
          omega
/-! ### Do two pieces touch? -/
def shB (a b c d : Pt) : Bool := decide (max (min a.1 b.1) (min c.1 d.1) ≤ min (max a.1 b.1) (max c.1 d.1)) && decide (max (min a.2 b.2) (min c.2 d.2) ≤ min (max a.2 b.2) (max c.2 d.2))
theorem mn_eq (a b : Int) : m_spec_l00Min a b = some (min a b) := by
  unfold m_spec_l00Min
  by_cases e : a < b
  · rw [bif_t (by simpa using e)]; congr 1; omega
  · rw [bif_f (by simpa using e)]; congr 1; omega
theorem mx_eq (a b : Int) : m_spec_l00Max a b = some (max a b) := by
  unfold m_spec_l00Max
  by_cases e : a > b
  · rw [bif_t (by simpa using e)]; congr 1; omega
  · rw [bif_f (by simpa using e)]; congr 1; omega
theorem share_eq (a b c d : Pt) : m_spec_l07Share a.1 a.2 b.1 b.2 c.1 c.2 d.1 d.2 = some (shB a b c d) := by
  unfold m_spec_l07Share
  simp only [mn_eq, mx_eq, bind_some']
  unfold shB
  cases decide (max (min a.1 b.1) (min c.1 d.1) ≤ min (max a.1 b.1) (max c.1 d.1)) <;> rfl
theorem box2 (a b : Pt) : boxF [a, b] 2 = (if b.1 < (if a.1 < a.1 then a.1 else a.1) then b.1 else (if a.1 < a.1 then a.1 else a.1), if b.2 < (if a.2 < a.2 then a.2 else a.2) then b.2 else (if a.2 < a.2 then a.2 else a.2),
    if b.1 > (if a.1 > a.1 then a.1 else a.1) then b.1 else (if a.1 > a.1 then a.1 else a.1), if b.2 > (if a.2 > a.2 then a.2 else a.2) then b.2 else (if a.2 > a.2 then a.2 else a.2)) := rfl
theorem box2' (a b : Pt) : m_impl_box [a, b] = some ((min a.1 b.1, min a.2 b.2), (max a.1 b.1, max a.2 b.2)) := by
  rw [implBox_eq (by simp) (by simp)]
  have h := box2 a b
  have e1 : (if b.1 < (if a.1 < a.1 then a.1 else a.1) then b.1 else (if a.1 < a.1 then a.1 else a.1)) = min a.1 b.1 := by (repeat' split) <;> omega
  have e2 : (if b.2 < (if a.2 < a.2 then a.2 else a.2) then b.2 else (if a.2 < a.2 then a.2 else a.2)) = min a.2 b.2 := by (repeat' split) <;> omega
  have e3 : (if b.1 > (if a.1 > a.1 then a.1 else a.1) then b.1 else (if a.1 > a.1 then a.1 else a.1)) = max a.1 b.1 := by (repeat' split) <;> omega
  have e4 : (if b.2 > (if a.2 > a.2 then a.2 else a.2) then b.2 else (if a.2 > a.2 then a.2 else a.2)) = max a.2 b.2 := by (repeat' split) <;> omega
  rw [e1, e2, e3, e4] at h
  show some (((boxF [a, b] 2).1, (boxF [a, b] 2).2.1), ((boxF [a, b] 2).2.2.1, (boxF [a, b] 2).2.2.2)) = _
  rw [h]
theorem touch_eq (a b c d : Pt) : m_impl_touch [a, b] [c, d] = some (shB a b c d) := by
  unfold m_impl_touch
  rw [box2', box2']
  simp only [bind_some']
  unfold shB
  by_cases h1 : min a.1 b.1 ≤ max c.1 d.1
  · rw [bif_t (by simpa using h1)]
    by_cases h2 : min c.1 d.1 ≤ max a.1 b.1
    · rw [bif_t (by simpa using h2), decide_eq_true (show max (min a.1 b.1) (min c.1 d.1) ≤ min (max a.1 b.1) (max c.1 d.1) by omega), Bool.true_and]
      by_cases h3 : min a.2 b.2 ≤ max c.2 d.2
      · rw [bif_t (by simpa using h3)]
        congr 1
        by_cases h4 : min c.2 d.2 ≤ max a.2 b.2
        · rw [decide_eq_true h4, decide_eq_true (by omega)]
        · rw [decide_eq_false h4, decide_eq_false (by omega)]
      · rw [bif_f (by simpa using h3), decide_eq_false (show ¬ max (min a.2 b.2) (min c.2 d.2) ≤ min (max a.2 b.2) (max c.2 d.2) by omega)]
    · rw [bif_f (by simpa using h2), decide_eq_false (show ¬ max (min a.1 b.1) (min c.1 d.1) ≤ min (max a.1 b.1) (max c.1 d.1) by omega)]; rfl
  · rw [bif_f (by simpa using h1), decide_eq_false (show ¬ max (min a.1 b.1) (min c.1 d.1) ≤ min (max a.1 b.1) (max c.1 d.1) by omega)]; rfl
/-! ### All pairs -/
def cnr (pp : List (List Pt)) (a : Nat) : List Pt := cornF (pp.getD a []) (pp.getD a []).length
def tch (pp : List (List Pt)) (s t : List Int) : Bool :=
  shB (gP (cnr pp (gI s 0).toNat) (gI s 1).toNat) (gP (cnr pp (gI s 0).toNat) (gI s 2).toNat) (gP (cnr pp (gI t 0).toNat) (gI t 1).toNat) (gP (cnr pp (gI t 0).toNat) (gI t 2).toNat)
def cond1 (pp : List (List Pt)) (s t : List Int) : Bool := gI s 0 != gI t 0 && tch pp s t
def cond2 (s t : List Int) : Bool := gI s 0 == gI t 0 && gI s 2 == gI t 1
def inW (pp : List (List Pt)) (l : List (List Int)) (i : Nat) (s : List (List Int) × List (List Int)) : Nat → List (List Int) × List (List Int)
  | 0 => s
  | k + 1 => ((inW pp l i s k).1 ++ (if cond1 pp (gR l i) (gR l (i + 1 + k)) then [[(i : Int), ((i + 1 + k : Nat) : Int)]] else []),
      (inW pp l i s k).2 ++ (if cond2 (gR l i) (gR l (i + 1 + k)) then [[(i : Int), ((i + 1 + k : Nat) : Int), 1]] else []))
def outW (pp : List (List Pt)) (l : List (List Int)) : Nat → List (List Int) × List (List Int)
  | 0 => ([], [])
  | i + 1 => inW pp l i (outW pp l i) (l.length - (i + 1))
theorem inW_len (pp : List (List Pt)) (l : List (List Int)) (i : Nat) (s : List (List Int) × List (List Int)) : ∀ k, (inW pp l i s k).1.length ≤ s.1.length + k ∧ (inW pp l i s k).2.length ≤ s.2.length + k
  | 0 => ⟨Nat.le_refl _, Nat.le_refl _⟩
  | k + 1 => by
    have h := inW_len pp l i s k
    unfold inW
    simp only [List.length_append]
    constructor <;> split <;> simp <;> omega
theorem outW_len (pp : List (List Pt)) {l : List (List Int)} (hl : l.length ≤ 3456) : ∀ i, (outW pp l i).1.length ≤ 3456 * i ∧ (outW pp l i).2.length ≤ 3456 * i
  | 0 => by simp [outW]
  | i + 1 => by
    have h := outW_len pp hl i
    have h2 := inW_len pp l i (outW pp l i) (l.length - (i + 1))
    show (inW pp l i (outW pp l i) _).1.length ≤ _ ∧ (inW pp l i (outW pp l i) _).2.length ≤ _
    omega
theorem inW_rows (pp : List (List Pt)) (l : List (List Int)) (i : Nat) {s : List (List Int) × List (List Int)} (h : (∀ r ∈ s.1, r.length ≤ 3) ∧ ∀ r ∈ s.2, r.length ≤ 3) : ∀ k, (∀ r ∈ (inW pp l i s k).1, r.length ≤ 3) ∧ ∀ r ∈ (inW pp l i s k).2, r.length ≤ 3
  | 0 => h
  | k + 1 => by
    have ih := inW_rows pp l i h k
    unfold inW
    refine ⟨fun r hr => ?_, fun r hr => ?_⟩
    · rw [List.mem_append] at hr
      rcases hr with hr | hr
      · exact ih.1 r hr
      · split at hr
        · simp only [List.mem_singleton] at hr; subst hr; simp
        · cases hr
    · rw [List.mem_append] at hr
      rcases hr with hr | hr
      · exact ih.2 r hr
      · split at hr
        · simp only [List.mem_singleton] at hr; subst hr; simp
        · cases hr
theorem outW_rows (pp : List (List Pt)) (l : List (List Int)) : ∀ i, (∀ r ∈ (outW pp l i).1, r.length ≤ 3) ∧ ∀ r ∈ (outW pp l i).2, r.length ≤ 3
  | 0 => ⟨fun r h => (List.not_mem_nil h).elim, fun r h => (List.not_mem_nil h).elim⟩
  | i + 1 => inW_rows pp l i (outW_rows pp l i) _
section
variable {pp : List (List Pt)}
theorem row3 {l : List (List Int)} (I : SgI pp pp.length l) {i : Nat} (hi : i < l.length) : ∃ a x : Nat, gR l i = [(a : Int), (x : Int) - 1, (x : Int)] ∧ a < pp.length ∧ 1 ≤ x ∧ x < (cnr pp a).length ∧
    geti (gR l i) 0 = some (gI (gR l i) 0) ∧ geti (gR l i) 1 = some (gI (gR l i) 1) ∧ geti (gR l i) 2 = some (gI (gR l i) 2) ∧ gI (gR l i) 0 = (a : Int) ∧ gI (gR l i) 1 = (x : Int) - 1 ∧ gI (gR l i) 2 = (x : Int) := by
  obtain ⟨a, x, h1, h2, h3, h4⟩ := I.row i hi
  exact ⟨a, x, h1, h2, h3, h4, by rw [h1]; rfl, by rw [h1]; rfl, by rw [h1]; rfl, by rw [h1]; rfl, by rw [h1]; rfl, by rw [h1]; rfl⟩
def cnrs (pp : List (List Pt)) : List (List Pt) := (List.range pp.length).map (cnr pp)
theorem cnrs_at {a : Nat} (h : a < pp.length) : geti (cnrs pp) (a : Int) = some (cnr pp a) := by unfold cnrs; rw [geti_nat, List.getElem?_map, List.getElem?_range h]; rfl
theorem cnr_at {a x : Nat} (hx : x < (cnr pp a).length) : geti (cnr pp a) (x : Int) = some (gP (cnr pp a) x) := geti_gP hx
theorem spec5 {l : List (List Int)} (I : SgI pp pp.length l) (hl : l.length ≤ 3456) {i : Nat} (hi : i < l.length) {s : List (List Int) × List (List Int)} (hs : s.1.length ≤ 12000000 ∧ s.2.length ≤ 12000000) :
    loopM (m_spec_WiringOf_s5 l (cnrs pp) (i : Int) (gR l i)) (((i + 1 : Nat) : Int), s.1, s.2) = some (inW pp l i s (l.length - (i + 1))) := by
  refine loop_run (step := m_spec_WiringOf_s5 l (cnrs pp) (i : Int) (gR l i)) (l.length - (i + 1)) (fun k => (((i + 1 + k : Nat) : Int), (inW pp l i s k).1, (inW pp l i s k).2)) (fun k hk => ?_) ?_
  · have hk' : i + 1 + k < l.length := by omega
    have hb := inW_len pp l i s k
    obtain ⟨a, x, _, ha, x1, x2, g0, g1, g2, e0, e1, e2⟩ := row3 I hi
    obtain ⟨b, y, _, hb', y1, y2, k0, k1, k2, f0, f1, f2⟩ := row3 I hk'
    unfold m_spec_WiringOf_s5
    simp only []
    rw [bif_t (by simp; omega), geti_gR hk']
    simp only [bind_some', g0, g1, g2, k0, k1, k2]
    rw [wr_in (by omega), show (((i + 1 + k : Nat) : Int) + 1) = ((i + 1 + (k + 1) : Nat) : Int) by omega]
    have hJ : (bif gI (gR l i) 0 == gI (gR l (i + 1 + k)) 0 then (bif gI (gR l i) 2 == gI (gR l (i + 1 + k)) 1 then Option.bind (apC (inW pp l i s k).2 (([([(i : Int), ((i + 1 + k : Nat) : Int), 1] : List (Int))] : List (List (Int))))) fun _ => some ((inW pp l i s k).2 ++ (([([(i : Int), ((i + 1 + k : Nat) : Int), 1] : List (Int))] : List (List (Int))))) else some (inW pp l i s k).2) else some (inW pp l i s k).2) = some (inW pp l i s (k + 1)).2 := by
      rw [apC_ok (by unfold lim; simp; omega)]
      show _ = some ((inW pp l i s k).2 ++ (if cond2 (gR l i) (gR l (i + 1 + k)) then [[(i : Int), ((i + 1 + k : Nat) : Int), 1]] else []))
      unfold cond2
      cases gI (gR l i) 0 == gI (gR l (i + 1 + k)) 0 <;> cases gI (gR l i) 2 == gI (gR l (i + 1 + k)) 1 <;> simp
    rw [hJ]
    simp only [bind_some']
    have q1 : geti (cnrs pp) (gI (gR l i) 0) = some (cnr pp a) := by rw [e0]; exact cnrs_at ha
    have q2 : geti (cnrs pp) (gI (gR l (i + 1 + k)) 0) = some (cnr pp b) := by rw [f0]; exact cnrs_at hb'
    have q3 : geti (cnr pp a) (gI (gR l i) 1) = some (gP (cnr pp a) (x - 1)) := by rw [e1, show (x : Int) - 1 = ((x - 1 : Nat) : Int) by omega]; exact cnr_at (by omega)
    have q4 : geti (cnr pp a) (gI (gR l i) 2) = some (gP (cnr pp a) x) := by rw [e2]; exact cnr_at x2
    have q5 : geti (cnr pp b) (gI (gR l (i + 1 + k)) 1) = some (gP (cnr pp b) (y - 1)) := by rw [f1, show (y : Int) - 1 = ((y - 1 : Nat) : Int) by omega]; exact cnr_at (by omega)
    have q6 : geti (cnr pp b) (gI (gR l (i + 1 + k)) 2) = some (gP (cnr pp b) y) := by rw [f2]; exact cnr_at y2
    have ht : tch pp (gR l i) (gR l (i + 1 + k)) = shB (gP (cnr pp a) (x - 1)) (gP (cnr pp a) x) (gP (cnr pp b) (y - 1)) (gP (cnr pp b) y) := by
      unfold tch
      rw [e0, e1, e2, f0, f1, f2, Int.toNat_natCast, Int.toNat_natCast, Int.toNat_natCast, Int.toNat_natCast, show ((x : Int) - 1).toNat = x - 1 by omega, show ((y : Int) - 1).toNat = y - 1 by omega]
    simp only [q1, q2, q3, q4, q5, q6, bind_some', share_eq]
    rw [← ht, apC_ok (by unfold lim; simp; omega)]
    show _ = some (Ctl.next (_, (inW pp l i s k).1 ++ (if cond1 pp (gR l i) (gR l (i + 1 + k)) then [[(i : Int), ((i + 1 + k : Nat) : Int)]] else []), (inW pp l i s (k + 1)).2))
    unfold cond1
    cases gI (gR l i) 0 != gI (gR l (i + 1 + k)) 0 <;> cases tch pp (gR l i) (gR l (i + 1 + k)) <;> simp
  · unfold m_spec_WiringOf_s5
    simp only []
    rw [bif_f (by simp; omega)]
theorem end_eq {l : List (List Int)} (I : SgI pp pp.length l) (hr : ∀ r ∈ pp, r.length ≤ 1048576) {i : Nat} (hi : i < l.length) :
    m_impl_WiringOf_1_bimplPoint (gR l i) pp = some [gP (cnr pp (gI (gR l i) 0).toNat) (gI (gR l i) 1).toNat, gP (cnr pp (gI (gR l i) 0).toNat) (gI (gR l i) 2).toNat] := by
  obtain ⟨a, x, _, ha, x1, x2, g0, g1, g2, e0, e1, e2⟩ := row3 I hi
  unfold m_impl_WiringOf_1_bimplPoint
  have hp : pp.getD a [] = pp[a] := by simp [ha]
  have hra := hr _ (List.getElem_mem ha)
  have hg : geti pp (gI (gR l i) 0) = some pp[a] := by rw [e0]; exact geti_lt ha
  have hc : m_impl_corners pp[a] = some (cnr pp a) := by
    unfold cnr; rw [hp]; exact implCorners_eq _ (by omega)
  have hcl : (cnr pp a).length ≤ 1048576 := by
    have := cLen_le hr a ha
    exact this
  simp only [g0, g1, g2, hg, hc, bind_some']
  rw [e1, e2, e0, wr_in (by omega), Int.toNat_natCast, Int.toNat_natCast, show ((x : Int) - 1).toNat = x - 1 by omega]
  have hsl : slci (cnr pp a) ((x : Int) - 1) ((x : Int) + 1) = some (slc (cnr pp a) ((x : Int) - 1) ((x : Int) + 1)) := by unfold slci slc; rw [if_pos (by omega)]
  rw [hsl]
  simp only [bind_some']
  have : slc (cnr pp a) ((x : Int) - 1) ((x : Int) + 1) = [gP (cnr pp a) (x - 1), gP (cnr pp a) x] := by
    unfold slc
    rw [show ((x : Int) + 1).toNat = x + 1 by omega, show ((x : Int) - 1).toNat = x - 1 by omega]
    rw [gP_at (by omega), gP_at x2]
    apply List.ext_getElem?
    intro j
    rw [List.getElem?_drop, List.getElem?_take]
    match j with
    | 0 => rw [if_pos (by omega)]; simp [List.getElem?_eq_getElem (show x - 1 < (cnr pp a).length by omega)]
    | 1 =>
      rw [if_pos (by omega), show x - 1 + 1 = x by omega]
      simp [List.getElem?_eq_getElem x2]
    | j + 2 => rw [if_neg (by omega)]; simp
  rw [this]
theorem impl4 {l : List (List Int)} (I : SgI pp pp.length l) (hr : ∀ r ∈ pp, r.length ≤ 1048576) (hl : l.length ≤ 3456) {i : Nat} (hi : i < l.length) {s : List (List Int) × List (List Int)} (hs : s.1.length ≤ 12000000 ∧ s.2.length ≤ 12000000) :
    loopM (m_impl_WiringOf_s4 pp l (i : Int) (gR l i)) (((i + 1 : Nat) : Int), s.1, s.2) = some (inW pp l i s (l.length - (i + 1))) := by
  refine loop_run (step := m_impl_WiringOf_s4 pp l (i : Int) (gR l i)) (l.length - (i + 1)) (fun k => (((i + 1 + k : Nat) : Int), (inW pp l i s k).1, (inW pp l i s k).2)) (fun k hk => ?_) ?_
  · have hk' : i + 1 + k < l.length := by omega
    have hb := inW_len pp l i s k
    obtain ⟨a, x, _, ha, x1, x2, g0, g1, g2, e0, e1, e2⟩ := row3 I hi
    obtain ⟨b, y, _, hb', y1, y2, k0, k1, k2, f0, f1, f2⟩ := row3 I hk'
    have hd := I.dif i (i + 1 + k) (by omega) hk'
    unfold m_impl_WiringOf_s4
    simp only []
    rw [bif_t (by simp; omega), geti_gR hk']
    simp only [bind_some', g0, k0, end_eq I hr hi, end_eq I hr hk', touch_eq]
    rw [wr_in (x := ((i + 1 + k : Nat) : Int) + 1) (by omega), show (((i + 1 + k : Nat) : Int) + 1) = ((i + 1 + (k + 1) : Nat) : Int) by omega, wr_in (x := (i : Int) + 1) (by omega)]
    have hC : (bif gI (gR l i) 0 != gI (gR l (i + 1 + k)) 0 then (bif tch pp (gR l i) (gR l (i + 1 + k)) then Option.bind (apC (inW pp l i s k).1 (([([(i : Int), ((i + 1 + k : Nat) : Int)] : List (Int))] : List (List (Int))))) fun _ => some ((inW pp l i s k).1 ++ (([([(i : Int), ((i + 1 + k : Nat) : Int)] : List (Int))] : List (List (Int))))) else some (inW pp l i s k).1) else some (inW pp l i s k).1) = some (inW pp l i s (k + 1)).1 := by
      rw [apC_ok (by unfold lim; simp; omega)]
      show _ = some ((inW pp l i s k).1 ++ (if cond1 pp (gR l i) (gR l (i + 1 + k)) then [[(i : Int), ((i + 1 + k : Nat) : Int)]] else []))
      unfold cond1
      cases gI (gR l i) 0 != gI (gR l (i + 1 + k)) 0 <;> cases tch pp (gR l i) (gR l (i + 1 + k)) <;> simp
    rw [show shB (gP (cnr pp (gI (gR l i) 0).toNat) (gI (gR l i) 1).toNat) (gP (cnr pp (gI (gR l i) 0).toNat) (gI (gR l i) 2).toNat) (gP (cnr pp (gI (gR l (i + 1 + k)) 0).toNat) (gI (gR l (i + 1 + k)) 1).toNat) (gP (cnr pp (gI (gR l (i + 1 + k)) 0).toNat) (gI (gR l (i + 1 + k)) 2).toNat) = tch pp (gR l i) (gR l (i + 1 + k)) from rfl, hC]
    simp only [bind_some']
    rw [apC_ok (by unfold lim; simp; omega)]
    show _ = some (Ctl.next (_, (inW pp l i s (k + 1)).1, (inW pp l i s k).2 ++ (if cond2 (gR l i) (gR l (i + 1 + k)) then [[(i : Int), ((i + 1 + k : Nat) : Int), 1]] else [])))
    unfold cond2
    by_cases he : gI (gR l i) 0 = gI (gR l (i + 1 + k)) 0
    · have hdd := hd he
      rw [bif_t (by simpa using he), show (gI (gR l i) 0 == gI (gR l (i + 1 + k)) 0) = true by simpa using he, Bool.true_and]
      by_cases hk0 : ((i + 1 + k : Nat) : Int) = (i : Int) + 1
      · rw [bif_t (by simpa using hk0), show (gI (gR l i) 2 == gI (gR l (i + 1 + k)) 1) = true by simp only [beq_iff_eq]; omega]
        rfl
      · rw [bif_f (by simpa using hk0), show (gI (gR l i) 2 == gI (gR l (i + 1 + k)) 1) = false by simp only [beq_eq_false_iff_ne]; omega]
        simp
    · rw [bif_f (by simpa using he), show (gI (gR l i) 0 == gI (gR l (i + 1 + k)) 0) = false by simpa using he]
      simp
  · unfold m_impl_WiringOf_s4
    simp only []
    rw [bif_f (by simp; omega)]
theorem spec4 {l : List (List Int)} (I : SgI pp pp.length l) (hl : l.length ≤ 3456) : loopM (m_spec_WiringOf_s4 l (cnrs pp)) (0, ([] : List (List (Int))), ([] : List (List (Int))), ([] : List (Int))) = some ((outW pp l l.length).1, (outW pp l l.length).2, List.replicate l.length (-1)) := by
  have hh := loop_run (step := m_spec_WiringOf_s4 l (cnrs pp)) l.length (fun i => ((i : Int), (outW pp l i).1, (outW pp l i).2, List.replicate i (-1))) (r := ((outW pp l l.length).1, (outW pp l l.length).2, List.replicate l.length (-1))) (fun i hi => by
    have ho := outW_len pp hl i
    unfold m_spec_WiringOf_s4
    simp only []
    rw [bif_t (by simp; omega), apC_ok (by unfold lim; simp; omega), geti_gR hi]
    simp only [bind_some']
    rw [wr_in (by omega), show (i : Int) + 1 = ((i + 1 : Nat) : Int) by omega, spec5 I hl hi (s := outW pp l i) (by omega)]
    simp only [bind_some']
    rw [show List.replicate i (-1 : Int) ++ [-1] = List.replicate (i + 1) (-1) from (List.replicate_succ' ..).symm]
    rfl) (by
    unfold m_spec_WiringOf_s4
    simp only []
    rw [bif_f (by simp)])
  exact hh
theorem impl3 {l : List (List Int)} (I : SgI pp pp.length l) (hr : ∀ r ∈ pp, r.length ≤ 1048576) (hl : l.length ≤ 3456) : loopM (m_impl_WiringOf_s3 pp l) (0, ([] : List (List (Int))), ([] : List (List (Int))), ([] : List (Int))) = some ((outW pp l l.length).1, (outW pp l l.length).2, List.replicate l.length (-1)) := by
  have hh := loop_run (step := m_impl_WiringOf_s3 pp l) l.length (fun i => ((i : Int), (outW pp l i).1, (outW pp l i).2, List.replicate i (-1))) (r := ((outW pp l l.length).1, (outW pp l l.length).2, List.replicate l.length (-1))) (fun i hi => by
    have ho := outW_len pp hl i
    unfold m_impl_WiringOf_s3
    simp only []
    rw [bif_t (by simp; omega), apC_ok (by unfold lim; simp; omega), geti_gR hi]
    simp only [bind_some']
    rw [wr_in (by omega), show (i : Int) + 1 = ((i + 1 : Nat) : Int) by omega, impl4 I hr hl hi (s := outW pp l i) (by omega)]
    simp only [bind_some']
    rw [show List.replicate i (-1 : Int) ++ [-1] = List.replicate (i + 1) (-1) from (List.replicate_succ' ..).symm]
    rfl) (by
    unfold m_impl_WiringOf_s3
    simp only []
    rw [bif_f (by simp)])
  exact hh
theorem spec1 (hb : pp.length ≤ 6) (hr : ∀ r ∈ pp, r.length ≤ 1048576) : loopM (m_spec_WiringOf_s1 pp) (([] : List (List (Int × Int))), 0) = some (cnrs pp) := by
  have hh := loop_run (step := m_spec_WiringOf_s1 pp) pp.length (fun i => ((List.range i).map (cnr pp), (i : Int))) (r := cnrs pp) (fun i hi => by
    have hri := hr _ (List.getElem_mem hi)
    unfold m_spec_WiringOf_s1
    simp only []
    rw [bif_t (by simp; omega), geti_lt hi]
    simp only [bind_some']
    rw [specCorners_eq _ (by omega)]
    simp only [bind_some']
    rw [apC_ok (by unfold lim; simp; omega), wr_in (by omega), List.range_succ, List.map_append]
    have e : cornF pp[i] pp[i].length = cnr pp i := by unfold cnr; simp [hi]
    rw [e]
    rfl) (by
    unfold m_spec_WiringOf_s1
    simp only []
    rw [bif_f (by simp)]
    rfl)
  exact hh
end
/-! ### The law -/
abbrev Wv := (Int × List (List Int) × List (List Int) × List Int) × Bool
def zeroW : Wv := ((0, [], [], []), false)
def woC (pp : List (List Pt)) : List (List Int) := (outW pp (segF pp pp.length) (segF pp pp.length).length).1
def woJ (pp : List (List Pt)) : List (List Int) := (outW pp (segF pp pp.length) (segF pp pp.length).length).2
def woF (pp : List (List Pt)) : List Int := List.replicate (segF pp pp.length).length (-1)
noncomputable def woV (pp : List (List Pt)) : Wv := if pathsB pp && validV ((segF pp pp.length).length : Int) (woC pp) (woJ pp) (woF pp) then ((((segF pp pp.length).length : Int), woC pp, woJ pp, woF pp), true) else zeroW
section
variable {pp : List (List Pt)}
theorem wo_b (hp : pathsB pp = true) : (segF pp pp.length).length ≤ 3456 ∧ (woC pp).length ≤ 12000000 ∧ (woJ pp).length ≤ 12000000 ∧ (woF pp).length ≤ 3456 := by
  have h6 : pp.length ≤ 6 := by unfold pathsB at hp; rw [Bool.and_eq_true, decide_eq_true_eq] at hp; exact hp.1
  have h := segF_576 hp pp.length (Nat.le_refl _)
  have hl : (segF pp pp.length).length ≤ 3456 := by omega
  have ho := outW_len pp hl (segF pp pp.length).length
  refine ⟨hl, ?_, ?_, ?_⟩
  · show (outW pp (segF pp pp.length) (segF pp pp.length).length).1.length ≤ _; omega
  · show (outW pp (segF pp pp.length) (segF pp pp.length).length).2.length ≤ _; omega
  · unfold woF; rw [List.length_replicate]; omega
theorem specWO_eq (hb : pp.length ≤ 1048576) (hr : ∀ r ∈ pp, r.length ≤ 1048576) : m_spec_WiringOf pp = some (woV pp) := by
  unfold m_spec_WiringOf woV
  rw [specPaths_eq pp hb hr, bind_some']
  cases hp : pathsB pp with
  | false => rfl
  | true =>
    have h6 : pp.length ≤ 6 := by unfold pathsB at hp; rw [Bool.and_eq_true, decide_eq_true_eq] at hp; exact hp.1
    obtain ⟨b1, b2, b3, b4⟩ := wo_b hp
    rw [bif_f (by rfl), specSegs_eq pp h6 hr]
    simp only [bind_some']
    rw [spec1 h6 hr]
    simp only [bind_some']
    rw [spec4 (seg_inv pp pp.length) b1]
    simp only [bind_some']
    have hi := specIs_eq ((segF pp pp.length).length : Int) (woC pp) (woJ pp) (woF pp) (by omega) (by omega) (by omega)
    unfold woC woJ woF at hi ⊢
    rw [hi]
    simp only [bind_some', Bool.true_and]
    cases validV ((segF pp pp.length).length : Int) (outW pp (segF pp pp.length) (segF pp pp.length).length).1 (outW pp (segF pp pp.length) (segF pp pp.length).length).2 (List.replicate (segF pp pp.length).length (-1)) <;> rfl
theorem implWO_eq (hb : pp.length ≤ 1048576) (hr : ∀ r ∈ pp, r.length ≤ 1048576) : m_impl_WiringOf pp = some (woV pp) := by
  unfold m_impl_WiringOf woV
  rw [implPaths_eq pp hb hr, bind_some']
  cases hp : pathsB pp with
  | false => rfl
  | true =>
    have h6 : pp.length ≤ 6 := by unfold pathsB at hp; rw [Bool.and_eq_true, decide_eq_true_eq] at hp; exact hp.1
    obtain ⟨b1, b2, b3, b4⟩ := wo_b hp
    rw [bif_f (by rfl), implSegs_eq pp h6 hr]
    simp only [bind_some', Bool.true_and]
    by_cases h14 : ((segF pp pp.length).length : Int) > 14
    · rw [bif_t (by simpa using h14)]
      have : validV ((segF pp pp.length).length : Int) (woC pp) (woJ pp) (woF pp) = false := by
        unfold validV
        rw [decide_eq_false (show ¬ ((segF pp pp.length).length : Int) ≤ 14 by omega)]
        simp
      rw [this]; rfl
    · rw [bif_f (by simpa using h14), impl3 (seg_inv pp pp.length) hr b1]
      simp only [bind_some']
      have hi := implValid_eq ((segF pp pp.length).length : Int) (woC pp) (woJ pp) (woF pp) (by omega) (by omega) (by omega)
      unfold woC woJ woF at hi ⊢
      rw [hi]
      simp only [bind_some']
      cases validV ((segF pp pp.length).length : Int) (outW pp (segF pp pp.length) (segF pp pp.length).length).1 (outW pp (segF pp pp.length) (segF pp pp.length).length).2 (List.replicate (segF pp pp.length).length (-1)) <;> rfl
theorem woV_small (pp : List (List Pt)) : (woV pp).1.2.1.length ≤ 30 ∧ (woV pp).1.2.2.1.length ≤ 30 ∧ (woV pp).1.2.2.2.length ≤ 14 ∧ (∀ r ∈ (woV pp).1.2.1, r.length ≤ 1048576) ∧ ∀ r ∈ (woV pp).1.2.2.1, r.length ≤ 1048576 := by
  unfold woV
  cases hv : (pathsB pp && validV ((segF pp pp.length).length : Int) (woC pp) (woJ pp) (woF pp)) with
  | false => exact ⟨by simp [zeroW], by simp [zeroW], by simp [zeroW], fun r h => by simp [zeroW] at h, fun r h => by simp [zeroW] at h⟩
  | true =>
    rw [Bool.and_eq_true] at hv
    obtain ⟨hn, hf, hc, hj, _⟩ := validV_t hv.2
    have r := outW_rows pp (segF pp pp.length) (segF pp pp.length).length
    simp only [if_true]
    exact ⟨(pairsV_len hc).1, (pairsV_len hj).1, by omega, fun x hx => by have := r.1 x hx; omega, fun x hx => by have := r.2 x hx; omega⟩
end
theorem lawWiringOf_eq (pp : List (List Pt)) (hb : pp.length ≤ 9223372036854775807) (hr : ∀ r ∈ pp, r.length ≤ 9223372036854775807) : m_laws_FnExactWiringOf pp = some true := by
  unfold m_laws_FnExactWiringOf
  obtain ⟨z, hz, h⟩ := szPointSS_eq pp 1048576 (by omega) hb hr
  rw [hz, bind_some']
  rcases h with h | ⟨h0, _, hn, hrn⟩
  · rw [bif_t (by simpa using h)]
  rw [bif_f (by simpa using h0)]
  have hr2 : ∀ r ∈ pp, r.length ≤ 1048576 := fun r h => by have := hrn r h; omega
  obtain ⟨w1, w2, w3, w4, w5⟩ := woV_small pp
  have hs := specWO_eq (pp := pp) (by omega) hr2
  have hi := implWO_eq (pp := pp) (by omega) hr2
  generalize woV pp = V at *
  obtain ⟨⟨n, c, j, f⟩, ok⟩ := V
  simp only at w1 w2 w3 w4 w5
  have o1 := offs_le w4 (k := 1) c.length (Nat.le_refl _)
  have o2 := offs_le w5 (k := offs 1 c c.length) j.length (Nat.le_refl _)
  have heq : m_laws_eqWiring n c j f n c j f = some true := by
    unfold m_laws_eqWiring
    rw [bif_f (by simp), eqInt64SS_eq c (by omega) (fun r hr => by have := w4 r hr; omega), bind_some', bif_f (by rfl), eqInt64SS_eq j (by omega) (fun r hr => by have := w5 r hr; omega), bind_some', bif_f (by rfl), eqInt64S_eq f (by omega)]
    rfl
  have hmk : m_laws_markWiring n c j f 1 = some (offs (offs 1 c c.length) j j.length + f.length, tgt 1 c, tgt (offs 1 c c.length) j, seqI (offs (offs 1 c c.length) j j.length) f.length) := by
    unfold m_laws_markWiring
    rw [markR_eq c 1 (by omega) (by omega) (by omega) w4]
    simp only [bind_some']
    rw [markR_eq j _ (by omega) (by omega) (by omega) w5]
    simp only [bind_some']
    rw [markI_eq f _ (by omega) (by omega)]
    rfl
  have hhd : m_laws_heldWiring n (tgt 1 c) (tgt (offs 1 c c.length) j) (seqI (offs (offs 1 c c.length) j j.length) f.length) 1 = some (offs (offs 1 c c.length) j j.length + f.length) := by
    unfold m_laws_heldWiring
    rw [heldR_eq c 1 (by omega) (by omega) (by omega) w4]
    simp only [bind_some']
    rw [bif_f (by simp; omega), heldR_eq j _ (by omega) (by omega) (by omega) w5]
    simp only [bind_some']
    rw [bif_f (by simp; omega), heldI_eq f.length _ (by omega) (by omega)]
    simp only [bind_some']
    rw [bif_f (by simp; omega)]
  obtain ⟨mp, hmp, hmp'⟩ := markPP_eq pp 1 (by omega) (by omega) (by omega) hr2
  simp only [toPointSS_eq pp (by omega) hr2, bind_some', hs, hi, eqPointSS_eq pp (by omega) (fun r h => by have := hr2 r h; omega), heq, hmk, hhd, hmp, Bool.not_true, cond_false, beq_self_eq_true, bne_self_eq_false]
  rw [bif_f (by simpa using hmp'), bif_f (by simp; omega), bif_f (by simp; omega)]
end Go.Proofs.Ytgaecldkiijmpaa
