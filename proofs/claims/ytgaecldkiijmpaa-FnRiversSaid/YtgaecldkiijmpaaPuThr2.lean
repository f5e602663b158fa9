/- The path through corners: the program's and the reference's come to one. -/
import Derived.Test.YtgaecldkiijmpaaPuThr
set_option linter.unusedSimpArgs false
set_option linter.unusedVariables false
namespace Go.Proofs.Ytgaecldkiijmpaa
open Go.RowKit

/-- The points from corner 0 to corner k. -/
def fullF (C : List Pt) : Nat → List Pt
  | 0 => [gP C 0]
  | k + 1 => fullF C k ++ lnF (gP C (k + 1)) (gP C k) (dN (gP C k) (gP C (k + 1)))
def fullV (C : List Pt) : List Pt := fullF C (C.length - 1)
def AlAll (C : List Pt) : Prop := ∀ k, 1 ≤ k → k < C.length → Al (gP C (k - 1)) (gP C k)
def Thru (C : List Pt) : Prop := 1 ≤ C.length ∧ C.length ≤ 576 ∧ okPs C = true ∧ AlAll C ∧ pathB (fullV C) = true ∧ cornF (fullV C) (fullV C).length = C
open Classical in
noncomputable def thruV (C : List Pt) : List Pt × Bool := if Thru C then (fullV C, true) else ([], false)
theorem gP_ok' {ps : List Pt} (h : okPs ps = true) {k : Nat} (hk : k < ps.length) : okP (gP ps k) = true := by rw [gP_at hk]; exact okPs_at h hk
theorem geti_gP' {ps : List Pt} {k : Nat} (hk : k < ps.length) : geti ps (k : Int) = some (gP ps k) := by rw [geti_lt hk, gP_at hk]
theorem fullF_mono (C : List Pt) {i j : Nat} (h : i ≤ j) : (fullF C i).length ≤ (fullF C j).length := by
  induction j with
  | zero => rw [show i = 0 by omega]; exact Nat.le_refl _
  | succ j ih =>
    by_cases e : i = j + 1
    · rw [e]; exact Nat.le_refl _
    · refine Nat.le_trans (ih (by omega)) ?_
      show _ ≤ (fullF C j ++ _).length
      simp
theorem fullF_le {C : List Pt} (h : okPs C = true) : ∀ k, k < C.length → (fullF C k).length ≤ 1 + 198 * k
  | 0, _ => by simp [fullF]
  | k + 1, hk => by
    have := fullF_le h k (by omega)
    have hd := dN_le (gP_ok' h (k := k) (by omega)) (gP_ok' h hk)
    show (fullF C k ++ _).length ≤ _
    rw [List.length_append, lnF_len]; omega
theorem take_take_app {α : Type} (A B : List α) (n : Nat) : (A.take n ++ B).take n = (A ++ B).take n := by
  rw [List.take_append, List.take_append, List.take_take, Nat.min_self]
  congr 1
  by_cases h : A.length ≤ n
  · rw [List.take_of_length_le h]
  · rw [List.length_take, Nat.min_eq_left (by omega), show n - n = 0 by omega, show n - A.length = 0 by omega]
theorem cornF_nodup {ps : List Pt} (h : ps.Nodup) : (cornF ps ps.length).Nodup := by
  unfold cornF
  rw [List.Nodup, List.pairwise_map]
  have h1 : (List.range ps.length).Pairwise (· < ·) := List.pairwise_lt_range
  have h2 := h1.sublist (List.filter_sublist (p := cornB ps))
  refine List.Pairwise.imp_of_mem (fun {a b} ha hb hab e => ?_) h2
  have hbl := List.mem_range.1 (List.mem_filter.1 hb).1
  have hal : a < ps.length := by omega
  rw [gP_at hal, gP_at hbl] at e
  exact (List.pairwise_iff_getElem.1 h a b hal hbl hab) e
theorem pathB_nodup {ps : List Pt} (h : pathB ps = true) : ps.Nodup := by
  unfold pathB at h
  simp only [Bool.and_eq_true, decide_eq_true_eq] at h
  exact h.1.2.2
theorem Equal_eq (l m : List Pt) (hb : l.length ≤ 140737488) : m_slices_Equal_impl_Point_impl_Point l m = some (decide (l = m)) := by
  unfold m_slices_Equal_impl_Point_impl_Point
  by_cases hl : l.length = m.length
  · rw [bif_f (by simp [hl])]
    have := loop_any (step := m_slices_Equal_impl_Point_impl_Point_s1 l m) 0 l.length (fun k => decide (l[k]? ≠ m[k]?)) false (by omega) (by
      intro k _ hk _
      unfold m_slices_Equal_impl_Point_impl_Point_s1
      simp only []
      rw [bif_t (by simpa using hk), geti_lt hk, geti_lt (l := m) (by omega)]
      simp only [bind_some']
      rw [eqb, List.getElem?_eq_getElem hk, List.getElem?_eq_getElem (l := m) (by omega)]
      by_cases h : l[k] = m[k]
      · simp [h, wr_in (x := (k : Int) + 1) (by omega)]
      · simp [h]) (by
      unfold m_slices_Equal_impl_Point_impl_Point_s1
      simp only []
      rw [bif_f (by simp)])
    rw [show ((0 : Nat) : Int) = 0 from rfl] at this
    rw [this]
    by_cases h : l = m
    · have : anyIn 0 l.length (fun k => decide (l[k]? ≠ m[k]?)) = false := anyIn_f.2 fun k _ _ => by simp [h]
      rw [this]; simp [h]
    · have : anyIn 0 l.length (fun k => decide (l[k]? ≠ m[k]?)) = true := by
        cases hc : anyIn 0 l.length (fun k => decide (l[k]? ≠ m[k]?)) with
        | true => rfl
        | false =>
          exfalso; apply h
          apply List.ext_getElem?
          intro k
          by_cases hk : k < l.length
          · have := anyIn_f.1 hc k (by omega) hk
            simpa using this
          · rw [List.getElem?_eq_none (by omega), List.getElem?_eq_none (by omega)]
      rw [this]; simp [h]
  · rw [bif_t (by simpa using fun h => hl (by omega))]
    have : l ≠ m := fun h => hl (by rw [h])
    simp [this]
section
variable {C : List Pt}
theorem fullV_le (h : okPs C = true) (h1 : 1 ≤ C.length) (h2 : C.length ≤ 576) : (fullV C).length ≤ 120000 := by
  have := fullF_le h (C.length - 1) (by omega)
  unfold fullV; omega
/-- The program's loop. -/
theorem thr_s1 (h1 : 1 ≤ C.length) (h2 : C.length ≤ 576) (ho : okPs C = true) :
    ∃ r, loopM (m_impl_through_s1 C) ([gP C 0], 1) = some r ∧ ((∀ i, 1 ≤ i → i < C.length → Al (gP C (i - 1)) (gP C i) ∧ gP C (i - 1) ≠ gP C i ∧ (fullF C (i - 1)).length ≤ 576) ∧ r = Sum.inl (fullV C) ∨ ¬ (∀ i, 1 ≤ i → i < C.length → Al (gP C (i - 1)) (gP C i) ∧ gP C (i - 1) ≠ gP C i ∧ (fullF C (i - 1)).length ≤ 576) ∧ r = Sum.inr ([], false)) := by
  refine loopM_count _ (C.length - 1) (fun j s => s = (fullF C j, ((j + 1 : Nat) : Int)) ∧ ∀ i, 1 ≤ i → i ≤ j → Al (gP C (i - 1)) (gP C i) ∧ gP C (i - 1) ≠ gP C i ∧ (fullF C (i - 1)).length ≤ 576) _ ⟨rfl, fun i hi hi2 => by omega⟩ ?_ ?_
  · rintro j _ hj ⟨rfl, hg⟩
    have hjl : j + 1 < C.length := by omega
    have gprev : geti C (wr (((j + 1 : Nat) : Int) - 1)) = some (gP C j) := by rw [wr_in (by omega), show ((j + 1 : Nat) : Int) - 1 = (j : Int) by omega]; exact geti_gP' (by omega)
    have hw : wr (((j + 1 : Nat) : Int) + 1) = ((j + 1 + 1 : Nat) : Int) := by rw [wr_in (by omega)]; rfl
    have hoj := gP_ok' ho (k := j) (by omega)
    have ho1 := gP_ok' ho hjl
    have bad : ¬ (Al (gP C j) (gP C (j + 1)) ∧ gP C j ≠ gP C (j + 1) ∧ (fullF C j).length ≤ 576) → ¬ (∀ i, 1 ≤ i → i < C.length → Al (gP C (i - 1)) (gP C i) ∧ gP C (i - 1) ≠ gP C i ∧ (fullF C (i - 1)).length ≤ 576) := fun hn h => hn (by have := h (j + 1) (by omega) hjl; simpa using this)
    have cont : Al (gP C j) (gP C (j + 1)) → gP C j ≠ gP C (j + 1) → (fullF C j).length ≤ 576 → ∀ i, 1 ≤ i → i ≤ j + 1 → Al (gP C (i - 1)) (gP C i) ∧ gP C (i - 1) ≠ gP C i ∧ (fullF C (i - 1)).length ≤ 576 := fun a1 a2 a3 i hi hi2 => by
      by_cases e : i = j + 1
      · subst e; exact ⟨by simpa using a1, by simpa using a2, by simpa using a3⟩
      · exact hg i hi (by omega)
    have fl := fullF_le ho j (by omega)
    have step : Al (gP C j) (gP C (j + 1)) → gP C j ≠ gP C (j + 1) → (fullF C j).length ≤ 576 →
        (Option.bind (m_impl_line (gP C j).1 (gP C j).2 (gP C (j + 1)).1 (gP C (j + 1)).2) fun y742 => Option.bind (neC y742) fun _ => Option.bind (apC (fullF C j) y742) fun _ => some (Ctl.next (fullF C j ++ y742, wr (((j + 1 : Nat) : Int) + 1)) : Ctl (List (Int × Int) × Int) (Sum (List (Int × Int)) (List (Int × Int) × Bool)))) = some (Ctl.next (fullF C (j + 1), ((j + 1 + 1 : Nat) : Int))) := fun a1 a2 a3 => by
      have hd := dN_le hoj ho1
      have hpos : 0 < dN (gP C j) (gP C (j + 1)) := by
        rcases Nat.eq_zero_or_pos (dN (gP C j) (gP C (j + 1))) with h | h
        · exact absurd (dist_0 (by have := (dist_b hoj ho1).1; unfold dN at h; omega)) a2
        · exact h
      rw [line_eq hoj ho1 a1]
      simp only [bind_some']
      rw [neC_ok (by rw [lnF_len]; exact hpos)]
      simp only [bind_some']
      rw [apC_ok (by unfold lim; rw [lnF_len]; omega), hw]
      rfl
    unfold m_impl_through_s1
    simp only []
    rw [bif_t (by simp; omega), geti_gP' hjl, gprev]
    simp only [bind_some']
    rw [eqb]
    by_cases ce : gP C j = gP C (j + 1)
    · right
      exact ⟨_, bif_t (by simpa using ce), Or.inr ⟨bad (fun h => h.2.1 ce), rfl⟩⟩
    · rw [bif_f (by simpa using ce)]
      by_cases c1 : (gP C j).1 = (gP C (j + 1)).1
      · have ha : Al (gP C j) (gP C (j + 1)) := Or.inl c1
        rw [bif_f (by simp [c1])]
        by_cases c3 : (fullF C j).length ≤ 576
        · left
          rw [bif_f (by simp; omega), step ha ce c3]
          exact ⟨_, rfl, rfl, cont ha ce c3⟩
        · right
          exact ⟨_, bif_t (by simp; omega), Or.inr ⟨bad (fun h => c3 h.2.2), rfl⟩⟩
      · rw [bif_t (by simpa using c1)]
        by_cases c2 : (gP C j).2 = (gP C (j + 1)).2
        · have ha : Al (gP C j) (gP C (j + 1)) := Or.inr c2
          rw [bif_f (by simp [c2])]
          by_cases c3 : (fullF C j).length ≤ 576
          · left
            rw [bif_f (by simp; omega), step ha ce c3]
            exact ⟨_, rfl, rfl, cont ha ce c3⟩
          · right
            exact ⟨_, bif_t (by simp; omega), Or.inr ⟨bad (fun h => c3 h.2.2), rfl⟩⟩
        · right
          exact ⟨_, bif_t (by simpa using c2), Or.inr ⟨bad (fun h => h.1.elim c1 c2), rfl⟩⟩
  · rintro _ ⟨rfl, hg⟩
    unfold m_impl_through_s1
    simp only []
    rw [bif_f (by simp; omega)]
    exact ⟨_, rfl, Or.inl ⟨fun i hi hi2 => hg i hi (by omega), rfl⟩⟩
theorem implThr_eq (hb : C.length ≤ 1048576) : ∃ x b, m_impl_through C = some (x, b) ∧ x.length ≤ 120000 ∧ ((b = true ∧ Thru C ∧ x = fullV C) ∨ (b = false ∧ ¬ Thru C)) := by
  unfold m_impl_through
  by_cases h1 : C.length = 0
  · rw [bif_t (by simp [h1])]
    exact ⟨_, _, rfl, by simp, Or.inr ⟨rfl, fun h => by have := h.1; omega⟩⟩
  · rw [bif_f (by simpa using h1)]
    by_cases h2 : C.length > 576
    · rw [bif_t (by simp; omega)]
      exact ⟨_, _, rfl, by simp, Or.inr ⟨rfl, fun h => by have := h.2.1; omega⟩⟩
    · rw [bif_f (by simp; omega), ContNo_eq C (by omega)]
      simp only [bind_some']
      cases ho : okPs C with
      | false =>
        rw [bif_t (by rfl)]
        exact ⟨_, _, rfl, by simp, Or.inr ⟨rfl, fun h => by have := h.2.2.1; rw [ho] at this; cases this⟩⟩
      | true =>
        have hs : slci C 0 1 = some [gP C 0] := by
          unfold slci
          rw [if_pos (by omega), gP_at (by omega)]
          cases C with
          | nil => simp at h1
          | cons x l => simp
        rw [bif_f (by rfl), hs]
        simp only [bind_some']
        obtain ⟨r, hr, hJ⟩ := thr_s1 (C := C) (by omega) (by omega) ho
        rw [hr]
        simp only [bind_some']
        have hle := fullV_le ho (by omega) (by omega)
        rcases hJ with ⟨hQ, rfl⟩ | ⟨hQ, rfl⟩
        · simp only []
          rw [implPath_eq _ (by omega)]
          simp only [bind_some']
          cases hpB : pathB (fullV C) with
          | false =>
            rw [bif_f (by rfl)]
            exact ⟨_, _, rfl, hle, Or.inr ⟨rfl, fun h => by have := h.2.2.2.2.1; rw [hpB] at this; cases this⟩⟩
          | true =>
            have hcl := cornF_len (fullV C) (fullV C).length
            rw [bif_t (by rfl), implCorners_eq _ (by omega)]
            simp only [bind_some']
            rw [Equal_eq _ _ (by omega)]
            simp only [bind_some']
            refine ⟨_, _, rfl, hle, ?_⟩
            by_cases he : cornF (fullV C) (fullV C).length = C
            · exact Or.inl ⟨by simpa using he, ⟨by omega, by omega, ho, fun k hk1 hk => (hQ k hk1 hk).1, hpB, he⟩, rfl⟩
            · exact Or.inr ⟨by simpa using he, fun h => he h.2.2.2.2.2⟩
        · simp only []
          refine ⟨_, _, rfl, by simp, Or.inr ⟨rfl, fun h => hQ fun i hi hi2 => ⟨h.2.2.2.1 i hi hi2, fun e => ?_, ?_⟩⟩⟩
          · have hnd : C.Nodup := by
              have := cornF_nodup (pathB_nodup h.2.2.2.2.1)
              rwa [h.2.2.2.2.2] at this
            rw [gP_at (k := i - 1) (by omega), gP_at hi2] at e
            exact (List.pairwise_iff_getElem.1 hnd (i - 1) i (by omega) hi2 (by omega)) e
          · have := (pathB_len h.2.2.2.2.1).2
            have hm := fullF_mono C (i := i - 1) (j := C.length - 1) (by omega)
            unfold fullV at this
            omega
theorem implPathThrough_eq (hb : C.length ≤ 1048576) : m_impl_PathThrough C = some (thruV C) := by
  unfold m_impl_PathThrough thruV
  obtain ⟨x, b, hx, hle, h⟩ := implThr_eq hb
  rw [hx]
  simp only [bind_some']
  rcases h with ⟨rfl, hT, rfl⟩ | ⟨rfl, hT⟩
  · rw [bif_f (by rfl), Clone_eq _ (by omega), if_pos hT]; rfl
  · rw [bif_t (by rfl), if_neg hT]
end
theorem thruV_len (C : List Pt) : (thruV C).1.length ≤ 576 := by
  unfold thruV
  split
  · rename_i h; exact (pathB_len h.2.2.2.2.1).2
  · simp
end Go.Proofs.Ytgaecldkiijmpaa
