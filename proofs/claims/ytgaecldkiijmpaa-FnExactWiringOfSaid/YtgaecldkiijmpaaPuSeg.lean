/- Segments of paths: what the reference and the program reckon is the same. -/
import Derived.Test.YtgaecldkiijmpaaPuRow
set_option linter.unusedSimpArgs false
set_option linter.unusedVariables false
namespace Go.Proofs.Ytgaecldkiijmpaa
open Go.RowKit

def badPath (p : List Pt) : Bool := decide (p.length < 2) || !pathB p
def pathsB (pp : List (List Pt)) : Bool := decide (pp.length ≤ 6) && !pp.any badPath
theorem anyIn_any {α : Type} (l : List α) (p : α → Bool) (q : Nat → Bool) (h : ∀ k (hk : k < l.length), q k = p l[k]) : anyIn 0 l.length q = l.any p := by
  cases ha : l.any p with
  | true =>
    obtain ⟨x, hx, hp⟩ := List.any_eq_true.1 ha
    obtain ⟨k, hk, rfl⟩ := List.mem_iff_getElem.1 hx
    exact anyIn_t.2 ⟨k, by omega, hk, by rw [h k hk]; exact hp⟩
  | false =>
    rw [List.any_eq_false] at ha
    exact anyIn_f.2 (fun k _ hk => by rw [h k hk]; exact Bool.not_eq_true _ ▸ ha _ (List.getElem_mem hk))
def badAt (pp : List (List Pt)) (k : Nat) : Bool := badPath (pp.getD k [])
theorem badAt_at {pp : List (List Pt)} {k : Nat} (h : k < pp.length) : badAt pp k = badPath pp[k] := by unfold badAt; simp [h]
theorem specPaths_eq (pp : List (List Pt)) (hb : pp.length ≤ 1048576) (hr : ∀ r ∈ pp, r.length ≤ 1048576) : m_spec_l07Paths pp = some (pathsB pp) := by
  unfold m_spec_l07Paths pathsB
  have hl := loop_any (step := m_spec_l07Paths_s1 pp) 0 pp.length (badAt pp) false (by omega) (by
    intro k _ hk _
    have hrk := hr _ (List.getElem_mem hk)
    unfold m_spec_l07Paths_s1
    simp only []
    rw [bif_t (by simpa using hk), geti_lt hk, badAt_at hk]
    simp only [bind_some']
    unfold badPath
    by_cases h : pp[k].length < 2
    · rw [bif_t (by simp; omega)]; simp [h]
    · rw [bif_f (by simp; omega), specPath_eq _ (by omega)]
      simp only [bind_some']
      cases hp : pathB pp[k] with
      | true => rw [bif_f (by simp), wr_in (by omega)]; simp [h]
      | false => rw [bif_t (by simp)]; simp) (by
    unfold m_spec_l07Paths_s1
    simp only []
    rw [bif_f (by simp)])
  rw [show ((0 : Nat) : Int) = 0 from rfl] at hl
  rw [hl, anyIn_any pp badPath (badAt pp) (fun k hk => badAt_at hk)]
  cases pp.any badPath with
  | true => simp
  | false => simp; omega
theorem implPaths_eq (pp : List (List Pt)) (hb : pp.length ≤ 1048576) (hr : ∀ r ∈ pp, r.length ≤ 1048576) : m_impl_pathsOk pp = some (pathsB pp) := by
  unfold m_impl_pathsOk pathsB m_slices_ContainsFunc_impl_Point_impl_Point_impl_pathsOk_1 m_slices_IndexFunc_impl_Point_impl_Point_impl_pathsOk_1
  by_cases h6 : pp.length ≤ 6
  · rw [bif_t (by simp; omega)]
    have hs : ∀ k, k < pp.length → m_slices_IndexFunc_impl_Point_impl_Point_impl_pathsOk_1_s1 pp (k : Int) = some (if badAt pp k then .out (.inr (k : Int)) else .next ((k + 1 : Nat) : Int)) := by
      intro k hk
      have hrk := hr _ (List.getElem_mem hk)
      unfold m_slices_IndexFunc_impl_Point_impl_Point_impl_pathsOk_1_s1 m_impl_pathsOk_1
      simp only []
      rw [bif_t (by simpa using hk), geti_lt hk, badAt_at hk]
      simp only [bind_some']
      unfold badPath
      by_cases h : pp[k].length < 2
      · rw [bif_t (by simp; omega)]; simp [h]
      · rw [bif_f (by simp; omega), implPath_eq _ (by omega)]
        simp only [bind_some']
        rw [wr_in (by omega)]
        cases hp : pathB pp[k] <;> simp [h]
    have hn : m_slices_IndexFunc_impl_Point_impl_Point_impl_pathsOk_1_s1 pp (pp.length : Int) = some (.out (.inl ())) := by
      unfold m_slices_IndexFunc_impl_Point_impl_Point_impl_pathsOk_1_s1
      simp only []
      rw [bif_f (by simp)]
    have ha := anyIn_any pp badPath (badAt pp) (fun k hk => badAt_at hk)
    rcases loop_find pp.length (badAt pp) (fun k => (k : Int)) hs hn with ⟨h1, h2⟩ | ⟨k, h1, h2, _, h3⟩
    · rw [h2, ← ha, h1]; simp [h6]
    · rw [h3, ← ha, anyIn_t.2 ⟨k, by omega, h1, h2⟩]; simp
  · rw [bif_f (by simp; omega)]; simp [h6]
def segRow (i k : Nat) : List Int := [(i : Int), (k : Int) - 1, (k : Int)]
def segIn (i n : Nat) : Nat → List (List Int)
  | 0 => []
  | k + 1 => segIn i n k ++ [segRow i (k + 1)]
def cLen (pp : List (List Pt)) (i : Nat) : Nat := (cornF (pp.getD i []) (pp.getD i []).length).length
def segF (pp : List (List Pt)) : Nat → List (List Int)
  | 0 => []
  | i + 1 => segF pp i ++ segIn i 0 (cLen pp i - 1)
theorem segIn_len (i n : Nat) : ∀ k, (segIn i n k).length = k
  | 0 => rfl
  | k + 1 => by simp [segIn, segIn_len i n k]
theorem cLen_le {pp : List (List Pt)} (hr : ∀ r ∈ pp, r.length ≤ 1048576) (i : Nat) (hi : i < pp.length) : cLen pp i ≤ 1048576 := by
  unfold cLen
  have e : pp.getD i [] = pp[i] := by simp [hi]
  rw [e]
  have := cornF_len pp[i] pp[i].length
  have := hr _ (List.getElem_mem hi)
  omega
theorem segF_len {pp : List (List Pt)} (hr : ∀ r ∈ pp, r.length ≤ 1048576) : ∀ i, i ≤ pp.length → (segF pp i).length ≤ 1048576 * i
  | 0, _ => by simp [segF]
  | i + 1, h => by
    have h1 := segF_len hr i (by omega)
    have h2 := cLen_le hr i (by omega)
    rw [segF, List.length_append, segIn_len]; omega
theorem specSegs_eq (pp : List (List Pt)) (hb : pp.length ≤ 6) (hr : ∀ r ∈ pp, r.length ≤ 1048576) : m_spec_l07Segments pp = some (segF pp pp.length) := by
  unfold m_spec_l07Segments
  have hl := loop_run (step := m_spec_l07Segments_s3 pp) pp.length (fun k => (segF pp k, (k : Int))) (r := segF pp pp.length) (by
    intro k hk
    have hrk := hr _ (List.getElem_mem hk)
    have hcl := cLen_le hr k hk
    have hsl := segF_len hr k (by omega)
    have ec : cornF pp[k] pp[k].length = cornF (pp.getD k []) (pp.getD k []).length := by simp [hk]
    unfold m_spec_l07Segments_s3
    simp only []
    rw [bif_t (by simpa using hk), geti_lt hk, wr_in (by omega)]
    simp only [bind_some']
    rw [specCorners_eq _ (by omega), ec]
    simp only [bind_some']
    have hlen : (cornF (pp.getD k []) (pp.getD k []).length).length = cLen pp k := rfl
    generalize cornF (pp.getD k []) (pp.getD k []).length = cs at hlen ⊢
    have hi := loop_run (step := m_spec_l07Segments_s4 (k : Int) cs) (cLen pp k - 1) (fun j => (segF pp k ++ segIn k 0 j, ((j + 1 : Nat) : Int))) (r := segF pp k ++ segIn k 0 (cLen pp k - 1)) (by
      intro j hj
      unfold m_spec_l07Segments_s4
      simp only []
      rw [bif_t (by simp; omega), wr_in (by omega), wr_in (by omega), apC_ok (by rw [List.length_append, segIn_len]; unfold lim; simp; omega)]
      simp only [bind_some', segIn, segRow, List.append_assoc]
      congr 2) (by
      unfold m_spec_l07Segments_s4
      simp only []
      rw [bif_f (by simp; omega)])
    rw [show (segF pp k ++ segIn k 0 0, ((0 + 1 : Nat) : Int)) = (segF pp k, 1) by simp [segIn]] at hi
    rw [hi]; rfl) (by
    unfold m_spec_l07Segments_s3
    simp only []
    rw [bif_f (by simp)])
  rw [show (segF pp 0, ((0 : Nat) : Int)) = (([] : List (List Int)), 0) from rfl] at hl
  rw [hl]; rfl
theorem implSegs_eq (pp : List (List Pt)) (hb : pp.length ≤ 6) (hr : ∀ r ∈ pp, r.length ≤ 1048576) : m_impl_segments pp = some (segF pp pp.length) := by
  unfold m_impl_segments
  have hl := loop_run (step := m_impl_segments_s3 pp) pp.length (fun k => (segF pp k, (k : Int))) (r := segF pp pp.length) (by
    intro k hk
    have hrk := hr _ (List.getElem_mem hk)
    have hcl := cLen_le hr k hk
    have hsl := segF_len hr k (by omega)
    have ec : cornF pp[k] pp[k].length = cornF (pp.getD k []) (pp.getD k []).length := by simp [hk]
    unfold m_impl_segments_s3
    simp only []
    rw [bif_t (by simpa using hk), geti_lt hk, wr_in (by omega)]
    simp only [bind_some']
    have hcs : m_impl_corners pp[k] = some (cornF (pp.getD k []) (pp.getD k []).length) := by rw [implCorners_eq _ (by omega), ec]
    have hlen : (cornF (pp.getD k []) (pp.getD k []).length).length = cLen pp k := rfl
    generalize cornF (pp.getD k []) (pp.getD k []).length = cs at hlen hcs
    have hi := loop_run (step := m_impl_segments_s4 (k : Int) pp[k]) (cLen pp k - 1) (fun j => (segF pp k ++ segIn k 0 j, ((j + 1 : Nat) : Int))) (r := segF pp k ++ segIn k 0 (cLen pp k - 1)) (by
      intro j hj
      unfold m_impl_segments_s4
      simp only []
      rw [hcs]
      simp only [bind_some']
      rw [bif_t (by simp; omega), wr_in (by omega), wr_in (by omega), apC_ok (by rw [List.length_append, segIn_len]; unfold lim; simp; omega)]
      simp only [bind_some', segIn, segRow, List.append_assoc]
      congr 2) (by
      unfold m_impl_segments_s4
      simp only []
      rw [hcs]
      simp only [bind_some']
      rw [bif_f (by simp; omega)])
    rw [show (segF pp k ++ segIn k 0 0, ((0 + 1 : Nat) : Int)) = (segF pp k, 1) by simp [segIn]] at hi
    rw [hi]; rfl) (by
    unfold m_impl_segments_s3
    simp only []
    rw [bif_f (by simp)])
  rw [show (segF pp 0, ((0 : Nat) : Int)) = (([] : List (List Int)), 0) from rfl] at hl
  rw [hl]; rfl
def segsV (pp : List (List Pt)) : List (List Int) × Bool := if pathsB pp then (segF pp pp.length, true) else ([], false)
theorem seg_rows (pp : List (List Pt)) : ∀ i, ∀ r ∈ segF pp i, r.length = 3
  | 0, r, h => by simp [segF] at h
  | i + 1, r, h => by
    rw [segF, List.mem_append] at h
    rcases h with h | h
    · exact seg_rows pp i r h
    · have key : ∀ k, ∀ r ∈ segIn i 0 k, r.length = 3 := by
        intro k
        induction k with
        | zero => intro r h; simp [segIn] at h
        | succ k ih =>
          intro r h
          rw [segIn, List.mem_append, List.mem_singleton] at h
          rcases h with h | rfl
          · exact ih r h
          · rfl
      exact key _ r h
theorem segF_576 {pp : List (List Pt)} (h : pathsB pp = true) : ∀ i, i ≤ pp.length → (segF pp i).length ≤ 576 * i
  | 0, _ => by simp [segF]
  | i + 1, hi => by
    have h1 := segF_576 h i (by omega)
    have h2 : cLen pp i ≤ 576 := by
      unfold cLen
      have e : pp.getD i [] = pp[i] := by simp [show i < pp.length by omega]
      rw [e]
      unfold pathsB at h
      rw [Bool.and_eq_true, Bool.not_eq_true', List.any_eq_false] at h
      have hp := h.2 pp[i] (List.getElem_mem _)
      unfold badPath at hp
      simp only [Bool.or_eq_true, decide_eq_true_eq, Bool.not_eq_true', not_or, Bool.not_eq_false] at hp
      have := pathB_len hp.2
      have := cornF_len pp[i] pp[i].length
      omega
    rw [segF, List.length_append, segIn_len]; omega
end Go.Proofs.Ytgaecldkiijmpaa
