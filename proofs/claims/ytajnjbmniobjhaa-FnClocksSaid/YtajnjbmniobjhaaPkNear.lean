/- NearestPoint: what the reference and the program reckon is the same. -/
import Derived.Test.YtajnjbmniobjhaaMod
import Derived.Test.YtajnjbmniobjhaaPur
set_option linter.unusedSimpArgs false
set_option linter.unusedVariables false
namespace Go.Proofs.Ytajnjbmniobjhaa
open Go.RowKit

abbrev Pt := Int × Int
def okP (p : Pt) : Bool := decide (0 ≤ p.1) && decide (p.1 ≤ 99) && (decide (0 ≤ p.2) && decide (p.2 ≤ 99))
theorem okP_t {p : Pt} (h : okP p = true) : 0 ≤ p.1 ∧ p.1 ≤ 99 ∧ 0 ≤ p.2 ∧ p.2 ≤ 99 := by
  unfold okP at h; simp only [Bool.and_eq_true, decide_eq_true_eq] at h; omega
theorem in_eq' (n a b : Int) : m_impl_in n a b = some (decide (a ≤ n) && decide (n ≤ b)) := by
  unfold m_impl_in
  by_cases h : a ≤ n
  · rw [bif_t (by simpa using h)]; simp [h]
  · rw [bif_f (by simpa using h)]; simp [h]
theorem IsPoint_eq (x y : Int) : m_impl_IsPoint x y = some (okP (x, y)) := by
  unfold m_impl_IsPoint okP
  simp only [in_eq', bind_some']
  cases h : (decide (0 ≤ x) && decide (x ≤ 99)) <;> simp [h]
def dist (p q : Pt) : Int := max (p.1 - q.1) (q.1 - p.1) + max (p.2 - q.2) (q.2 - p.2)
theorem dist_comm (p q : Pt) : dist p q = dist q p := by unfold dist; omega
def okPs (ps : List Pt) : Bool := ps.all okP
theorem okPs_at {ps : List Pt} (h : okPs ps = true) {k : Nat} (hk : k < ps.length) : okP ps[k] = true := List.all_eq_true.1 h _ (List.getElem_mem hk)
theorem okPs_not {ps : List Pt} {k : Nat} (hk : k < ps.length) (h : okP ps[k] = false) : okPs ps = false := by
  unfold okPs; rw [List.all_eq_false]; exact ⟨ps[k], List.getElem_mem hk, by simp [h]⟩
theorem okPs_all {ps : List Pt} (h : ∀ j (hj : j < ps.length), okP ps[j] = true) : okPs ps = true := by
  unfold okPs; rw [List.all_eq_true]
  intro x hx
  obtain ⟨j, hj, rfl⟩ := List.mem_iff_getElem.1 hx
  exact h j hj
theorem IndexNo_eq (ps : List Pt) (hb : ps.length ≤ 140737488355328) : ∃ i : Int, m_slices_IndexFunc_impl_Point_impl_Point_impl_noPoint ps = some i ∧ decide (i ≥ 0) = !okPs ps := by
  unfold m_slices_IndexFunc_impl_Point_impl_Point_impl_noPoint
  obtain ⟨r, hr, hJ⟩ := loopM_count (m_slices_IndexFunc_impl_Point_impl_Point_impl_noPoint_s1 ps) ps.length (fun k s => s = (k : Int) ∧ ∀ j (hj : j < ps.length), j < k → okP ps[j] = true)
    (fun r => (r = Sum.inl () ∧ okPs ps = true) ∨ ∃ k : Nat, r = Sum.inr (k : Int) ∧ okPs ps = false) (s0 := 0) ⟨rfl, fun j _ h => by omega⟩ (by
    rintro k _ hk ⟨rfl, hall⟩
    unfold m_slices_IndexFunc_impl_Point_impl_Point_impl_noPoint_s1 m_impl_noPoint
    simp only []
    rw [bif_t (by simpa using hk), geti_lt hk]
    simp only [bind_some', IsPoint_eq]
    cases h : okP ps[k] with
    | true =>
      left
      refine ⟨_, bif_f (by simp [h]), ?_, fun j hj hjk => ?_⟩
      · rw [wr_in (by omega)]; omega
      · by_cases e : j = k
        · subst e; exact h
        · exact hall j hj (by omega)
    | false => right; exact ⟨_, bif_t (by simp [h]), Or.inr ⟨k, rfl, okPs_not hk h⟩⟩) (by
    rintro _ ⟨rfl, hall⟩
    unfold m_slices_IndexFunc_impl_Point_impl_Point_impl_noPoint_s1
    simp only []
    exact ⟨_, bif_f (by simp), Or.inl ⟨rfl, okPs_all (fun j hj => hall j hj hj)⟩⟩)
  rw [hr]
  rcases hJ with ⟨rfl, h⟩ | ⟨k, rfl, h⟩
  · exact ⟨-1, rfl, by simp [h]⟩
  · exact ⟨k, rfl, by simp [h]⟩
/-- The index of the first of the nearest among the first k. -/
def nearI (f : Nat → Int) : Nat → Nat
  | 0 => 0
  | k + 1 => if f k < f (nearI f k) then k else nearI f k
theorem nearI_lt (f : Nat → Int) : ∀ k, nearI f k = 0 ∨ nearI f k < k
  | 0 => Or.inl rfl
  | k + 1 => by
    have := nearI_lt f k
    rw [nearI]; split
    · right; omega
    · rcases this with h | h
      · left; exact h
      · right; omega
def disto (ps : List Pt) (p : Pt) (i : Nat) : Int := dist (ps.getD i (0, 0)) p
theorem disto_at {ps : List Pt} {p : Pt} {i : Nat} (h : i < ps.length) : disto ps p i = dist ps[i] p := by unfold disto; simp [h]
def nearOk (ps : List Pt) (p : Pt) : Bool := okPs ps && decide (ps.length ≤ 24) && decide (ps.length ≠ 0) && okP p
def nearV (ps : List Pt) (p : Pt) : Int × Bool := if nearOk ps p then ((nearI (disto ps p) ps.length : Nat), true) else (0, false)
end Go.Proofs.Ytajnjbmniobjhaa
