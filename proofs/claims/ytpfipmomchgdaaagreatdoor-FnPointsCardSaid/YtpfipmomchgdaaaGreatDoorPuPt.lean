/- Points: what the small functions on them reckon; loops that look through a list. -/
import Derived.Test.YtpfipmomchgdaaaGreatDoorMod
import Derived.Test.YtpfipmomchgdaaaGreatDoorPur
set_option linter.unusedSimpArgs false
set_option linter.unusedVariables false
namespace Go.Proofs.YtpfipmomchgdaaaGreatDoor
open Go.RowKit

/-- A loop whose states are told one by one. -/
theorem loop_run {S R : Type} {step : S → Option (Ctl S R)} (n : Nat) (F : Nat → S) {r : R} (hs : ∀ k, k < n → step (F k) = some (.next (F (k + 1)))) (hn : step (F n) = some (.out r)) : loopM step (F 0) = some r :=
  loopM_val step n (fun k s => s = F k) rfl (fun k s hk h => by subst h; exact Or.inl ⟨_, hs k hk, rfl⟩) (fun s h => by subst h; exact hn)
/-- Is there a k from a on, below n, of this kind? -/
def anyIn (a n : Nat) (p : Nat → Bool) : Bool := (List.range' a (n - a)).any p
theorem anyIn_t {a n : Nat} {p : Nat → Bool} : anyIn a n p = true ↔ ∃ k, a ≤ k ∧ k < n ∧ p k = true := by
  unfold anyIn
  rw [List.any_eq_true]
  constructor
  · rintro ⟨k, hk, hp⟩
    rw [List.mem_range'_1] at hk
    exact ⟨k, hk.1, by omega, hp⟩
  · rintro ⟨k, h1, h2, hp⟩
    exact ⟨k, by rw [List.mem_range'_1]; omega, hp⟩
theorem anyIn_f {a n : Nat} {p : Nat → Bool} : anyIn a n p = false ↔ ∀ k, a ≤ k → k < n → p k = false := by
  constructor
  · intro h k h1 h2
    cases hp : p k with
    | false => rfl
    | true => rw [anyIn_t.2 ⟨k, h1, h2, hp⟩] at h; cases h
  · intro h
    cases hp : anyIn a n p with
    | false => rfl
    | true => obtain ⟨k, h1, h2, h3⟩ := anyIn_t.1 hp; rw [h k h1 h2] at h3; cases h3
/-- A loop that looks for a bad one. -/
theorem loop_any {R : Type} {step : Int → Option (Ctl Int (Sum Unit R))} (a n : Nat) (p : Nat → Bool) (v : R) (han : a ≤ n)
    (hs : ∀ k, a ≤ k → k < n → (∀ j, a ≤ j → j < k → p j = false) → step (k : Int) = some (if p k then .out (.inr v) else .next ((k + 1 : Nat) : Int))) (hn : step (n : Int) = some (.out (.inl ()))) :
    loopM step (a : Int) = some (if anyIn a n p then .inr v else .inl ()) := by
  refine loopM_val step (n - a) (fun k s => s = ((a + k : Nat) : Int) ∧ ∀ j, a ≤ j → j < a + k → p j = false) ⟨rfl, fun j _ _ => by omega⟩ ?_ ?_
  · rintro k _ hk ⟨rfl, hall⟩
    rw [hs (a + k) (by omega) (by omega) hall]
    cases hp : p (a + k) with
    | true => right; rw [if_pos rfl, anyIn_t.2 ⟨a + k, by omega, by omega, hp⟩]; rfl
    | false =>
      left
      refine ⟨((a + k + 1 : Nat) : Int), rfl, rfl, fun j h1 h2 => ?_⟩
      by_cases e : j = a + k
      · subst e; exact hp
      · exact hall j h1 (by omega)
  · rintro _ ⟨rfl, hall⟩
    rw [show a + (n - a) = n by omega] at hall ⊢
    rw [hn, anyIn_f.2 (fun k h1 h2 => hall k h1 h2)]; rfl
abbrev Pt := Int × Int
def okP (p : Pt) : Bool := decide (0 ≤ p.1) && decide (p.1 ≤ 99) && (decide (0 ≤ p.2) && decide (p.2 ≤ 99))
theorem okP_t {p : Pt} (h : okP p = true) : 0 ≤ p.1 ∧ p.1 ≤ 99 ∧ 0 ≤ p.2 ∧ p.2 ≤ 99 := by
  unfold okP at h; simp only [Bool.and_eq_true, decide_eq_true_eq] at h; omega
theorem in_eq' (n a b : Int) : m_impl_in n a b = some (decide (a ≤ n) && decide (n ≤ b)) := by
  unfold m_impl_in
  by_cases h : a ≤ n
  · rw [bif_t (by simpa using h)]; simp [h]
  · rw [bif_f (by simpa using h)]; simp [h]
theorem IsPoint_eq (x y : Int) : m_impl_IsPoint x y = some (okP (x, y)) := by
  unfold m_impl_IsPoint okP
  simp only [in_eq', bind_some']
  cases h : (decide (0 ≤ x) && decide (x ≤ 99)) <;> simp [h]
def dist (p q : Pt) : Int := max (p.1 - q.1) (q.1 - p.1) + max (p.2 - q.2) (q.2 - p.2)
theorem far_eq {p q : Pt} (hp : okP p = true) (hq : okP q = true) : m_impl_far p.1 p.2 q.1 q.2 = some (dist p q) := by
  have h1 := okP_t hp
  have h2 := okP_t hq
  unfold m_impl_far m_impl_size dist
  rw [wr_in (x := p.1 - q.1) (by omega), wr_in (x := p.2 - q.2) (by omega), wr_in (x := 0 - (p.1 - q.1)) (by omega), wr_in (x := 0 - (p.2 - q.2)) (by omega)]
  simp only [bind_some']
  rw [wr_in (by split <;> split <;> omega)]
  congr 1
  split <;> split <;> omega
theorem dist_comm (p q : Pt) : dist p q = dist q p := by unfold dist; omega
def okPs (ps : List Pt) : Bool := ps.all okP
theorem okPs_at {ps : List Pt} (h : okPs ps = true) {k : Nat} (hk : k < ps.length) : okP ps[k] = true := List.all_eq_true.1 h _ (List.getElem_mem hk)
theorem okPs_not {ps : List Pt} {k : Nat} (hk : k < ps.length) (h : okP ps[k] = false) : okPs ps = false := by
  unfold okPs; rw [List.all_eq_false]; exact ⟨ps[k], List.getElem_mem hk, by simp [h]⟩
theorem okPs_all {ps : List Pt} (h : ∀ j (hj : j < ps.length), okP ps[j] = true) : okPs ps = true := by
  unfold okPs; rw [List.all_eq_true]
  intro x hx
  obtain ⟨j, hj, rfl⟩ := List.mem_iff_getElem.1 hx
  exact h j hj
theorem IndexNo_eq (ps : List Pt) (hb : ps.length ≤ 140737488355328) : ∃ i : Int, m_slices_IndexFunc_impl_Point_impl_Point_impl_noPoint ps = some i ∧ decide (i ≥ 0) = !okPs ps := by
  unfold m_slices_IndexFunc_impl_Point_impl_Point_impl_noPoint
  obtain ⟨r, hr, hJ⟩ := loopM_count (m_slices_IndexFunc_impl_Point_impl_Point_impl_noPoint_s1 ps) ps.length (fun k s => s = (k : Int) ∧ ∀ j (hj : j < ps.length), j < k → okP ps[j] = true)
    (fun r => (r = Sum.inl () ∧ okPs ps = true) ∨ ∃ k : Nat, r = Sum.inr (k : Int) ∧ okPs ps = false) (s0 := 0) ⟨rfl, fun j _ h => by omega⟩ (by
    rintro k _ hk ⟨rfl, hall⟩
    unfold m_slices_IndexFunc_impl_Point_impl_Point_impl_noPoint_s1 m_impl_noPoint
    simp only []
    rw [bif_t (by simpa using hk), geti_lt hk]
    simp only [bind_some', IsPoint_eq]
    cases h : okP ps[k] with
    | true =>
      left
      refine ⟨_, bif_f (by simp [h]), ?_, fun j hj hjk => ?_⟩
      · rw [wr_in (by omega)]; omega
      · by_cases e : j = k
        · subst e; exact h
        · exact hall j hj (by omega)
    | false => right; exact ⟨_, bif_t (by simp [h]), Or.inr ⟨k, rfl, okPs_not hk h⟩⟩) (by
    rintro _ ⟨rfl, hall⟩
    unfold m_slices_IndexFunc_impl_Point_impl_Point_impl_noPoint_s1
    simp only []
    exact ⟨_, bif_f (by simp), Or.inl ⟨rfl, okPs_all (fun j hj => hall j hj hj)⟩⟩)
  rw [hr]
  rcases hJ with ⟨rfl, h⟩ | ⟨k, rfl, h⟩
  · exact ⟨-1, rfl, by simp [h]⟩
  · exact ⟨k, rfl, by simp [h]⟩
theorem ContNo_eq (ps : List Pt) (hb : ps.length ≤ 140737488355328) : m_slices_ContainsFunc_impl_Point_impl_Point_impl_noPoint ps = some (!okPs ps) := by
  unfold m_slices_ContainsFunc_impl_Point_impl_Point_impl_noPoint
  obtain ⟨i, hi, hd⟩ := IndexNo_eq ps hb
  rw [hi]
  simp only [bind_some', hd]
end Go.Proofs.YtpfipmomchgdaaaGreatDoor
