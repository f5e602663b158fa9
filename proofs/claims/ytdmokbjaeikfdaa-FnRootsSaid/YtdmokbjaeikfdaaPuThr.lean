/- The path through corners. -/
import Derived.Test.YtdmokbjaeikfdaaPuP0
set_option linter.unusedSimpArgs false
set_option linter.unusedVariables false
namespace Go.Proofs.Ytdmokbjaeikfdaa
open Go.RowKit

def sgn (x : Int) : Int := if x < 0 then -1 else if x > 0 then 1 else 0
theorem side_eq (x : Int) : m_impl_side x = some (sgn x) := by
  unfold m_impl_side m_cmp_Compare_int64 m_cmp_isNaN_int64 sgn
  simp only [Option.bind_some, bne_self_eq_false, cond_false]
  by_cases h : x < 0
  · simp [h]
  · by_cases h2 : x > 0
    · simp [h, h2]
    · simp [h, h2]
theorem sign_eq (x : Int) : m_spec_l01Sign x = some (sgn x) := by
  unfold m_spec_l01Sign sgn
  by_cases h : x < 0
  · simp [h]
  · by_cases h2 : x > 0
    · simp [h, h2]
    · simp [h, h2]
def stp (q p : Pt) : Pt := (p.1 + sgn (q.1 - p.1), p.2 + sgn (q.2 - p.2))
def it (q p : Pt) : Nat → Pt
  | 0 => p
  | k + 1 => stp q (it q p k)
def lnF (q p : Pt) (k : Nat) : List Pt := (List.range k).map fun j => it q p (j + 1)
def Al (p q : Pt) : Prop := p.1 = q.1 ∨ p.2 = q.2
theorem lnF_len (q p : Pt) (k : Nat) : (lnF q p k).length = k := by simp [lnF]
theorem lnF_succ (q p : Pt) (k : Nat) : lnF q p (k + 1) = lnF q p k ++ [it q p (k + 1)] := by unfold lnF; rw [List.range_succ, List.map_append]; rfl
theorem lnF_take (q p : Pt) (k m : Nat) : (lnF q p k).take m = lnF q p (min m k) := by unfold lnF; rw [← List.map_take, List.take_range]
theorem stp_ok {p q : Pt} (hp : okP p = true) (hq : okP q = true) (ha : Al p q) (hne : p ≠ q) : okP (stp q p) = true ∧ Al (stp q p) q ∧ dist (stp q p) q = dist p q - 1 := by
  have h1 := okP_t hp
  have h2 := okP_t hq
  have hn : ¬ (p.1 = q.1 ∧ p.2 = q.2) := fun h => hne (Prod.ext h.1 h.2)
  unfold Al at ha ⊢
  unfold stp sgn dist
  refine ⟨?_, ?_, ?_⟩
  · unfold okP
    simp only [Bool.and_eq_true, decide_eq_true_eq]
    split <;> split <;> (try split) <;> (try split) <;> omega
  · simp only []
    rcases ha with ha | ha
    · left; rw [ha]; simp
    · right; rw [ha]; simp
  · simp only []
    split <;> split <;> (try split) <;> (try split) <;> omega
theorem dist_0 {p q : Pt} (h : dist p q = 0) : p = q := by
  unfold dist at h
  exact Prod.ext (by omega) (by omega)
def dN (p q : Pt) : Nat := (dist p q).toNat
theorem dist_self (p : Pt) : dist p p = 0 := by unfold dist; omega
theorem it_ok {p q : Pt} (hp : okP p = true) (hq : okP q = true) (ha : Al p q) : ∀ k, k ≤ dN p q → okP (it q p k) = true ∧ Al (it q p k) q ∧ dist (it q p k) q = dist p q - k
  | 0, _ => ⟨hp, ha, by show dist p q = _; omega⟩
  | k + 1, hk => by
    obtain ⟨h1, h2, h3⟩ := it_ok hp hq ha k (by omega)
    have hd := (dist_b hp hq).1
    unfold dN at hk
    have hne : it q p k ≠ q := fun e => by rw [e, dist_self] at h3; omega
    obtain ⟨g1, g2, g3⟩ := stp_ok h1 hq h2 hne
    exact ⟨g1, g2, by show dist (stp q (it q p k)) q = _; rw [g3, h3]; omega⟩
theorem it_end {p q : Pt} (hp : okP p = true) (hq : okP q = true) (ha : Al p q) : it q p (dN p q) = q := by
  have h := (it_ok hp hq ha (dN p q) (Nat.le_refl _)).2.2
  have hd := (dist_b hp hq).1
  refine dist_0 ?_
  unfold dN at h ⊢
  omega
theorem it_ne {p q : Pt} (hp : okP p = true) (hq : okP q = true) (ha : Al p q) {k : Nat} (hk : k < dN p q) : it q p k ≠ q := fun e => by
  have h := (it_ok hp hq ha k (by omega)).2.2
  have hd := (dist_b hp hq).1
  rw [e, dist_self] at h
  unfold dN at hk
  omega
theorem dN_le {p q : Pt} (hp : okP p = true) (hq : okP q = true) : dN p q ≤ 198 := by have := dist_b hp hq; unfold dN; omega
theorem stp_wr {p q : Pt} (hp : okP p = true) (hq : okP q = true) : wr (q.1 - p.1) = q.1 - p.1 ∧ wr (q.2 - p.2) = q.2 - p.2 ∧ wr (p.1 + sgn (q.1 - p.1)) = (stp q p).1 ∧ wr (p.2 + sgn (q.2 - p.2)) = (stp q p).2 := by
  have h1 := okP_t hp
  have h2 := okP_t hq
  have hs : ∀ x, -1 ≤ sgn x ∧ sgn x ≤ 1 := fun x => by unfold sgn; split <;> (try split) <;> omega
  have a := hs (q.1 - p.1)
  have b := hs (q.2 - p.2)
  exact ⟨wr_in (by omega), wr_in (by omega), wr_in (by omega), wr_in (by omega)⟩
theorem line_eq {p q : Pt} (hp : okP p = true) (hq : okP q = true) (ha : Al p q) : m_impl_line p.1 p.2 q.1 q.2 = some (lnF q p (dN p q)) := by
  unfold m_impl_line
  have := loop_run (step := m_impl_line_s1 q.1 q.2) (dN p q) (fun k => (lnF q p k, (it q p k).1, (it q p k).2)) (r := lnF q p (dN p q)) (by
    intro k hk
    have hne := it_ne hp hq ha hk
    obtain ⟨o1, _⟩ := it_ok hp hq ha k (by omega)
    have hl := dN_le hp hq
    obtain ⟨w1, w2, w3, w4⟩ := stp_wr o1 hq
    unfold m_impl_line_s1
    simp only []
    rw [eqb (it q p k) q, bif_t (by simp [hne]), w1, w2, side_eq, side_eq]
    simp only [bind_some']
    rw [w3, w4, apC_ok (by unfold lim; simp [lnF_len]; omega), lnF_succ]
    rfl) (by
    unfold m_impl_line_s1
    simp only []
    rw [eqb (it q p (dN p q)) q, it_end hp hq ha, bif_f (by simp)])
  have e0 : (([] : List (Int × Int)), p.1, p.2) = (lnF q p 0, (it q p 0).1, (it q p 0).2) := rfl
  rw [e0, this]
  rfl
end Go.Proofs.Ytdmokbjaeikfdaa
