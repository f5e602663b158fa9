/- How points and rows are ordered: what the comparisons reckon. -/
import Derived.Test.YtpfipmomchgdaaaGreatDoorMod
import Derived.Test.YtpfipmomchgdaaaGreatDoorSrt
import Derived.Test.YtpfipmomchgdaaaGreatDoorPur
set_option linter.unusedSimpArgs false
set_option linter.unusedVariables false
namespace Go.Proofs.YtpfipmomchgdaaaGreatDoor
open Go.Sort Go.Shelf

def cmpI (x y : Int) : Int := if x < y then -1 else if x > y then 1 else 0
theorem cmp_val (x y : Int) : m_cmp_Compare_int64 x y = some (cmpI x y) := by
  unfold m_cmp_Compare_int64 m_cmp_isNaN_int64 cmpI
  simp only [Option.bind_some, bne_self_eq_false, cond_false]
  by_cases h : x < y
  · simp [h]
  · by_cases h2 : x > y
    · simp [h, h2]
    · simp [h, h2]
theorem or_val (a b : Int) : m_cmp_Or_int [a, b] = some (if a ≠ 0 then a else b) := by
  unfold m_cmp_Or_int
  have s0 : m_cmp_Or_int_s1 [a, b] 0 = if a ≠ 0 then some (Ctl.out (Sum.inr a)) else some (Ctl.next 1) := by
    by_cases h : a = 0
    · simp [m_cmp_Or_int_s1, geti, h, wr_in]
    · have hb : (a != 0) = true := by simpa using h
      simp [m_cmp_Or_int_s1, geti, h, hb, wr_in]
  have s1 : m_cmp_Or_int_s1 [a, b] 1 = if b ≠ 0 then some (Ctl.out (Sum.inr b)) else some (Ctl.next 2) := by
    by_cases h : b = 0
    · simp [m_cmp_Or_int_s1, geti, h, wr_in]
    · have hb : (b != 0) = true := by simpa using h
      simp [m_cmp_Or_int_s1, geti, h, hb, wr_in]
  have s2 : m_cmp_Or_int_s1 [a, b] 2 = some (Ctl.out (Sum.inl ())) := by simp [m_cmp_Or_int_s1]
  by_cases h : a = 0
  · rw [if_neg (by simpa using h)] at s0
    rw [loopM_next s0]
    by_cases h2 : b = 0
    · rw [if_neg (by simpa using h2)] at s1
      rw [loopM_next s1, loopM_out s2]
      simp [h, h2]
    · rw [if_pos h2] at s1
      rw [loopM_out s1]
      simp [h]
  · rw [if_pos h] at s0
    rw [loopM_out s0]
    simp [h]
def cmpPt (x y : Int × Int) : Int := if cmpI x.1 y.1 ≠ 0 then cmpI x.1 y.1 else cmpI x.2 y.2
theorem pointOrder_val (x y : Int × Int) : m_impl_pointOrder x.1 x.2 y.1 y.2 = some (cmpPt x y) := by
  unfold m_impl_pointOrder cmpPt
  simp only [cmp_val, Option.bind_some, or_val]
theorem ltPt (x y : Int × Int) : ltOf cmpPt x y = decide (x.1 < y.1 ∨ x.1 = y.1 ∧ x.2 < y.2) := by
  unfold ltOf cmpPt cmpI
  rcases Int.lt_trichotomy x.1 y.1 with h | h | h
  · simp [h]
  · rcases Int.lt_trichotomy x.2 y.2 with h2 | h2 | h2
    · simp [h, h2]
    · simp [h, h2]
    · have : ¬ x.2 < y.2 := by omega
      simp [h, h2, this]
  · have h1 : ¬ x.1 < y.1 := by omega
    have h2 : ¬ x.1 = y.1 := by omega
    simp [h, h1, h2]
theorem swoPt : SWO (ltOf cmpPt) where
  irrefl x := by rw [ltPt]; simp
  trans x y z h1 h2 := by rw [ltPt] at *; simp only [decide_eq_true_eq] at *; omega
  ntrans x y z h1 h2 := by rw [ltPt] at *; simp only [decide_eq_false_iff_not] at *; omega
theorem totPt (x y : Int × Int) (h1 : ltOf cmpPt x y = false) (h2 : ltOf cmpPt y x = false) : x = y := by
  rw [ltPt] at *; simp only [decide_eq_false_iff_not] at *
  exact Prod.ext (by omega) (by omega)
theorem lePt_eq : (fun x y => !(ltOf cmpPt) y x) = lePt := by
  funext x y
  rw [ltPt]; unfold lePt
  by_cases h : y.1 < x.1 ∨ y.1 = x.1 ∧ y.2 < x.2
  · have : ¬ (x.1 < y.1 ∨ x.1 = y.1 ∧ x.2 ≤ y.2) := by omega
    simp only [h, this, decide_true, decide_false, Bool.not_true]
  · have : (x.1 < y.1 ∨ x.1 = y.1 ∧ x.2 ≤ y.2) := by omega
    simp only [h, this, decide_true, decide_false, Bool.not_false]
end Go.Proofs.YtpfipmomchgdaaaGreatDoor
