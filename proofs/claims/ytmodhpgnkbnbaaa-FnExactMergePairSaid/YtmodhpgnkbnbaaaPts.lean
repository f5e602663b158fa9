/- Contracts of the small functions on numbers, points and regions. -/
import Derived.Test.YtmodhpgnkbnbaaaChecked
import Derived.Test.YtmodhpgnkbnbaaaBase
set_option linter.unusedSimpArgs false
set_option linter.unusedVariables false
namespace Go.Proofs.Ytmodhpgnkbnbaaa
open Go.RowKit

theorem in_any (n lo hi : Int) (w : World) :
    Calls Try.prog 79 #[.int .i64 n, .int .i64 lo, .int .i64 hi] w fun e w' => e = .returned (.bool (inB n lo hi)) ∧ w = w' := by
  go_enter Try.func79, Try.ntmps79
  go_wp2
  all_goals (go_ret; exact ⟨ret_bool (by unfold inB; simp; try omega), rfl⟩)

theorem l00In_any (n lo hi : Int) (w : World) :
    Calls Try.prog 88 #[.int .i64 n, .int .i64 lo, .int .i64 hi] w fun e w' => e = .returned (.bool (inB n lo hi)) ∧ w = w' := by
  go_enter Try.func88, Try.ntmps88
  go_wp2
  all_goals (go_ret; exact ⟨ret_bool (by unfold inB; simp; try omega), rfl⟩)

theorem l00Min_any (a b : Int) (w : World) :
    Calls Try.prog 104 #[.int .i64 a, .int .i64 b] w fun e w' => e = .returned (.int .i64 (min a b)) ∧ w = w' := by
  go_enter Try.func104, Try.ntmps104
  go_wp2
  all_goals (go_ret; exact ⟨ret_int (by omega), rfl⟩)

theorem l00Max_any (a b : Int) (w : World) :
    Calls Try.prog 105 #[.int .i64 a, .int .i64 b] w fun e w' => e = .returned (.int .i64 (max a b)) ∧ w = w' := by
  go_enter Try.func105, Try.ntmps105
  go_wp2
  all_goals (go_ret; exact ⟨ret_int (by omega), rfl⟩)

theorem size_any (n : Int) (w : World) :
    Calls Try.prog 123 #[.int .i64 n] w fun e w' => e = .returned (.int .i64 (absI n)) ∧ w = w' := by
  go_enter Try.func123, Try.ntmps123
  go_wp2
  all_goals (go_ret; exact ⟨ret_int (by unfold absI; omega), rfl⟩)

theorem l01Abs_any (n : Int) (w : World) :
    Calls Try.prog 122 #[.int .i64 n] w fun e w' => e = .returned (.int .i64 (absI n)) ∧ w = w' := by
  go_enter Try.func122, Try.ntmps122
  go_wp2_with (go_at_call 105; refine (l00Max_any _ _ _).mono ?_; rintro e w' ⟨rfl, rfl⟩)
  all_goals (go_ret; exact ⟨rfl, rfl⟩)

def endB (n : Int) : Bool := inB n (-1000000000) 1000000000
theorem l06End_any (n : Int) (w : World) :
    Calls Try.prog 121 #[.int .i64 n] w fun e w' => e = .returned (.bool (endB n)) ∧ w = w' := by
  go_enter Try.func121, Try.ntmps121
  go_wp2_with (go_at_call 88; refine (l00In_any _ _ _ _).mono ?_; rintro e w' ⟨rfl, rfl⟩)
  go_ret; exact ⟨rfl, rfl⟩

def isR (a b c d : Int) : Bool := endB a && endB b && endB c && endB d && decide (a ≤ b) && decide (c ≤ d)
theorem l06Is_any (a b c d : Int) (w : World) :
    Calls Try.prog 78 #[.agg #[.int .i64 a, .int .i64 b, .int .i64 c, .int .i64 d]] w fun e w' => e = .returned (.bool (isR a b c d)) ∧ Below w.heap.size w w' := by
  go_enter Try.func78, Try.ntmps78
  go_wp2_with (go_at_call 121; refine (l06End_any _ _).mono ?_; rintro e w' ⟨rfl, rfl⟩)
  all_goals (go_ret; exact ⟨ret_bool (by unfold isR; simp [*]; try omega), (by repeat' (first | (with_reducible exact Below.refl _ _) | (with_reducible assumption) | (with_reducible refine ext_alloc ?_ _) | (with_reducible refine ext_drew ?_) | (with_reducible refine ext_drewN ?_ _) | (with_reducible apply ext_trans; rotate_left; (with_reducible assumption)) | (with_reducible refine ext_set ?_ ?_ _) | (show _ ≤ _; simp; done) | (show _ ≤ _; simp; omega)))⟩)

theorem specValid_any (a b c d : Int) (w : World) :
    Calls Try.prog 21 #[.agg #[.int .i64 a, .int .i64 b, .int .i64 c, .int .i64 d]] w fun e w' => e = .returned (.bool (isR a b c d)) ∧ Below w.heap.size w w' := by
  go_enter Try.func21, Try.ntmps21
  go_wp2_with (go_at_call 78; refine (l06Is_any _ _ _ _ _).mono ?_; rintro e w' ⟨rfl, hb⟩)
  all_goals (go_ret; exact ⟨rfl, (by repeat' (first | (with_reducible exact Below.refl _ _) | (with_reducible assumption) | (with_reducible refine ext_alloc ?_ _) | (with_reducible refine ext_drew ?_) | (with_reducible refine ext_drewN ?_ _) | (with_reducible apply ext_trans; rotate_left; (with_reducible assumption)) | (with_reducible refine ext_set ?_ ?_ _) | (show _ ≤ _; simp; done) | (show _ ≤ _; simp; omega)))⟩)

theorem isR_iff (a b c d : Int) : isR a b c d = true ↔ (-1000000000 ≤ a ∧ a ≤ b ∧ b ≤ 1000000000 ∧ -1000000000 ≤ c ∧ c ≤ d ∧ d ≤ 1000000000) := by
  unfold isR endB inB; simp; omega

theorem valid_any (a b c d : Int) (w : World) :
    Calls Try.prog 23 #[.agg #[.int .i64 a, .int .i64 b, .int .i64 c, .int .i64 d]] w fun e w' => e = .returned (.bool (isR a b c d)) ∧ Below w.heap.size w w' := by
  go_enter Try.func23, Try.ntmps23
  go_wp2_with (go_at_call 79; refine (in_any _ _ _ _).mono ?_; rintro e w' ⟨rfl, rfl⟩)
  all_goals (go_ret; refine ⟨ret_bool ?_, (by repeat' (first | (with_reducible exact Below.refl _ _) | (with_reducible assumption) | (with_reducible refine ext_alloc ?_ _) | (with_reducible refine ext_drew ?_) | (with_reducible refine ext_drewN ?_ _) | (with_reducible apply ext_trans; rotate_left; (with_reducible assumption)) | (with_reducible refine ext_set ?_ ?_ _) | (show _ ≤ _; simp; done) | (show _ ≤ _; simp; omega)))⟩; rw [Bool.eq_iff_iff, isR_iff]; simp [inB] at *; omega)

theorem toRegion_any (a b c d : Int) (w : World) :
    Calls Try.prog 22 #[.agg #[.int .i64 a, .int .i64 b, .int .i64 c, .int .i64 d]] w fun e w' => e = .returned (.agg #[.int .i64 a, .int .i64 b, .int .i64 c, .int .i64 d]) ∧ Below w.heap.size w w' := by
  go_enter Try.func22, Try.ntmps22
  go_wp2
  go_returns
  exact ⟨rfl, (by repeat' (first | (with_reducible exact Below.refl _ _) | (with_reducible assumption) | (with_reducible refine ext_alloc ?_ _) | (with_reducible refine ext_drew ?_) | (with_reducible refine ext_drewN ?_ _) | (with_reducible apply ext_trans; rotate_left; (with_reducible assumption)) | (with_reducible refine ext_set ?_ ?_ _) | (show _ ≤ _; simp; done) | (show _ ≤ _; simp; omega)))⟩

theorem toPoint_any (a b : Int) (w : World) :
    Calls Try.prog 25 #[.agg #[.int .i64 a, .int .i64 b]] w fun e w' => e = .returned (.agg #[.int .i64 a, .int .i64 b]) ∧ Below w.heap.size w w' := by
  go_enter Try.func25, Try.ntmps25
  go_wp2
  go_returns
  exact ⟨rfl, (by repeat' (first | (with_reducible exact Below.refl _ _) | (with_reducible assumption) | (with_reducible refine ext_alloc ?_ _) | (with_reducible refine ext_drew ?_) | (with_reducible refine ext_drewN ?_ _) | (with_reducible apply ext_trans; rotate_left; (with_reducible assumption)) | (with_reducible refine ext_set ?_ ?_ _) | (show _ ≤ _; simp; done) | (show _ ≤ _; simp; omega)))⟩

theorem eqRegion_any (a b c d a' b' c' d' : Int) (w : World) :
    Calls Try.prog 31 #[.agg #[.int .i64 a, .int .i64 b, .int .i64 c, .int .i64 d], .agg #[.int .i64 a', .int .i64 b', .int .i64 c', .int .i64 d']] w fun e w' => e = .returned (.bool (decide (a = a' ∧ b = b' ∧ c = c' ∧ d = d'))) ∧ Below w.heap.size w w' := by
  go_enter Try.func31, Try.ntmps31
  go_wp2
  all_goals (go_ret; exact ⟨ret_bool (by rw [Bool.eq_iff_iff]; simp only [bne_iff_ne, ne_eq, bne_eq_false_iff_eq, beq_iff_eq, beq_eq_false_iff_ne, decide_eq_true_eq, Bool.false_eq_true, false_iff, true_iff, iff_false, iff_true] at *; omega), (by repeat' (first | (with_reducible exact Below.refl _ _) | (with_reducible assumption) | (with_reducible refine ext_alloc ?_ _) | (with_reducible refine ext_drew ?_) | (with_reducible refine ext_drewN ?_ _) | (with_reducible apply ext_trans; rotate_left; (with_reducible assumption)) | (with_reducible refine ext_set ?_ ?_ _) | (show _ ≤ _; simp; done) | (show _ ≤ _; simp; omega)))⟩)

def isP (x y : Int) : Bool := inB x 0 99 && inB y 0 99
theorem l01Point_any (x y : Int) (w : World) :
    Calls Try.prog 80 #[.agg #[.int .i64 x, .int .i64 y]] w fun e w' => e = .returned (.bool (isP x y)) ∧ Below w.heap.size w w' := by
  go_enter Try.func80, Try.ntmps80
  go_wp2_with (go_at_call 88; refine (l00In_any _ _ _ _).mono ?_; rintro e w' ⟨rfl, rfl⟩)
  all_goals (go_ret; exact ⟨ret_bool (by unfold isP; simp [*]), (by repeat' (first | (with_reducible exact Below.refl _ _) | (with_reducible assumption) | (with_reducible refine ext_alloc ?_ _) | (with_reducible refine ext_drew ?_) | (with_reducible refine ext_drewN ?_ _) | (with_reducible apply ext_trans; rotate_left; (with_reducible assumption)) | (with_reducible refine ext_set ?_ ?_ _) | (show _ ≤ _; simp; done) | (show _ ≤ _; simp; omega)))⟩)
theorem IsPoint_any (x y : Int) (w : World) :
    Calls Try.prog 82 #[.agg #[.int .i64 x, .int .i64 y]] w fun e w' => e = .returned (.bool (isP x y)) ∧ Below w.heap.size w w' := by
  go_enter Try.func82, Try.ntmps82
  go_wp2_with (go_at_call 79; refine (in_any _ _ _ _).mono ?_; rintro e w' ⟨rfl, rfl⟩)
  all_goals (go_ret; exact ⟨ret_bool (by unfold isP; simp [*]), (by repeat' (first | (with_reducible exact Below.refl _ _) | (with_reducible assumption) | (with_reducible refine ext_alloc ?_ _) | (with_reducible refine ext_drew ?_) | (with_reducible refine ext_drewN ?_ _) | (with_reducible apply ext_trans; rotate_left; (with_reducible assumption)) | (with_reducible refine ext_set ?_ ?_ _) | (show _ ≤ _; simp; done) | (show _ ≤ _; simp; omega)))⟩)
theorem isP_t {x y : Int} (h : isP x y = true) : 0 ≤ x ∧ x ≤ 99 ∧ 0 ≤ y ∧ y ≤ 99 := by
  unfold isP at h; simp only [Bool.and_eq_true] at h; have := inB_t h.1; have := inB_t h.2; omega

/-- The distance of two points, as both texts compute it. -/
def farI (x y x' y' : Int) : Int := wrap64 (absI (wrap64 (x - x')) + absI (wrap64 (y - y')))
theorem far_any (x y x' y' : Int) (w : World) :
    Calls Try.prog 83 #[.agg #[.int .i64 x, .int .i64 y], .agg #[.int .i64 x', .int .i64 y']] w fun e w' => e = .returned (.int .i64 (farI x y x' y')) ∧ Below w.heap.size w w' := by
  go_enter Try.func83, Try.ntmps83
  go_wp2
  (refine wp_region_grow (by kernel_rfl) (by kernel_rfl) (fun hgc => ?_); (repeat (go_big_quiet_step ((go_at_call 123; exact Calls.grow_of_same (size_any _ _))))); refine wpQuiet_nil ?_; clear hgc; intro w' hb; obtain ⟨hc, hf⟩ := bcell hb; have hz := hb.size; (try simp only [World.size_alloc, World.size_drew, World.size_setCell, size_drewN] at hz))
  go_wp2
  go_ret; exact ⟨rfl, (by repeat' (first | (with_reducible exact Below.refl _ _) | (with_reducible assumption) | (with_reducible refine ext_alloc ?_ _) | (with_reducible refine ext_drew ?_) | (with_reducible refine ext_drewN ?_ _) | (with_reducible apply ext_trans; rotate_left; (with_reducible assumption)) | (with_reducible refine ext_set ?_ ?_ _) | (show _ ≤ _; simp; done) | (show _ ≤ _; simp; omega)))⟩
theorem l01Far_any (x y x' y' : Int) (w : World) :
    Calls Try.prog 81 #[.agg #[.int .i64 x, .int .i64 y], .agg #[.int .i64 x', .int .i64 y']] w fun e w' => e = .returned (.int .i64 (farI x y x' y')) ∧ Below w.heap.size w w' := by
  go_enter Try.func81, Try.ntmps81
  go_wp2
  (refine wp_region_grow (by kernel_rfl) (by kernel_rfl) (fun hgc => ?_); (repeat (go_big_quiet_step ((go_at_call 122; exact Calls.grow_of_same (l01Abs_any _ _))))); refine wpQuiet_nil ?_; clear hgc; intro w' hb; obtain ⟨hc, hf⟩ := bcell hb; have hz := hb.size; (try simp only [World.size_alloc, World.size_drew, World.size_setCell, size_drewN] at hz))
  go_wp2
  go_ret; exact ⟨rfl, (by repeat' (first | (with_reducible exact Below.refl _ _) | (with_reducible assumption) | (with_reducible refine ext_alloc ?_ _) | (with_reducible refine ext_drew ?_) | (with_reducible refine ext_drewN ?_ _) | (with_reducible apply ext_trans; rotate_left; (with_reducible assumption)) | (with_reducible refine ext_set ?_ ?_ _) | (show _ ≤ _; simp; done) | (show _ ≤ _; simp; omega)))⟩

end Go.Proofs.Ytmodhpgnkbnbaaa
