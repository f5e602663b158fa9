/- Contracts of the exported functions on points and regions, by both texts. -/
import Derived.Test.YtmodhpgnkbnbaaaPts
import Derived.Test.YtmodhpgnkbnbaaaGrow
set_option linter.unusedSimpArgs false
set_option linter.unusedVariables false
namespace Go.Proofs.Ytmodhpgnkbnbaaa
open Go.RowKit

theorem ret_bi {a b : Int} {p q : Bool} (h : a = b) (k : p = q) : Ending.returned (.tuple #[.int .i64 a, .bool p]) = .returned (.tuple #[.int .i64 b, .bool q]) := by rw [h, k]
theorem ret_rb {a b c d a' b' c' d' : Int} {p q : Bool} (h : a = a' ∧ b = b' ∧ c = c' ∧ d = d' ∧ p = q) :
    Ending.returned (.tuple #[.agg #[.int .i64 a, .int .i64 b, .int .i64 c, .int .i64 d], .bool p]) = .returned (.tuple #[.agg #[.int .i64 a', .int .i64 b', .int .i64 c', .int .i64 d'], .bool q]) := by
  obtain ⟨rfl, rfl, rfl, rfl, rfl⟩ := h; rfl

def distB (x y x' y' : Int) : Bool := isP x y && isP x' y'
def distI (x y x' y' : Int) : Int := if distB x y x' y' = true then farI x y x' y' else 0
theorem specDist_any (x y x' y' : Int) (w : World) :
    Calls Try.prog 24 #[.agg #[.int .i64 x, .int .i64 y], .agg #[.int .i64 x', .int .i64 y']] w fun e w' => e = .returned (.tuple #[.int .i64 (distI x y x' y'), .bool (distB x y x' y')]) ∧ Below w.heap.size w w' := by
  go_enter Try.func24, Try.ntmps24
  go_wp2_with (first
    | (go_at_call 80; refine (l01Point_any _ _ _).mono ?_; rintro e w' ⟨rfl, hb⟩; obtain ⟨hc, hf⟩ := bcell hb; have hz := hb.size; (try simp only [World.size_alloc, World.size_drew, World.size_setCell, size_drewN] at hz))
    | (go_at_call 81; refine (l01Far_any _ _ _ _ _).mono ?_; rintro e w' ⟨rfl, hb⟩; obtain ⟨hc, hf⟩ := bcell hb; have hz := hb.size; (try simp only [World.size_alloc, World.size_drew, World.size_setCell, size_drewN] at hz)))
  all_goals (go_returns; exact ⟨ret_bi (by ((try simp only [Bool.not_eq_true', Bool.not_eq_false', Bool.not_eq_true] at *); simp [distI, distB, *])) (by ((try simp only [Bool.not_eq_true', Bool.not_eq_false', Bool.not_eq_true] at *); simp [distB, *])), (by repeat' (first | (with_reducible exact Below.refl _ _) | (with_reducible assumption) | (with_reducible refine ext_alloc ?_ _) | (with_reducible refine ext_drew ?_) | (with_reducible refine ext_drewN ?_ _) | (with_reducible apply ext_trans; rotate_left; (with_reducible assumption)) | (with_reducible refine ext_set ?_ ?_ _) | (show _ ≤ _; simp; done) | (show _ ≤ _; simp; omega)))⟩)

theorem dist_any (x y x' y' : Int) (w : World) :
    Calls Try.prog 26 #[.agg #[.int .i64 x, .int .i64 y], .agg #[.int .i64 x', .int .i64 y']] w fun e w' => e = .returned (.tuple #[.int .i64 (distI x y x' y'), .bool (distB x y x' y')]) ∧ Below w.heap.size w w' := by
  go_enter Try.func26, Try.ntmps26
  go_wp2_with (first
    | (go_at_call 82; refine (IsPoint_any _ _ _).mono ?_; rintro e w' ⟨rfl, hb⟩; obtain ⟨hc, hf⟩ := bcell hb; have hz := hb.size; (try simp only [World.size_alloc, World.size_drew, World.size_setCell, size_drewN] at hz))
    | (go_at_call 83; refine (far_any _ _ _ _ _).mono ?_; rintro e w' ⟨rfl, hb⟩; obtain ⟨hc, hf⟩ := bcell hb; have hz := hb.size; (try simp only [World.size_alloc, World.size_drew, World.size_setCell, size_drewN] at hz)))
  all_goals (go_returns; exact ⟨ret_bi (by ((try simp only [Bool.not_eq_true', Bool.not_eq_false', Bool.not_eq_true] at *); simp [distI, distB, *])) (by ((try simp only [Bool.not_eq_true', Bool.not_eq_false', Bool.not_eq_true] at *); simp [distB, *])), (by repeat' (first | (with_reducible exact Below.refl _ _) | (with_reducible assumption) | (with_reducible refine ext_alloc ?_ _) | (with_reducible refine ext_drew ?_) | (with_reducible refine ext_drewN ?_ _) | (with_reducible apply ext_trans; rotate_left; (with_reducible assumption)) | (with_reducible refine ext_set ?_ ?_ _) | (show _ ≤ _; simp; done) | (show _ ≤ _; simp; omega)))⟩)

/-- How far two regions are apart, as both texts compute it. -/
def farR (a b c d a' b' c' d' : Int) : Int := max 0 (max (max (wrap64 (a - b')) (wrap64 (a' - b))) (max (wrap64 (c - d')) (wrap64 (c' - d))))
theorem l06Far_any (a b c d a' b' c' d' : Int) (w : World) :
    Calls Try.prog 84 #[.agg #[.int .i64 a, .int .i64 b, .int .i64 c, .int .i64 d], .agg #[.int .i64 a', .int .i64 b', .int .i64 c', .int .i64 d']] w fun e w' => e = .returned (.int .i64 (farR a b c d a' b' c' d')) ∧ Below w.heap.size w w' := by
  go_enter Try.func84, Try.ntmps84
  go_wp2_with (first | (go_at_call 105; refine (l00Max_any _ _ _).mono ?_; rintro e w' ⟨rfl, rfl⟩) | go_quiet ((go_at_call 105; exact Calls.still (l00Max_any _ _ _))))
  all_goals (go_ret; exact ⟨ret_int (by unfold farR; omega), (by repeat' (first | (with_reducible exact Below.refl _ _) | (with_reducible assumption) | (with_reducible refine ext_alloc ?_ _) | (with_reducible refine ext_drew ?_) | (with_reducible refine ext_drewN ?_ _) | (with_reducible apply ext_trans; rotate_left; (with_reducible assumption)) | (with_reducible refine ext_set ?_ ?_ _) | (show _ ≤ _; simp; done) | (show _ ≤ _; simp; omega)))⟩)
theorem farR_any (a b c d a' b' c' d' : Int) (w : World) :
    Calls Try.prog 85 #[.agg #[.int .i64 a, .int .i64 b, .int .i64 c, .int .i64 d], .agg #[.int .i64 a', .int .i64 b', .int .i64 c', .int .i64 d']] w fun e w' => e = .returned (.int .i64 (farR a b c d a' b' c' d')) ∧ Below w.heap.size w w' := by
  go_enter Try.func85, Try.ntmps85
  go_wp2_with (go_quiet (fail))
  all_goals (go_ret; exact ⟨ret_int (by unfold farR; omega), (by repeat' (first | (with_reducible exact Below.refl _ _) | (with_reducible assumption) | (with_reducible refine ext_alloc ?_ _) | (with_reducible refine ext_drew ?_) | (with_reducible refine ext_drewN ?_ _) | (with_reducible apply ext_trans; rotate_left; (with_reducible assumption)) | (with_reducible refine ext_set ?_ ?_ _) | (show _ ≤ _; simp; done) | (show _ ≤ _; simp; omega)))⟩)

theorem l06Leaf_any (x y : Int) (w : World) :
    Calls Try.prog 86 #[.agg #[.int .i64 x, .int .i64 y]] w fun e w' => e = .returned (.agg #[.int .i64 (wrap64 (wrap64 (x + y) * 4096)), .int .i64 (wrap64 (wrap64 (x + y) * 4096)), .int .i64 (wrap64 (wrap64 (x - y) * 4096)), .int .i64 (wrap64 (wrap64 (x - y) * 4096))]) ∧ Below w.heap.size w w' := by
  go_enter Try.func86, Try.ntmps86
  go_wp2_with (go_quiet (fail))
  all_goals (go_returns; exact ⟨rfl, (by repeat' (first | (with_reducible exact Below.refl _ _) | (with_reducible assumption) | (with_reducible refine ext_alloc ?_ _) | (with_reducible refine ext_drew ?_) | (with_reducible refine ext_drewN ?_ _) | (with_reducible apply ext_trans; rotate_left; (with_reducible assumption)) | (with_reducible refine ext_set ?_ ?_ _) | (show _ ≤ _; simp; done) | (show _ ≤ _; simp; omega)))⟩)
theorem leaf_any (x y : Int) (w : World) :
    Calls Try.prog 87 #[.agg #[.int .i64 x, .int .i64 y]] w fun e w' => e = .returned (.agg #[.int .i64 (wrap64 (wrap64 (x + y) * 4096)), .int .i64 (wrap64 (wrap64 (x + y) * 4096)), .int .i64 (wrap64 (wrap64 (x - y) * 4096)), .int .i64 (wrap64 (wrap64 (x - y) * 4096))]) ∧ Below w.heap.size w w' := by
  go_enter Try.func87, Try.ntmps87
  go_wp2_with (go_quiet (fail))
  all_goals (go_returns; exact ⟨rfl, (by repeat' (first | (with_reducible exact Below.refl _ _) | (with_reducible assumption) | (with_reducible refine ext_alloc ?_ _) | (with_reducible refine ext_drew ?_) | (with_reducible refine ext_drewN ?_ _) | (with_reducible apply ext_trans; rotate_left; (with_reducible assumption)) | (with_reducible refine ext_set ?_ ?_ _) | (show _ ≤ _; simp; done) | (show _ ≤ _; simp; omega)))⟩)
theorem l06Grow_any (a b c d by_ : Int) (w : World) :
    Calls Try.prog 89 #[.agg #[.int .i64 a, .int .i64 b, .int .i64 c, .int .i64 d], .int .i64 by_] w fun e w' => e = .returned (.agg #[.int .i64 (wrap64 (a - by_)), .int .i64 (wrap64 (b + by_)), .int .i64 (wrap64 (c - by_)), .int .i64 (wrap64 (d + by_))]) ∧ Below w.heap.size w w' := by
  go_enter Try.func89, Try.ntmps89
  go_wp2_with (go_quiet (fail))
  all_goals (go_returns; exact ⟨rfl, (by repeat' (first | (with_reducible exact Below.refl _ _) | (with_reducible assumption) | (with_reducible refine ext_alloc ?_ _) | (with_reducible refine ext_drew ?_) | (with_reducible refine ext_drewN ?_ _) | (with_reducible apply ext_trans; rotate_left; (with_reducible assumption)) | (with_reducible refine ext_set ?_ ?_ _) | (show _ ≤ _; simp; done) | (show _ ≤ _; simp; omega)))⟩)
theorem grown_any (a b c d by_ : Int) (w : World) :
    Calls Try.prog 90 #[.agg #[.int .i64 a, .int .i64 b, .int .i64 c, .int .i64 d], .int .i64 by_] w fun e w' => e = .returned (.agg #[.int .i64 (wrap64 (a - by_)), .int .i64 (wrap64 (b + by_)), .int .i64 (wrap64 (c - by_)), .int .i64 (wrap64 (d + by_))]) ∧ Below w.heap.size w w' := by
  go_enter Try.func90, Try.ntmps90
  go_wp2_with (go_quiet (fail))
  all_goals (go_returns; exact ⟨rfl, (by repeat' (first | (with_reducible exact Below.refl _ _) | (with_reducible assumption) | (with_reducible refine ext_alloc ?_ _) | (with_reducible refine ext_drew ?_) | (with_reducible refine ext_drewN ?_ _) | (with_reducible apply ext_trans; rotate_left; (with_reducible assumption)) | (with_reducible refine ext_set ?_ ?_ _) | (show _ ≤ _; simp; done) | (show _ ≤ _; simp; omega)))⟩)
theorem l06Meet_any (a b c d a' b' c' d' : Int) (w : World) :
    Calls Try.prog 91 #[.agg #[.int .i64 a, .int .i64 b, .int .i64 c, .int .i64 d], .agg #[.int .i64 a', .int .i64 b', .int .i64 c', .int .i64 d']] w fun e w' => e = .returned (.agg #[.int .i64 (max a a'), .int .i64 (min b b'), .int .i64 (max c c'), .int .i64 (min d d')]) ∧ Below w.heap.size w w' := by
  go_enter Try.func91, Try.ntmps91
  go_wp2
  (refine wp_region_drewtail 21 (by kernel_rfl) (by kernel_rfl) ?_; simp only [List.take_succ_cons, List.take_zero, List.drop_succ_cons, List.drop_zero]; (repeat (go_big_quiet_step ((first | (go_at_call 105; exact Calls.still (l00Max_any _ _ _)) | (go_at_call 104; exact Calls.still (l00Min_any _ _ _)))))); refine wpQuiet_nil ?_; rintro _ ⟨nq, rfl⟩)
  go_wp2
  all_goals (go_returns; exact ⟨rfl, (by repeat' (first | (with_reducible exact Below.refl _ _) | (with_reducible assumption) | (with_reducible refine ext_alloc ?_ _) | (with_reducible refine ext_drew ?_) | (with_reducible refine ext_drewN ?_ _) | (with_reducible apply ext_trans; rotate_left; (with_reducible assumption)) | (with_reducible refine ext_set ?_ ?_ _) | (show _ ≤ _; simp; done) | (show _ ≤ _; simp; omega)))⟩)
/-- Do two regions meet? -/
def meetOk (a b c d a' b' c' d' : Int) : Bool := decide (max a a' ≤ min b b' ∧ max c c' ≤ min d d')
theorem meet_any (a b c d a' b' c' d' : Int) (w : World) :
    Calls Try.prog 92 #[.agg #[.int .i64 a, .int .i64 b, .int .i64 c, .int .i64 d], .agg #[.int .i64 a', .int .i64 b', .int .i64 c', .int .i64 d']] w fun e w' => e = .returned (.tuple #[.agg #[.int .i64 (max a a'), .int .i64 (min b b'), .int .i64 (max c c'), .int .i64 (min d d')], .bool (meetOk a b c d a' b' c' d')]) ∧ Below w.heap.size w w' := by
  rcases hm : decide (max a a' ≤ min b b') with _ | _
  all_goals go_enter Try.func92, Try.ntmps92
  all_goals
    go_wp2
    go_region
    all_goals go_wp2
  all_goals (go_returns; exact ⟨ret_rb ⟨rfl, rfl, rfl, rfl, by simp only [decide_eq_true_eq, decide_eq_false_iff_not] at hm; simp [meetOk, hm]⟩, (by repeat' (first | (with_reducible exact Below.refl _ _) | (with_reducible assumption) | (with_reducible refine ext_alloc ?_ _) | (with_reducible refine ext_drew ?_) | (with_reducible refine ext_drewN ?_ _) | (with_reducible apply ext_trans; rotate_left; (with_reducible assumption)) | (with_reducible refine ext_set ?_ ?_ _) | (show _ ≤ _; simp; done) | (show _ ≤ _; simp; omega)))⟩)

end Go.Proofs.Ytmodhpgnkbnbaaa
