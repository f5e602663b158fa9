/- The merge of two merges: by the reference and by the program. -/
import Derived.Test.YtmodhpgnkbnbaaaReg2
import Derived.Test.YtmodhpgnkbnbaaaLaid
import Derived.Lib.Hide
set_option linter.unusedSimpArgs false
set_option linter.unusedVariables false
namespace Go.Proofs.Ytmodhpgnkbnbaaa
open Go.RowKit

/-- A merge: the ends of its region, and its delay. -/
structure Mg where
  a : Int
  b : Int
  c : Int
  d : Int
  e : Int
abbrev Mg.cells (m : Mg) : Value := .agg #[.int .i64 m.a, .int .i64 m.b, .int .i64 m.c, .int .i64 m.d, .int .i64 m.e]
/-- Its numbers are small. -/
def Mg.small (m : Mg) : Prop := -100000000000000000 ≤ m.a ∧ m.a ≤ 100000000000000000 ∧ -100000000000000000 ≤ m.b ∧ m.b ≤ 100000000000000000 ∧ -100000000000000000 ≤ m.c ∧ m.c ≤ 100000000000000000 ∧
  -100000000000000000 ≤ m.d ∧ m.d ≤ 100000000000000000 ∧ -100000000000000000 ≤ m.e ∧ m.e ≤ 100000000000000000
def farM (m n : Mg) : Int := max 0 (max (max (m.a - n.b) (n.a - m.b)) (max (m.c - n.d) (n.c - m.d)))
theorem farR_small {m n : Mg} (hm : m.small) (hn : n.small) : farR m.a m.b m.c m.d n.a n.b n.c n.d = farM m n := by
  obtain ⟨h1, h2, h3, h4, h5, h6, h7, h8, _, _⟩ := hm
  obtain ⟨k1, k2, k3, k4, k5, k6, k7, k8, _, _⟩ := hn
  unfold farR farM
  rw [IntWalk.wrap64_in _ (by omega), IntWalk.wrap64_in _ (by omega), IntWalk.wrap64_in _ (by omega), IntWalk.wrap64_in _ (by omega)]
theorem farM_bd {m n : Mg} (hm : m.small) (hn : n.small) : 0 ≤ farM m n ∧ farM m n ≤ 200000000000000000 := by
  obtain ⟨h1, h2, h3, h4, h5, h6, h7, h8, _, _⟩ := hm
  obtain ⟨k1, k2, k3, k4, k5, k6, k7, k8, _, _⟩ := hn
  unfold farM
  omega
def oneOf (far more : Int) : Int := if far < more then more else if more < -far then 0 else (far + more) / 2
def twoOf (far more : Int) : Int := if far < more then 0 else if more < -far then -more else far - (far + more) / 2
def pairOf (m n : Mg) : Mg :=
  let x := oneOf (farM m n) (n.e - m.e)
  let y := twoOf (farM m n) (n.e - m.e)
  ⟨max (m.a - x) (n.a - y), min (m.b + x) (n.b + y), max (m.c - x) (n.c - y), min (m.d + x) (n.d + y), m.e + x⟩
theorem ret_pair {v v' : Value} {x y x' y' : Int} (h : v = v') (hx : x = x') (hy : y = y') : Ending.returned (.tuple #[v, .int .i64 x, .int .i64 y]) = .returned (.tuple #[v', .int .i64 x', .int .i64 y']) := by rw [h, hx, hy]
theorem agg5 {a b c d e a' b' c' d' e' : Int} (h : a = a' ∧ b = b' ∧ c = c' ∧ d = d' ∧ e = e') : Value.agg #[.int .i64 a, .int .i64 b, .int .i64 c, .int .i64 d, .int .i64 e] = .agg #[.int .i64 a', .int .i64 b', .int .i64 c', .int .i64 d', .int .i64 e'] := by
  obtain ⟨rfl, rfl, rfl, rfl, rfl⟩ := h; rfl

/-- l06Far, of small merges' regions. -/
theorem l06Far_small (m n : Mg) (hm : m.small) (hn : n.small) (w : World) :
    Calls Try.prog 84 #[.agg #[.int .i64 m.a, .int .i64 m.b, .int .i64 m.c, .int .i64 m.d], .agg #[.int .i64 n.a, .int .i64 n.b, .int .i64 n.c, .int .i64 n.d]] w fun e w' => e = .returned (.int .i64 (farM m n)) ∧ Below w.heap.size w w' := by
  rw [← farR_small hm hn]; exact l06Far_any _ _ _ _ _ _ _ _ _
theorem farR_small_any (m n : Mg) (hm : m.small) (hn : n.small) (w : World) :
    Calls Try.prog 85 #[.agg #[.int .i64 m.a, .int .i64 m.b, .int .i64 m.c, .int .i64 m.d], .agg #[.int .i64 n.a, .int .i64 n.b, .int .i64 n.c, .int .i64 n.d]] w fun e w' => e = .returned (.int .i64 (farM m n)) ∧ Below w.heap.size w w' := by
  rw [← farR_small hm hn]; exact farR_any _ _ _ _ _ _ _ _ _

set_option maxHeartbeats 800000 in
theorem l06Pair_small (m n : Mg) (hm : m.small) (hn : n.small) (w : World) :
    Calls Try.prog 103 #[m.cells, n.cells] w fun e w' =>
      e = .returned (.tuple #[(pairOf m n).cells, .int .i64 (oneOf (farM m n) (n.e - m.e)), .int .i64 (twoOf (farM m n) (n.e - m.e))]) ∧ Below w.heap.size w w' := by
  have hbd := farM_bd hm hn
  have hm' := hm
  have hn' := hn
  obtain ⟨h1, h2, h3, h4, h5, h6, h7, h8, h9, h10⟩ := hm'
  obtain ⟨k1, k2, k3, k4, k5, k6, k7, k8, k9, k10⟩ := hn'
  obtain ⟨f1, f2⟩ := hbd
  go_enter Try.func103, Try.ntmps103
  go_wp2_with ((go_at_call 84; refine (l06Far_small m n hm hn _).mono ?_; rintro e w' ⟨rfl, hb⟩; obtain ⟨hc, hf⟩ := bcell hb; have hz := hb.size; (try simp only [World.size_alloc, World.size_drew, World.size_setCell, size_drewN] at hz)))
  all_goals (refine wp_region_alloc 10 9 11 #[.int .i64 0, .int .i64 0, .int .i64 0, .int .i64 0] 25 (by kernel_rfl) (by kernel_rfl) rfl rfl (fun a W => by simp [go_sem]) ?_; apply Exists.intro; refine ⟨?_, ?_⟩; (focus (intro V hcV hzV hgc; (try simp only [World.size_alloc, World.size_drew, World.size_setCell, size_drewN] at hzV); simp only [mute, List.take_succ_cons, List.take_zero]; (repeat (go_big_quiet_step ((first | (go_at_call 89; exact Calls.grow_of (l06Grow_any _ _ _ _ _ _)) | (go_at_call 91; exact Calls.grow_of (l06Meet_any _ _ _ _ _ _ _ _ _)))))); exact wpQuiet_nil rfl)); (intro blk w' hb hbl hbs hcb hcbN hfb hfbN; obtain ⟨hc, hf⟩ := bcell hb; have hz := hb.size; (try simp only [World.size_alloc, World.size_drew, World.size_setCell, size_drewN] at hz); simp only [List.drop_succ_cons, List.drop_zero, Act.put, List.setIfInBounds_toArray]; simp only [List.set]))
  all_goals go_wp2
  all_goals ((refine bodyPost_ret (by simp [results, Try.results103, go_sem, ↓IntWalk.iteOmega, *]; try rfl) rfl ?_); refine ⟨ret_pair (agg5 ?_) ?_ ?_, (by repeat' (first | (with_reducible exact Below.refl _ _) | (with_reducible assumption) | (with_reducible refine ext_alloc ?_ _) | (with_reducible refine ext_drew ?_) | (with_reducible refine ext_drewN ?_ _) | (with_reducible apply ext_trans; rotate_left; (with_reducible assumption)) | (with_reducible refine ext_set ?_ ?_ _) | (show _ ≤ _; simp; done) | (show _ ≤ _; simp; omega)))⟩)
  all_goals (simp only [pairOf, oneOf, twoOf, wrap64]; repeat' split)
  all_goals omega

def isM (m : Mg) : Bool := isR m.a m.b m.c m.d && inB m.e 0 1000000000
theorem isM_iff (m : Mg) : isM m = true ↔ (-1000000000 ≤ m.a ∧ m.a ≤ m.b ∧ m.b ≤ 1000000000 ∧ -1000000000 ≤ m.c ∧ m.c ≤ m.d ∧ m.d ≤ 1000000000) ∧ 0 ≤ m.e ∧ m.e ≤ 1000000000 := by
  unfold isM; rw [Bool.and_eq_true, isR_iff]; unfold inB; rw [decide_eq_true_eq]
theorem isM_small {m : Mg} (h : isM m = true) : m.small := by
  rw [isM_iff] at h; unfold Mg.small; omega
theorem l06Valid_any (m : Mg) (w : World) :
    Calls Try.prog 102 #[m.cells] w fun e w' => e = .returned (.bool (isM m)) ∧ Below w.heap.size w w' := by
  go_enter Try.func102, Try.ntmps102
  go_wp2_with (first | (go_at_call 78; refine (l06Is_any _ _ _ _ _).mono ?_; rintro e w' ⟨rfl, hb⟩; obtain ⟨hc, hf⟩ := bcell hb; have hz := hb.size; (try simp only [World.size_alloc, World.size_drew, World.size_setCell, size_drewN] at hz)) | (go_at_call 88; refine (l00In_any _ _ _ _).mono ?_; rintro e w' ⟨rfl, rfl⟩))
  all_goals (go_ret; exact ⟨ret_bool (by ((try simp only [Bool.not_eq_true', Bool.not_eq_false', Bool.not_eq_true] at *); simp [isM, *])), (by repeat' (first | (with_reducible exact Below.refl _ _) | (with_reducible assumption) | (with_reducible refine ext_alloc ?_ _) | (with_reducible refine ext_drew ?_) | (with_reducible refine ext_drewN ?_ _) | (with_reducible apply ext_trans; rotate_left; (with_reducible assumption)) | (with_reducible refine ext_set ?_ ?_ _) | (show _ ≤ _; simp; done) | (show _ ≤ _; simp; omega)))⟩)
theorem mergeOk_any (m : Mg) (w : World) :
    Calls Try.prog 97 #[m.cells] w fun e w' => e = .returned (.bool (isM m)) ∧ Below w.heap.size w w' := by
  go_enter Try.func97, Try.ntmps97
  go_wp2_with (first | (go_at_call 23; refine (valid_any _ _ _ _ _).mono ?_; rintro e w' ⟨rfl, hb⟩; obtain ⟨hc, hf⟩ := bcell hb; have hz := hb.size; (try simp only [World.size_alloc, World.size_drew, World.size_setCell, size_drewN] at hz)) | (go_at_call 79; refine (in_any _ _ _ _).mono ?_; rintro e w' ⟨rfl, rfl⟩))
  all_goals (go_ret; exact ⟨ret_bool (by ((try simp only [Bool.not_eq_true', Bool.not_eq_false', Bool.not_eq_true] at *); simp [isM, *])), (by repeat' (first | (with_reducible exact Below.refl _ _) | (with_reducible assumption) | (with_reducible refine ext_alloc ?_ _) | (with_reducible refine ext_drew ?_) | (with_reducible refine ext_drewN ?_ _) | (with_reducible apply ext_trans; rotate_left; (with_reducible assumption)) | (with_reducible refine ext_set ?_ ?_ _) | (show _ ≤ _; simp; done) | (show _ ≤ _; simp; omega)))⟩)

/-- Is there a merge? -/
def okOf (m n : Mg) : Bool := isM (pairOf m n) && decide (m.e + oneOf (farM m n) (n.e - m.e) = n.e + twoOf (farM m n) (n.e - m.e))
def bom (p : Bool) (m : Mg) : Mg := ⟨bo p m.a, bo p m.b, bo p m.c, bo p m.d, bo p m.e⟩
def bo' (p : Bool) (x : Int) : Int := if p = true then x else 0

theorem fin_f {m n : Mg} (h : okOf m n = false) : Ending.returned (.tuple #[.agg #[.int .i64 0, .int .i64 0, .int .i64 0, .int .i64 0, .int .i64 0], .int .i64 0, .int .i64 0, .bool false]) =
    .returned (.tuple #[(bom (okOf m n) (pairOf m n)).cells, .int .i64 (bo (okOf m n) (oneOf (farM m n) (n.e - m.e))), .int .i64 (bo (okOf m n) (twoOf (farM m n) (n.e - m.e))), .bool (okOf m n)]) := by
  rw [h]; rfl
theorem fin_t {m n p : Mg} {x y : Int} (h : okOf m n = true) (hp : p = pairOf m n) (hx : x = oneOf (farM m n) (n.e - m.e)) (hy : y = twoOf (farM m n) (n.e - m.e)) :
    Ending.returned (.tuple #[.agg #[.int .i64 p.a, .int .i64 p.b, .int .i64 p.c, .int .i64 p.d, .int .i64 p.e], .int .i64 x, .int .i64 y, .bool true]) =
    .returned (.tuple #[(bom (okOf m n) (pairOf m n)).cells, .int .i64 (bo (okOf m n) (oneOf (farM m n) (n.e - m.e))), .int .i64 (bo (okOf m n) (twoOf (farM m n) (n.e - m.e))), .bool (okOf m n)]) := by
  subst hp hx hy; rw [h]; rfl
/-- What the program computes with the wires x and y. -/
abbrev grownPair (m n : Mg) (x y : Int) : Mg := ⟨max (wrap64 (m.a - x)) (wrap64 (n.a - y)), min (wrap64 (m.b + x)) (wrap64 (n.b + y)), max (wrap64 (m.c - x)) (wrap64 (n.c - y)), min (wrap64 (m.d + x)) (wrap64 (n.d + y)), m.e + x⟩
theorem grownPair_eq {m n : Mg} {x y : Int} (hm : isM m = true) (hn : isM n = true) (hx : x = oneOf (farM m n) (n.e - m.e)) (hy : y = twoOf (farM m n) (n.e - m.e)) : grownPair m n x y = pairOf m n := by
  have hb := farM_bd (isM_small hm) (isM_small hn)
  rw [isM_iff] at hm hn
  have h1 : 0 ≤ oneOf (farM m n) (n.e - m.e) ∧ oneOf (farM m n) (n.e - m.e) ≤ 200000000000000000 := by unfold oneOf; repeat' split <;> omega
  have h2 : 0 ≤ twoOf (farM m n) (n.e - m.e) ∧ twoOf (farM m n) (n.e - m.e) ≤ 200000000000000000 := by unfold twoOf; repeat' split <;> omega
  subst hx hy
  unfold grownPair pairOf
  simp only
  rw [IntWalk.wrap64_in _ (by omega), IntWalk.wrap64_in _ (by omega), IntWalk.wrap64_in _ (by omega), IntWalk.wrap64_in _ (by omega), IntWalk.wrap64_in _ (by omega), IntWalk.wrap64_in _ (by omega), IntWalk.wrap64_in _ (by omega), IntWalk.wrap64_in _ (by omega)]
theorem absI_le {x d : Int} (hx : -2000000000 ≤ x ∧ x ≤ 2000000000) : absI x ≤ d ↔ (x ≤ d ∧ -x ≤ d) := by unfold absI wrap64; omega
theorem near_one {m n : Mg} (hm : isM m = true) (hn : isM n = true) (hg : absI (m.e - n.e) ≤ farM m n) :
    (farM m n + n.e - m.e) / 2 = oneOf (farM m n) (n.e - m.e) ∧ farM m n - (farM m n + n.e - m.e) / 2 = twoOf (farM m n) (n.e - m.e) ∧
    (decide (m.e + oneOf (farM m n) (n.e - m.e) = n.e + twoOf (farM m n) (n.e - m.e)) = ((farM m n + n.e - m.e) % 2 == 0)) := by
  rw [isM_iff] at hm hn
  rw [absI_le (by omega)] at hg
  unfold oneOf twoOf
  rw [if_neg (by omega), if_neg (by omega), if_neg (by omega), if_neg (by omega)]
  refine ⟨by omega, by omega, ?_⟩
  rw [Bool.eq_iff_iff, decide_eq_true_eq, beq_iff_eq]
  omega
theorem apart_one {m n : Mg} (hm : isM m = true) (hn : isM n = true) (hg : farM m n < absI (m.e - n.e)) :
    max (n.e - m.e) 0 = oneOf (farM m n) (n.e - m.e) ∧ max (m.e - n.e) 0 = twoOf (farM m n) (n.e - m.e) ∧ decide (m.e + oneOf (farM m n) (n.e - m.e) = n.e + twoOf (farM m n) (n.e - m.e)) = true := by
  have hb := farM_bd (isM_small hm) (isM_small hn)
  rw [isM_iff] at hm hn
  have hg' : ¬ (m.e - n.e ≤ farM m n ∧ -(m.e - n.e) ≤ farM m n) := by rw [← absI_le (by omega)]; omega
  rw [decide_eq_true_eq]
  unfold oneOf twoOf
  by_cases h1 : farM m n < n.e - m.e
  · rw [if_pos h1, if_pos h1]; omega
  · rw [if_neg h1, if_neg h1, if_pos (by omega), if_pos (by omega)]; omega
theorem ok_odd {m n : Mg} (hm : isM m = true) (hn : isM n = true) (hg : absI (m.e - n.e) ≤ farM m n) (h : ((farM m n + n.e - m.e) % 2 != 0) = true) : okOf m n = false := by
  unfold okOf
  rw [(near_one hm hn hg).2.2]
  simp only [bne_iff_ne, ne_eq] at h
  simp [h]
theorem ok_even {m n : Mg} (hm : isM m = true) (hn : isM n = true) (hg : absI (m.e - n.e) ≤ farM m n) (h : ((farM m n + n.e - m.e) % 2 != 0) = false) : okOf m n = isM (pairOf m n) := by
  unfold okOf
  rw [(near_one hm hn hg).2.2]
  simp only [bne_eq_false_iff_eq] at h
  simp [h]
theorem ok_apart {m n : Mg} (hm : isM m = true) (hn : isM n = true) (hg : farM m n < absI (m.e - n.e)) : okOf m n = isM (pairOf m n) := by
  unfold okOf
  rw [(apart_one hm hn hg).2.2]
  simp
theorem no_meet {m n : Mg} {x y : Int} (h : ¬ meetOk (wrap64 (m.a - x)) (wrap64 (m.b + x)) (wrap64 (m.c - x)) (wrap64 (m.d + x)) (wrap64 (n.a - y)) (wrap64 (n.b + y)) (wrap64 (n.c - y)) (wrap64 (n.d + y)) = true) : isM (grownPair m n x y) = false := by
  rw [← Bool.not_eq_true, isM_iff]
  unfold meetOk at h
  rw [decide_eq_true_eq] at h
  unfold grownPair
  simp only
  intro hc
  exact h ⟨hc.1.2.1, hc.1.2.2.2.2.1⟩

set_option maxHeartbeats 4000000 in
theorem merge_valid (m n : Mg) (hm : isM m = true) (hn : isM n = true) (w : World) :
    Calls Try.prog 98 #[m.cells, n.cells] w fun e w' =>
      e = .returned (.tuple #[(bom (okOf m n) (pairOf m n)).cells, .int .i64 (bo (okOf m n) (oneOf (farM m n) (n.e - m.e))), .int .i64 (bo (okOf m n) (twoOf (farM m n) (n.e - m.e))), .bool (okOf m n)]) ∧ Below w.heap.size w w' := by
  have hbd := farM_bd (isM_small hm) (isM_small hn)
  have hm' := (isM_iff m).1 hm
  have hn' := (isM_iff n).1 hn
  have hmv := Lib.hid hm
  have hnv := Lib.hid hn
  clear hm hn
  obtain ⟨⟨h1, h2, h3, h4, h5, h6⟩, h7, h8⟩ := hm'
  obtain ⟨⟨k1, k2, k3, k4, k5, k6⟩, k7, k8⟩ := hn'
  obtain ⟨f1, f2⟩ := hbd
  by_cases hg : absI (m.e - n.e) ≤ farM m n
  · have hg' := hg
    unfold absI wrap64 at hg'
    have hp : 0 ≤ farM m n + n.e - m.e := by omega
    clear hg'
    go_enter Try.func98, Try.ntmps98
    go_wp2_with (first | (go_at_call 85; refine (farR_small_any m n (isM_small hmv.out) (isM_small hnv.out) _).mono ?_; rintro e w' ⟨rfl, hb⟩; obtain ⟨hc, hf⟩ := bcell hb; have hz := hb.size; (try simp only [World.size_alloc, World.size_drew, World.size_setCell, size_drewN] at hz)) | (go_at_call 123; refine (size_any _ _).mono ?_; rintro e w' ⟨rfl, rfl⟩) | go_quiet (fail))
    · have hodd : ((farM m n + n.e - m.e) % 2 != 0) = true := by assumption
      (refine bodyPost_ret (by simp [results, Try.results98, go_sem, ↓IntWalk.iteOmega, *]; try rfl) rfl ?_)
      exact ⟨fin_f (ok_odd hmv.out hnv.out hg hodd), (by repeat' (first | (with_reducible exact Below.refl _ _) | (with_reducible assumption) | (with_reducible refine ext_alloc ?_ _) | (with_reducible refine ext_drew ?_) | (with_reducible refine ext_drewN ?_ _) | (with_reducible apply ext_trans; rotate_left; (with_reducible assumption)) | (with_reducible refine ext_set ?_ ?_ _) | (show _ ≤ _; simp; done) | (show _ ≤ _; simp; omega)))⟩
    · have heven : ((farM m n + n.e - m.e) % 2 != 0) = false := by assumption
      have hok := Lib.hid (ok_even hmv.out hnv.out hg heven)
      have hone := Lib.hid (near_one hmv.out hnv.out hg)
      have hpair := Lib.hid (grownPair_eq hmv.out hnv.out hone.out.1 hone.out.2.1)
      (refine wp_region_new 14 12 13 10 12 67 #[.int .i64 0, .int .i64 0, .int .i64 0, .int .i64 0] 25 (by kernel_rfl) (by kernel_rfl) rfl rfl (by simp) rfl rfl rfl (fun a W => by simp [go_sem]) (by kernel_rfl) ?_; apply Exists.intro; apply Exists.intro; refine ⟨?_, ?_, ?_, ?_⟩; (focus (intro V hcV hzV hgc; (try simp only [World.size_alloc, World.size_drew, World.size_setCell, size_drewN] at hzV); simp only [mute, List.take_succ_cons, List.take_zero]; (repeat (go_big_quiet_step ((first | (go_at_call 90; exact Calls.grow_of (grown_any _ _ _ _ _ _)) | (go_at_call 92; exact Calls.grow_of (meet_any _ _ _ _ _ _ _ _ _)))))); exact wpQuiet_nil rfl)); (focus exact rfl); (focus exact ⟨rfl, by simp [Value.oneCell']⟩); (intro blk w' hb hbl hbs hcb hcbN hfb hfbN; obtain ⟨hc, hf⟩ := bcell hb; have hz := hb.size; (try simp only [World.size_alloc, World.size_drew, World.size_setCell, size_drewN] at hz); (try simp only [World.size_alloc, World.size_drew, World.size_setCell, size_drewN] at hbl); simp only [List.drop_succ_cons, List.drop_zero, Act.put, List.setIfInBounds_toArray]; simp only [List.set]))
      go_wp2_with ((go_at_call 97; refine (mergeOk_any ⟨_, _, _, _, _⟩ _).mono ?_; rintro e w' ⟨rfl, hb⟩; obtain ⟨hc, hf⟩ := bcell hb; have hz := hb.size; (try simp only [World.size_alloc, World.size_drew, World.size_setCell, size_drewN] at hz)))
      · have hv : (!isM (grownPair m n ((farM m n + n.e - m.e) / 2) (farM m n - (farM m n + n.e - m.e) / 2))) = true := by assumption
        (refine bodyPost_ret (by simp [results, Try.results98, go_sem, ↓IntWalk.iteOmega, *]; try rfl) rfl ?_)
        refine ⟨fin_f ?_, (by repeat' (first | (with_reducible exact Below.refl _ _) | (with_reducible assumption) | (with_reducible refine ext_alloc ?_ _) | (with_reducible refine ext_drew ?_) | (with_reducible refine ext_drewN ?_ _) | (with_reducible apply ext_trans; rotate_left; (with_reducible assumption)) | (with_reducible refine ext_set ?_ ?_ _) | (show _ ≤ _; simp; done) | (show _ ≤ _; simp; omega)))⟩
        rw [hok.out, ← hpair.out]
        simpa using hv
      · have hv : (!isM (grownPair m n ((farM m n + n.e - m.e) / 2) (farM m n - (farM m n + n.e - m.e) / 2))) = false := by assumption
        (refine bodyPost_ret (by simp [results, Try.results98, go_sem, ↓IntWalk.iteOmega, *]; try rfl) rfl ?_)
        refine ⟨fin_t (p := grownPair m n _ _) ?_ hpair.out hone.out.1 hone.out.2.1, (by repeat' (first | (with_reducible exact Below.refl _ _) | (with_reducible assumption) | (with_reducible refine ext_alloc ?_ _) | (with_reducible refine ext_drew ?_) | (with_reducible refine ext_drewN ?_ _) | (with_reducible apply ext_trans; rotate_left; (with_reducible assumption)) | (with_reducible refine ext_set ?_ ?_ _) | (show _ ≤ _; simp; done) | (show _ ≤ _; simp; omega)))⟩
        rw [hok.out, ← hpair.out]
        simpa using hv
      · have hv : ¬ meetOk (wrap64 (m.a - (farM m n + n.e - m.e) / 2)) (wrap64 (m.b + (farM m n + n.e - m.e) / 2)) (wrap64 (m.c - (farM m n + n.e - m.e) / 2)) (wrap64 (m.d + (farM m n + n.e - m.e) / 2)) (wrap64 (n.a - (farM m n - (farM m n + n.e - m.e) / 2))) (wrap64 (n.b + (farM m n - (farM m n + n.e - m.e) / 2))) (wrap64 (n.c - (farM m n - (farM m n + n.e - m.e) / 2))) (wrap64 (n.d + (farM m n - (farM m n + n.e - m.e) / 2))) = true := by assumption
        (refine bodyPost_ret (by simp [results, Try.results98, go_sem, ↓IntWalk.iteOmega, *]; try rfl) rfl ?_)
        refine ⟨fin_f ?_, (by repeat' (first | (with_reducible exact Below.refl _ _) | (with_reducible assumption) | (with_reducible refine ext_alloc ?_ _) | (with_reducible refine ext_drew ?_) | (with_reducible refine ext_drewN ?_ _) | (with_reducible apply ext_trans; rotate_left; (with_reducible assumption)) | (with_reducible refine ext_set ?_ ?_ _) | (show _ ≤ _; simp; done) | (show _ ≤ _; simp; omega)))⟩
        rw [hok.out, ← hpair.out]
        exact no_meet hv
  · have hg'' : farM m n < absI (m.e - n.e) := by omega
    clear hg
    have hok := Lib.hid (ok_apart hmv.out hnv.out hg'')
    have hone := Lib.hid (apart_one hmv.out hnv.out hg'')
    have hpair := Lib.hid (grownPair_eq hmv.out hnv.out hone.out.1 hone.out.2.1)
    go_enter Try.func98, Try.ntmps98
    go_wp2_with (first | (go_at_call 85; refine (farR_small_any m n (isM_small hmv.out) (isM_small hnv.out) _).mono ?_; rintro e w' ⟨rfl, hb⟩; obtain ⟨hc, hf⟩ := bcell hb; have hz := hb.size; (try simp only [World.size_alloc, World.size_drew, World.size_setCell, size_drewN] at hz)) | (go_at_call 123; refine (size_any _ _).mono ?_; rintro e w' ⟨rfl, rfl⟩) | go_quiet (fail))
    (refine wp_region_new 14 12 13 10 12 67 #[.int .i64 0, .int .i64 0, .int .i64 0, .int .i64 0] 25 (by kernel_rfl) (by kernel_rfl) rfl rfl (by simp) rfl rfl rfl (fun a W => by simp [go_sem]) (by kernel_rfl) ?_; apply Exists.intro; apply Exists.intro; refine ⟨?_, ?_, ?_, ?_⟩; (focus (intro V hcV hzV hgc; (try simp only [World.size_alloc, World.size_drew, World.size_setCell, size_drewN] at hzV); simp only [mute, List.take_succ_cons, List.take_zero]; (repeat (go_big_quiet_step ((first | (go_at_call 90; exact Calls.grow_of (grown_any _ _ _ _ _ _)) | (go_at_call 92; exact Calls.grow_of (meet_any _ _ _ _ _ _ _ _ _)))))); exact wpQuiet_nil rfl)); (focus exact rfl); (focus exact ⟨rfl, by simp [Value.oneCell']⟩); (intro blk w' hb hbl hbs hcb hcbN hfb hfbN; obtain ⟨hc, hf⟩ := bcell hb; have hz := hb.size; (try simp only [World.size_alloc, World.size_drew, World.size_setCell, size_drewN] at hz); (try simp only [World.size_alloc, World.size_drew, World.size_setCell, size_drewN] at hbl); simp only [List.drop_succ_cons, List.drop_zero, Act.put, List.setIfInBounds_toArray]; simp only [List.set]))
    go_wp2_with ((go_at_call 97; refine (mergeOk_any ⟨_, _, _, _, _⟩ _).mono ?_; rintro e w' ⟨rfl, hb⟩; obtain ⟨hc, hf⟩ := bcell hb; have hz := hb.size; (try simp only [World.size_alloc, World.size_drew, World.size_setCell, size_drewN] at hz)))
    · have hv : (!isM (grownPair m n (max (n.e - m.e) 0) (max (m.e - n.e) 0))) = true := by assumption
      (refine bodyPost_ret (by simp [results, Try.results98, go_sem, ↓IntWalk.iteOmega, *]; try rfl) rfl ?_)
      refine ⟨fin_f ?_, (by repeat' (first | (with_reducible exact Below.refl _ _) | (with_reducible assumption) | (with_reducible refine ext_alloc ?_ _) | (with_reducible refine ext_drew ?_) | (with_reducible refine ext_drewN ?_ _) | (with_reducible apply ext_trans; rotate_left; (with_reducible assumption)) | (with_reducible refine ext_set ?_ ?_ _) | (show _ ≤ _; simp; done) | (show _ ≤ _; simp; omega)))⟩
      rw [hok.out, ← hpair.out]
      simpa using hv
    · have hv : (!isM (grownPair m n (max (n.e - m.e) 0) (max (m.e - n.e) 0))) = false := by assumption
      (refine bodyPost_ret (by simp [results, Try.results98, go_sem, ↓IntWalk.iteOmega, *]; try rfl) rfl ?_)
      refine ⟨fin_t (p := grownPair m n _ _) ?_ hpair.out hone.out.1 hone.out.2.1, (by repeat' (first | (with_reducible exact Below.refl _ _) | (with_reducible assumption) | (with_reducible refine ext_alloc ?_ _) | (with_reducible refine ext_drew ?_) | (with_reducible refine ext_drewN ?_ _) | (with_reducible apply ext_trans; rotate_left; (with_reducible assumption)) | (with_reducible refine ext_set ?_ ?_ _) | (show _ ≤ _; simp; done) | (show _ ≤ _; simp; omega)))⟩
      rw [hok.out, ← hpair.out]
      simpa using hv
    · have hv : ¬ meetOk (wrap64 (m.a - max (n.e - m.e) 0)) (wrap64 (m.b + max (n.e - m.e) 0)) (wrap64 (m.c - max (n.e - m.e) 0)) (wrap64 (m.d + max (n.e - m.e) 0)) (wrap64 (n.a - max (m.e - n.e) 0)) (wrap64 (n.b + max (m.e - n.e) 0)) (wrap64 (n.c - max (m.e - n.e) 0)) (wrap64 (n.d + max (m.e - n.e) 0)) = true := by assumption
      (refine bodyPost_ret (by simp [results, Try.results98, go_sem, ↓IntWalk.iteOmega, *]; try rfl) rfl ?_)
      refine ⟨fin_f ?_, (by repeat' (first | (with_reducible exact Below.refl _ _) | (with_reducible assumption) | (with_reducible refine ext_alloc ?_ _) | (with_reducible refine ext_drew ?_) | (with_reducible refine ext_drewN ?_ _) | (with_reducible apply ext_trans; rotate_left; (with_reducible assumption)) | (with_reducible refine ext_set ?_ ?_ _) | (show _ ≤ _; simp; done) | (show _ ≤ _; simp; omega)))⟩
      rw [hok.out, ← hpair.out]
      exact no_meet hv
end Go.Proofs.Ytmodhpgnkbnbaaa
