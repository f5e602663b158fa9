/- MergePair, by the reference and by the program, and the law on it. -/
import Derived.Test.YtmodhpgnkbnbaaaMrg
set_option linter.unusedSimpArgs false
set_option linter.unusedVariables false
namespace Go.Proofs.Ytmodhpgnkbnbaaa
open Go.RowKit

def okk (m n : Mg) : Bool := isM m && isM n && okOf m n
theorem fin2_f {m n : Mg} (h : okk m n = false) : Ending.returned (.tuple #[.agg #[.int .i64 0, .int .i64 0, .int .i64 0, .int .i64 0, .int .i64 0], .int .i64 0, .int .i64 0, .bool false]) =
    .returned (.tuple #[(bom (okk m n) (pairOf m n)).cells, .int .i64 (bo (okk m n) (oneOf (farM m n) (n.e - m.e))), .int .i64 (bo (okk m n) (twoOf (farM m n) (n.e - m.e))), .bool (okk m n)]) := by
  rw [h]; rfl
theorem fin2_t {m n : Mg} (h : okk m n = true) : Ending.returned (.tuple #[.agg #[.int .i64 (pairOf m n).a, .int .i64 (pairOf m n).b, .int .i64 (pairOf m n).c, .int .i64 (pairOf m n).d, .int .i64 (pairOf m n).e], .int .i64 (oneOf (farM m n) (n.e - m.e)), .int .i64 (twoOf (farM m n) (n.e - m.e)), .bool true]) =
    .returned (.tuple #[(bom (okk m n) (pairOf m n)).cells, .int .i64 (bo (okk m n) (oneOf (farM m n) (n.e - m.e))), .int .i64 (bo (okk m n) (twoOf (farM m n) (n.e - m.e))), .bool (okk m n)]) := by
  rw [h]; rfl
theorem oneOf_bd {m n : Mg} (hm : isM m = true) (hn : isM n = true) : 0 ≤ oneOf (farM m n) (n.e - m.e) ∧ oneOf (farM m n) (n.e - m.e) ≤ 200000000000000000 ∧ 0 ≤ twoOf (farM m n) (n.e - m.e) ∧ twoOf (farM m n) (n.e - m.e) ≤ 200000000000000000 := by
  have hb := farM_bd (isM_small hm) (isM_small hn)
  rw [isM_iff] at hm hn
  refine ⟨?_, ?_, ?_, ?_⟩
  · unfold oneOf; repeat' split <;> omega
  · unfold oneOf; repeat' split <;> omega
  · unfold twoOf; repeat' split <;> omega
  · unfold twoOf; repeat' split <;> omega

theorem eta (m : Mg) : (⟨m.a, m.b, m.c, m.d, m.e⟩ : Mg) = m := rfl
set_option maxHeartbeats 4000000 in
theorem specPair_any (m n : Mg) (w : World) :
    Calls Try.prog 49 #[m.cells, n.cells] w fun e w' =>
      e = .returned (.tuple #[(bom (okk m n) (pairOf m n)).cells, .int .i64 (bo (okk m n) (oneOf (farM m n) (n.e - m.e))), .int .i64 (bo (okk m n) (twoOf (farM m n) (n.e - m.e))), .bool (okk m n)]) ∧ Below w.heap.size w w' := by
  rcases hm : isM ⟨m.a, m.b, m.c, m.d, m.e⟩ with _ | _
  · have hk := Lib.hid (show okk m n = false by unfold okk; rw [← eta m, hm]; rfl)
    go_enter Try.func49, Try.ntmps49
    go_wp2_with ((go_at_call 102; refine (l06Valid_any ⟨_, _, _, _, _⟩ _).mono ?_; rintro e w' ⟨rfl, hb⟩; obtain ⟨hc, hf⟩ := bcell hb; have hz := hb.size; (try simp only [World.size_alloc, World.size_drew, World.size_setCell, size_drewN] at hz)))
    (refine bodyPost_ret (by simp [results, Try.results49, go_sem, ↓IntWalk.iteOmega, *]; try rfl) rfl ?_)
    exact ⟨fin2_f hk.out, (by repeat' (first | (with_reducible exact Below.refl _ _) | (with_reducible assumption) | (with_reducible refine ext_alloc ?_ _) | (with_reducible refine ext_drew ?_) | (with_reducible refine ext_drewN ?_ _) | (with_reducible apply ext_trans; rotate_left; (with_reducible assumption)) | (with_reducible refine ext_set ?_ ?_ _) | (show _ ≤ _; simp; done) | (show _ ≤ _; simp; omega)))⟩
  · rcases hn : isM ⟨n.a, n.b, n.c, n.d, n.e⟩ with _ | _
    · have hk := Lib.hid (show okk m n = false by unfold okk; rw [← eta n, hn]; simp)
      go_enter Try.func49, Try.ntmps49
      go_wp2_with ((go_at_call 102; refine (l06Valid_any ⟨_, _, _, _, _⟩ _).mono ?_; rintro e w' ⟨rfl, hb⟩; obtain ⟨hc, hf⟩ := bcell hb; have hz := hb.size; (try simp only [World.size_alloc, World.size_drew, World.size_setCell, size_drewN] at hz)))
      (refine bodyPost_ret (by simp [results, Try.results49, go_sem, ↓IntWalk.iteOmega, *]; try rfl) rfl ?_)
      exact ⟨fin2_f hk.out, (by repeat' (first | (with_reducible exact Below.refl _ _) | (with_reducible assumption) | (with_reducible refine ext_alloc ?_ _) | (with_reducible refine ext_drew ?_) | (with_reducible refine ext_drewN ?_ _) | (with_reducible apply ext_trans; rotate_left; (with_reducible assumption)) | (with_reducible refine ext_set ?_ ?_ _) | (show _ ≤ _; simp; done) | (show _ ≤ _; simp; omega)))⟩
    · have hk := Lib.hid (show okk m n = okOf m n by unfold okk; rw [← eta m, ← eta n, hm, hn]; rfl)
      have ho := oneOf_bd (m := m) (n := n) hm hn
      obtain ⟨o1, o2, o3, o4⟩ := ho
      have hm' := (isM_iff m).1 hm
      have hn' := (isM_iff n).1 hn
      obtain ⟨⟨h1, h2, h3, h4, h5, h6⟩, h7, h8⟩ := hm'
      obtain ⟨⟨k1, k2, k3, k4, k5, k6⟩, k7, k8⟩ := hn'
      have hmv := Lib.hid (isM_small (m := m) hm)
      have hnv := Lib.hid (isM_small (m := n) hn)
      go_enter Try.func49, Try.ntmps49
      go_wp2_with (first | (go_at_call 102; refine (l06Valid_any ⟨_, _, _, _, _⟩ _).mono ?_; rintro e w' ⟨rfl, hb⟩; obtain ⟨hc, hf⟩ := bcell hb; have hz := hb.size; (try simp only [World.size_alloc, World.size_drew, World.size_setCell, size_drewN] at hz)) | (go_at_call 103; refine (l06Pair_small m n hmv.out hnv.out _).mono ?_; rintro e w' ⟨rfl, hb⟩; obtain ⟨hc, hf⟩ := bcell hb; have hz := hb.size; (try simp only [World.size_alloc, World.size_drew, World.size_setCell, size_drewN] at hz)))
      · have h1 : (m.e + oneOf (farM m n) (n.e - m.e) != n.e + twoOf (farM m n) (n.e - m.e)) = true := by assumption
        (refine bodyPost_ret (by simp [results, Try.results49, go_sem, ↓IntWalk.iteOmega, *]; try rfl) rfl ?_)
        refine ⟨fin2_f ?_, (by repeat' (first | (with_reducible exact Below.refl _ _) | (with_reducible assumption) | (with_reducible refine ext_alloc ?_ _) | (with_reducible refine ext_drew ?_) | (with_reducible refine ext_drewN ?_ _) | (with_reducible apply ext_trans; rotate_left; (with_reducible assumption)) | (with_reducible refine ext_set ?_ ?_ _) | (show _ ≤ _; simp; done) | (show _ ≤ _; simp; omega)))⟩
        rw [hk.out]
        simp only [bne_iff_ne, ne_eq] at h1
        unfold okOf
        simp [h1]
      · have h1 : (m.e + oneOf (farM m n) (n.e - m.e) != n.e + twoOf (farM m n) (n.e - m.e)) = false := by assumption
        have h2 : isM (pairOf m n) = true := by assumption
        (refine bodyPost_ret (by simp [results, Try.results49, go_sem, ↓IntWalk.iteOmega, *]; try rfl) rfl ?_)
        refine ⟨fin2_t ?_, (by repeat' (first | (with_reducible exact Below.refl _ _) | (with_reducible assumption) | (with_reducible refine ext_alloc ?_ _) | (with_reducible refine ext_drew ?_) | (with_reducible refine ext_drewN ?_ _) | (with_reducible apply ext_trans; rotate_left; (with_reducible assumption)) | (with_reducible refine ext_set ?_ ?_ _) | (show _ ≤ _; simp; done) | (show _ ≤ _; simp; omega)))⟩
        rw [hk.out]
        simp only [bne_eq_false_iff_eq] at h1
        unfold okOf
        rw [h2]
        simp [h1]
      · have h2 : ¬ isM (pairOf m n) = true := by assumption
        (refine bodyPost_ret (by simp [results, Try.results49, go_sem, ↓IntWalk.iteOmega, *]; try rfl) rfl ?_)
        refine ⟨fin2_f ?_, (by repeat' (first | (with_reducible exact Below.refl _ _) | (with_reducible assumption) | (with_reducible refine ext_alloc ?_ _) | (with_reducible refine ext_drew ?_) | (with_reducible refine ext_drewN ?_ _) | (with_reducible apply ext_trans; rotate_left; (with_reducible assumption)) | (with_reducible refine ext_set ?_ ?_ _) | (show _ ≤ _; simp; done) | (show _ ≤ _; simp; omega)))⟩
        rw [hk.out]
        unfold okOf
        simp only [Bool.not_eq_true] at h2
        rw [h2]
        rfl
set_option maxHeartbeats 4000000 in
theorem MergePair_any (m n : Mg) (w : World) :
    Calls Try.prog 43 #[m.cells, n.cells] w fun e w' =>
      e = .returned (.tuple #[(bom (okk m n) (pairOf m n)).cells, .int .i64 (bo (okk m n) (oneOf (farM m n) (n.e - m.e))), .int .i64 (bo (okk m n) (twoOf (farM m n) (n.e - m.e))), .bool (okk m n)]) ∧ Below w.heap.size w w' := by
  rcases hm : isM ⟨m.a, m.b, m.c, m.d, m.e⟩ with _ | _
  · have hk := Lib.hid (show okk m n = false by unfold okk; rw [← eta m, hm]; rfl)
    go_enter Try.func43, Try.ntmps43
    go_wp2_with ((go_at_call 97; refine (mergeOk_any ⟨_, _, _, _, _⟩ _).mono ?_; rintro e w' ⟨rfl, hb⟩; obtain ⟨hc, hf⟩ := bcell hb; have hz := hb.size; (try simp only [World.size_alloc, World.size_drew, World.size_setCell, size_drewN] at hz)))
    (refine bodyPost_ret (by simp [results, Try.results43, go_sem, ↓IntWalk.iteOmega, *]; try rfl) rfl ?_)
    exact ⟨fin2_f hk.out, (by repeat' (first | (with_reducible exact Below.refl _ _) | (with_reducible assumption) | (with_reducible refine ext_alloc ?_ _) | (with_reducible refine ext_drew ?_) | (with_reducible refine ext_drewN ?_ _) | (with_reducible apply ext_trans; rotate_left; (with_reducible assumption)) | (with_reducible refine ext_set ?_ ?_ _) | (show _ ≤ _; simp; done) | (show _ ≤ _; simp; omega)))⟩
  · rcases hn : isM ⟨n.a, n.b, n.c, n.d, n.e⟩ with _ | _
    · have hk := Lib.hid (show okk m n = false by unfold okk; rw [← eta n, hn]; simp)
      go_enter Try.func43, Try.ntmps43
      go_wp2_with ((go_at_call 97; refine (mergeOk_any ⟨_, _, _, _, _⟩ _).mono ?_; rintro e w' ⟨rfl, hb⟩; obtain ⟨hc, hf⟩ := bcell hb; have hz := hb.size; (try simp only [World.size_alloc, World.size_drew, World.size_setCell, size_drewN] at hz)))
      (refine bodyPost_ret (by simp [results, Try.results43, go_sem, ↓IntWalk.iteOmega, *]; try rfl) rfl ?_)
      exact ⟨fin2_f hk.out, (by repeat' (first | (with_reducible exact Below.refl _ _) | (with_reducible assumption) | (with_reducible refine ext_alloc ?_ _) | (with_reducible refine ext_drew ?_) | (with_reducible refine ext_drewN ?_ _) | (with_reducible apply ext_trans; rotate_left; (with_reducible assumption)) | (with_reducible refine ext_set ?_ ?_ _) | (show _ ≤ _; simp; done) | (show _ ≤ _; simp; omega)))⟩
    · have hk := Lib.hid (show okk m n = okOf m n by unfold okk; rw [← eta m, ← eta n, hm, hn]; rfl)
      have hmv := Lib.hid hm
      have hnv := Lib.hid hn
      go_enter Try.func43, Try.ntmps43
      go_wp2_with (first | (go_at_call 97; refine (mergeOk_any ⟨_, _, _, _, _⟩ _).mono ?_; rintro e w' ⟨rfl, hb⟩; obtain ⟨hc, hf⟩ := bcell hb; have hz := hb.size; (try simp only [World.size_alloc, World.size_drew, World.size_setCell, size_drewN] at hz)) | (go_at_call 98; refine (merge_valid m n hmv.out hnv.out _).mono ?_; rintro e w' ⟨rfl, hb⟩; obtain ⟨hc, hf⟩ := bcell hb; have hz := hb.size; (try simp only [World.size_alloc, World.size_drew, World.size_setCell, size_drewN] at hz)))
      (refine bodyPost_ret (by simp [results, Try.results43, go_sem, ↓IntWalk.iteOmega, *]; try rfl) rfl ?_)
      rw [hk.out]
      exact ⟨rfl, (by repeat' (first | (with_reducible exact Below.refl _ _) | (with_reducible assumption) | (with_reducible refine ext_alloc ?_ _) | (with_reducible refine ext_drew ?_) | (with_reducible refine ext_drewN ?_ _) | (with_reducible apply ext_trans; rotate_left; (with_reducible assumption)) | (with_reducible refine ext_set ?_ ?_ _) | (show _ ≤ _; simp; done) | (show _ ≤ _; simp; omega)))⟩
theorem toMerge_any (m : Mg) (w : World) :
    Calls Try.prog 50 #[m.cells] w fun e w' => e = .returned m.cells ∧ Below w.heap.size w w' := by
  go_enter Try.func50, Try.ntmps50
  go_wp2_with ((go_at_call 22; refine (toRegion_any _ _ _ _ _).mono ?_; rintro e w' ⟨rfl, hb⟩; obtain ⟨hc, hf⟩ := bcell hb; have hz := hb.size; (try simp only [World.size_alloc, World.size_drew, World.size_setCell, size_drewN] at hz)))
  (refine bodyPost_ret (by simp [results, Try.results50, go_sem, ↓IntWalk.iteOmega, *]; try rfl) rfl ?_)
  exact ⟨rfl, (by repeat' (first | (with_reducible exact Below.refl _ _) | (with_reducible assumption) | (with_reducible refine ext_alloc ?_ _) | (with_reducible refine ext_drew ?_) | (with_reducible refine ext_drewN ?_ _) | (with_reducible apply ext_trans; rotate_left; (with_reducible assumption)) | (with_reducible refine ext_set ?_ ?_ _) | (show _ ≤ _; simp; done) | (show _ ≤ _; simp; omega)))⟩
theorem eqMerge_any (m n : Mg) (w : World) :
    Calls Try.prog 51 #[m.cells, n.cells] w fun e w' => e = .returned (.bool (decide (m.a = n.a ∧ m.b = n.b ∧ m.c = n.c ∧ m.d = n.d ∧ m.e = n.e))) ∧ Below w.heap.size w w' := by
  go_enter Try.func51, Try.ntmps51
  go_wp2_with ((go_at_call 31; refine (eqRegion_any _ _ _ _ _ _ _ _ _).mono ?_; rintro e w' ⟨rfl, hb⟩; obtain ⟨hc, hf⟩ := bcell hb; have hz := hb.size; (try simp only [World.size_alloc, World.size_drew, World.size_setCell, size_drewN] at hz)))
  all_goals (go_ret; refine ⟨ret_bool ?_, (by repeat' (first | (with_reducible exact Below.refl _ _) | (with_reducible assumption) | (with_reducible refine ext_alloc ?_ _) | (with_reducible refine ext_drew ?_) | (with_reducible refine ext_drewN ?_ _) | (with_reducible apply ext_trans; rotate_left; (with_reducible assumption)) | (with_reducible refine ext_set ?_ ?_ _) | (show _ ≤ _; simp; done) | (show _ ≤ _; simp; omega)))⟩; rw [Bool.eq_iff_iff]; simp only [Bool.not_eq_true', Bool.not_eq_false', decide_eq_false_iff_not, decide_eq_true_eq, bne_iff_ne, ne_eq, bne_eq_false_iff_eq, Bool.false_eq_true, false_iff, true_iff, iff_false, iff_true] at *; omega)
set_option maxHeartbeats 4000000 in
theorem lawMergePair (m n : Mg) (w : World) :
    Calls Try.prog 12 #[m.cells, n.cells] w fun e w' => e = .returned (.bool true) ∧ Below w.heap.size w w' := by
  go_enter Try.func12, Try.ntmps12
  go_wp2
  (refine wp_region_new 14 10 11 6 5 19 #[.int .i64 0, .int .i64 0, .int .i64 0, .int .i64 0, .int .i64 0] 52 (by kernel_rfl) (by kernel_rfl) rfl rfl (by simp) rfl rfl rfl (fun a W => by simp [go_sem]) (by kernel_rfl) ?_; apply Exists.intro; apply Exists.intro; refine ⟨?_, ?_, ?_, ?_⟩; (focus (intro V hcV hzV hgc; (try simp only [World.size_alloc, World.size_drew, World.size_setCell, size_drewN] at hzV); simp only [mute, List.take_succ_cons, List.take_zero]; (repeat (go_big_quiet_step ((first | (go_at_call 50; exact Calls.grow_of (toMerge_any ⟨_, _, _, _, _⟩ _)) | (go_at_call 49; exact Calls.grow_of (specPair_any ⟨_, _, _, _, _⟩ ⟨_, _, _, _, _⟩ _)) | (go_at_call 43; exact Calls.grow_of (MergePair_any ⟨_, _, _, _, _⟩ ⟨_, _, _, _, _⟩ _)))))); exact wpQuiet_nil rfl)); (focus exact rfl); (focus exact ⟨rfl, by simp [Value.oneCell']⟩); (intro blk w' hb hbl hbs hcb hcbN hfb hfbN; obtain ⟨hc, hf⟩ := bcell hb; have hz := hb.size; (try simp only [World.size_alloc, World.size_drew, World.size_setCell, size_drewN] at hz); (try simp only [World.size_alloc, World.size_drew, World.size_setCell, size_drewN] at hbl); simp only [List.drop_succ_cons, List.drop_zero, Act.put, List.setIfInBounds_toArray]; simp only [List.set]))
  go_wp2
  (refine wp_region_new 14 10 11 6 9 29 #[.int .i64 0, .int .i64 0, .int .i64 0, .int .i64 0, .int .i64 0] 52 (by kernel_rfl) (by kernel_rfl) rfl rfl (by simp) rfl rfl rfl (fun a W => by simp [go_sem]) (by kernel_rfl) ?_; apply Exists.intro; apply Exists.intro; refine ⟨?_, ?_, ?_, ?_⟩; (focus (intro V hcV hzV hgc; (try simp only [World.size_alloc, World.size_drew, World.size_setCell, size_drewN] at hzV); simp only [mute, List.take_succ_cons, List.take_zero]; (repeat (go_big_quiet_step ((first | (go_at_call 50; exact Calls.grow_of (toMerge_any ⟨_, _, _, _, _⟩ _)) | (go_at_call 49; exact Calls.grow_of (specPair_any ⟨_, _, _, _, _⟩ ⟨_, _, _, _, _⟩ _)) | (go_at_call 43; exact Calls.grow_of (MergePair_any ⟨_, _, _, _, _⟩ ⟨_, _, _, _, _⟩ _)))))); exact wpQuiet_nil rfl)); (focus exact rfl); (focus exact ⟨rfl, by simp [Value.oneCell']⟩); (intro blk w' hb hbl hbs hcb hcbN hfb hfbN; obtain ⟨hc, hf⟩ := bcell hb; have hz := hb.size; (try simp only [World.size_alloc, World.size_drew, World.size_setCell, size_drewN] at hz); (try simp only [World.size_alloc, World.size_drew, World.size_setCell, size_drewN] at hbl); simp only [List.drop_succ_cons, List.drop_zero, Act.put, List.setIfInBounds_toArray]; simp only [List.set]))
  go_wp2_with ((go_at_call 51; refine (eqMerge_any ⟨_, _, _, _, _⟩ ⟨_, _, _, _, _⟩ _).mono ?_; rintro e w' ⟨rfl, hb⟩; obtain ⟨hc, hf⟩ := bcell hb; have hz := hb.size; (try simp only [World.size_alloc, World.size_drew, World.size_setCell, size_drewN] at hz)))
  all_goals (go_ret; exact ⟨rfl, (by repeat' (first | (with_reducible exact Below.refl _ _) | (with_reducible assumption) | (with_reducible refine ext_alloc ?_ _) | (with_reducible refine ext_drew ?_) | (with_reducible refine ext_drewN ?_ _) | (with_reducible apply ext_trans; rotate_left; (with_reducible assumption)) | (with_reducible refine ext_set ?_ ?_ _) | (show _ ≤ _; simp; done) | (show _ ≤ _; simp; omega)))⟩)
end Go.Proofs.Ytmodhpgnkbnbaaa
