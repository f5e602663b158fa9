/- The walk of the law on MeetRegions. -/
import Derived.Test.YtmodhpgnkbnbaaaReg2
import Derived.Test.YtmodhpgnkbnbaaaLaid
set_option linter.unusedSimpArgs false
set_option linter.unusedVariables false
namespace Go.Proofs.Ytmodhpgnkbnbaaa
open Go.RowKit

theorem lawMeetRegions (a b c d a' b' c' d' : Int) (w : World) :
    Calls Try.prog 8 #[.agg #[.int .i64 a, .int .i64 b, .int .i64 c, .int .i64 d], .agg #[.int .i64 a', .int .i64 b', .int .i64 c', .int .i64 d']] w fun e w' => e = .returned (.bool true) ∧ Below w.heap.size w w' := by
  go_enter Try.func8, Try.ntmps8
  go_wp2
  (refine wp_region_new 10 8 9 6 5 15 #[.int .i64 0, .int .i64 0, .int .i64 0, .int .i64 0] 25 (by kernel_rfl) (by kernel_rfl) rfl rfl (by simp) rfl rfl rfl (fun a W => by simp [go_sem]) (by kernel_rfl) ?_; apply Exists.intro; apply Exists.intro; refine ⟨?_, ?_, ?_, ?_⟩; (focus (intro V hcV hzV hgc; (try simp only [World.size_alloc, World.size_drew, World.size_setCell, size_drewN] at hzV); simp only [mute, List.take_succ_cons, List.take_zero]; (repeat (go_big_quiet_step ((first | (go_at_call 22; exact Calls.grow_of (toRegion_any _ _ _ _ _)) | (go_at_call 34; exact Calls.grow_of (specMeet_any _ _ _ _ _ _ _ _ _)) | (go_at_call 35; exact Calls.grow_of (MeetRegions_any _ _ _ _ _ _ _ _ _)))))); exact wpQuiet_nil rfl)); (focus exact rfl); (focus exact ⟨rfl, by simp [Value.oneCell']⟩); (intro blk w' hb hbl hbs hcb hcbN hfb hfbN; obtain ⟨hc, hf⟩ := bcell hb; have hz := hb.size; (try simp only [World.size_alloc, World.size_drew, World.size_setCell, size_drewN] at hz); (try simp only [World.size_alloc, World.size_drew, World.size_setCell, size_drewN] at hbl); simp only [List.drop_succ_cons, List.drop_zero, Act.put, List.setIfInBounds_toArray]; simp only [List.set]))
  go_wp2
  (refine wp_region_new 10 8 9 6 7 23 #[.int .i64 0, .int .i64 0, .int .i64 0, .int .i64 0] 25 (by kernel_rfl) (by kernel_rfl) rfl rfl (by simp) rfl rfl rfl (fun a W => by simp [go_sem]) (by kernel_rfl) ?_; apply Exists.intro; apply Exists.intro; refine ⟨?_, ?_, ?_, ?_⟩; (focus (intro V hcV hzV hgc; (try simp only [World.size_alloc, World.size_drew, World.size_setCell, size_drewN] at hzV); simp only [mute, List.take_succ_cons, List.take_zero]; (repeat (go_big_quiet_step ((first | (go_at_call 22; exact Calls.grow_of (toRegion_any _ _ _ _ _)) | (go_at_call 34; exact Calls.grow_of (specMeet_any _ _ _ _ _ _ _ _ _)) | (go_at_call 35; exact Calls.grow_of (MeetRegions_any _ _ _ _ _ _ _ _ _)))))); exact wpQuiet_nil rfl)); (focus exact rfl); (focus exact ⟨rfl, by simp [Value.oneCell']⟩); (intro blk w' hb hbl hbs hcb hcbN hfb hfbN; obtain ⟨hc, hf⟩ := bcell hb; have hz := hb.size; (try simp only [World.size_alloc, World.size_drew, World.size_setCell, size_drewN] at hz); (try simp only [World.size_alloc, World.size_drew, World.size_setCell, size_drewN] at hbl); simp only [List.drop_succ_cons, List.drop_zero, Act.put, List.setIfInBounds_toArray]; simp only [List.set]))
  go_wp2_with ((go_at_call 31; refine (eqRegion_any _ _ _ _ _ _ _ _ _).mono ?_; rintro e w' ⟨rfl, hb⟩; obtain ⟨hc, hf⟩ := bcell hb; have hz := hb.size; (try simp only [World.size_alloc, World.size_drew, World.size_setCell, size_drewN] at hz)))
  all_goals (go_ret; exact ⟨rfl, (by repeat' (first | (with_reducible exact Below.refl _ _) | (with_reducible assumption) | (with_reducible refine ext_alloc ?_ _) | (with_reducible refine ext_drew ?_) | (with_reducible refine ext_drewN ?_ _) | (with_reducible apply ext_trans; rotate_left; (with_reducible assumption)) | (with_reducible refine ext_set ?_ ?_ _) | (show _ ≤ _; simp; done) | (show _ ≤ _; simp; omega)))⟩)

end Go.Proofs.Ytmodhpgnkbnbaaa
