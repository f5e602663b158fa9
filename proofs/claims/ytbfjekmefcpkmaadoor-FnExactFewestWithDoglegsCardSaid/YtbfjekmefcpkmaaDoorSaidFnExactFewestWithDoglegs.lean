/- The fewest tracks of a channel's pieces: both programs find the same. Condition: the listed package variables hold what the program's text lays (the card ties them). -/
import Derived.Test.YtbfjekmefcpkmaaDoorPcP2
import Derived.Test.YtbfjekmefcpkmaaDoorWFd05
import Derived.Test.YtbfjekmefcpkmaaDoorGlo
import Derived.Test.YtbfjekmefcpkmaaDoorOpn
import Derived.Test.YtbfjekmefcpkmaaDoorLift
import Derived.Test.YtbfjekmefcpkmaaDoorHead
import Derived.Test.YtbfjekmefcpkmaaDoorTie
import Derived.Test.YtbfjekmefcpkmaaDoorCards
import Derived.LaidMore
import Derived.LaidHandle
import Derived.Stop.Joined
import Derived.SevenTiedAt
set_option linter.unusedSimpArgs false
set_option linter.unusedVariables false
namespace Go.Proofs.YtbfjekmefcpkmaaDoor
open Go.ChangeShapes Go.WideShapes Go.ChangeAt Go.RowKit Go.Joins

noncomputable def fnExactFewestWithDoglegs_start (os : Os) : World := World.doorLaid Tryd.prog 4000 os
/-- The door's own heap meets the condition. -/
theorem fnExactFewestWithDoglegs_door (os : Os) (args : Array Value) : laidMetH Tryd.prog Rows.fnExactFewestWithDoglegsRow.laid ((fnExactFewestWithDoglegs_start os).forCall (fun _ _ => 0) ⟨#[], args, []⟩).memory :=
  laidMetH_of_parts3 (fuel := 80) (laidMet_of_run' 80 (by kernel_rfl) (by kernel_rfl)) (by kernel_rfl) (by kernel_rfl)
set_option maxRecDepth 100000 in
set_option maxHeartbeats 4000000 in
theorem fnExactFewestWithDoglegs_lifted (os : Os) (started : os.Started) (H : Type) (enc : TypeId × Value → H) :
    ReturnsInHanded {} Tryd.checked os 5 .any (fun w args => (Rows.fnExactFewestWithDoglegsSpec.pre enc Tryd.prog Tryd.f5 [] false w args ∧ laidMetH Tryd.prog Rows.fnExactFewestWithDoglegsRow.laid w) ∧ sizedMet enc Tryd.prog Tryd.f5 (OpenSpec.ofChange Rows.fnExactFewestWithDoglegsSpec) false w args)
      (Rows.fnExactFewestWithDoglegsSpec.post enc Tryd.prog Tryd.f5 false true false false) := by
  refine returnsInHanded_of_change_and (C := Tryd.checked) (X := fun w _ => laidMetH Tryd.prog Rows.fnExactFewestWithDoglegsRow.laid w) (fun _ _ _ hh h => h.of_heap hh) own started (by kernel_rfl) Tryd.func5
    (ChangeSpec.witness_shaped (enc := enc) (C := Tryd.checked) (os := os) (X := fun w _ => laidMetH Tryd.prog Rows.fnExactFewestWithDoglegsRow.laid w) false (fnExactFewestWithDoglegs_start os) #[.agg #[.slice none 0 0, .slice none 0 0]] 8 rfl (World.shaped_of_RefB (by kernel_rfl) (by kernel_rfl)) (by kernel_rfl) (by kernel_rfl) (by kernel_rfl) (fnExactFewestWithDoglegs_door os _)) ?_
  intro W base args ds gs before hval0 hW _ _ hL _
  have hval : ∀ (j : Nat) t v, Tryd.f5.params[j]? = some t → args[j]? = some v → Value.okWide Tryd.prog W .any base t v := hval0
  have hW' := hW
  obtain ⟨p, q, hA0, hV, hbf, _, _⟩ := hW
  have hA : DataW.TrodAll enc Tryd.prog W 0 (fun _ => true) true Tryd.f5.params.toList args.toList ds p := hA0
  rw [Tryd.params5] at hA hval
  obtain ⟨v0, d0, rfl, rfl, h0⟩ := trodAll_one hA
  obtain ⟨rfl, _⟩ := trodVars_none hV
  obtain ⟨c0, c1, _, _, _, rfl, _, _, hy0, hy1⟩ := open_agg2 Tryd.underlying39 (by kernel_rfl) (by kernel_rfl) (hval 0 39 v0 rfl rfl) h0
  obtain ⟨A0_0, cap0_0, l0_0, fp0_0, e0_0, F0_0, b0_0, r0_0⟩ := open_i64s Tryd.underlying24 Tryd.underlying2 (by kernel_rfl) hy0
  cases e0_0
  obtain ⟨A0_1, cap0_1, l0_1, fp0_1, e0_1, F0_1, b0_1, r0_1⟩ := open_i64s Tryd.underlying24 Tryd.underlying2 (by kernel_rfl) hy1
  cases e0_1
  refine (c_laws_FnExactFewestWithDoglegs (r := true) (lawDoglegs_eq l0_0 l0_1 b0_0 b0_1) F0_0 F0_1 (tab_of_laid hL)).mono fun e W' ⟨he, hb⟩ => ⟨_, he, ?_⟩
  exact law_post laidOut (by rw [Tryd.params5]; intro t ht; simp only [List.mem_cons, List.not_mem_nil, or_false] at ht; subst ht; exact ⟨by kernel_rfl, of_decide_eq_true (by kernel_rfl)⟩) rfl rfl Tryd.underlying4 hW' rfl hb.below

theorem fnExactFewestWithDoglegs_named : Tryd.pinned.checked.prog.funcNamed Rows.fnExactFewestWithDoglegsRow.func = some 5 := by kernel_rfl
set_option maxHeartbeats 4000000 in
theorem fnExactFewestWithDoglegs_closed : joinedFacts Tryd.pinned.checked.prog 5 Tryd.f5 Rows.fnExactFewestWithDoglegsSpec Rows.fnExactFewestWithDoglegsRow = true := by
  refine facts_of Tryd.prog 5 Tryd.f5 _ _ may_enter lifts_final make_cut laid_out maps_rowed stops_none stop_knobs stops_heard rfl rfl ?_
  repeat' (with_reducible refine and_t ?_ ?_)
  all_goals (as_aux_lemma => kernel_rfl)
theorem fnExactFewestWithDoglegs_instance : Tryd.f5.isInstance Tryd.pinned.checked.prog Rows.fnExactFewestWithDoglegsRow.origin Rows.fnExactFewestWithDoglegsRow.targs := of_decide_eq_true (by kernel_rfl)
theorem fnExactFewestWithDoglegs_wrapper : Tryd.f5.isWrapper Tryd.pinned.checked.prog Rows.fnExactFewestWithDoglegsRow.wrapper Rows.fnExactFewestWithDoglegsRow.mainSum := by unfold Func.isWrapper; first | (rw [if_pos (by decide +kernel)]; kernel_rfl) | (rw [if_neg (by decide +kernel)]; exact ⟨rfl, rfl⟩)
theorem fnExactFewestWithDoglegs_holds : Rows.FnExactFewestWithDoglegsSaid :=
  OpenClaim.holds_of_wide 5 Tryd.f5 rfl rfl rfl rfl rfl rfl rfl ⟨rfl, rfl, rfl, rfl, rfl⟩ rfl rfl rfl rfl rfl fnExactFewestWithDoglegs_named Tryd.func5 fnExactFewestWithDoglegs_closed fnExactFewestWithDoglegs_instance fnExactFewestWithDoglegs_wrapper
    (fun os started H enc _ => fnExactFewestWithDoglegs_lifted os started H enc)

theorem fnExactFewestWithDoglegs_card : Rows.FnExactFewestWithDoglegsCardSaid :=
  Claim7.holds_tied_plain_at .later [] [.data, .data] true (true, "2d36519015edfeb1e1a356cf8fe2a786681233b5663281126726f1a9757452bc") false
    fnExactFewestWithDoglegs_holds (fun _ h => by cases h) (by kernel_rfl) (fun _ h => by cases h) fnExactFewestWithDoglegs_row_tie rfl ⟨rfl, rfl⟩ (by kernel_rfl) rfl
    (fun f fn hf hfn => by
      obtain rfl : f = 5 := Option.some.inj (fnExactFewestWithDoglegs_named.symm.trans hf) |>.symm
      obtain rfl : fn = Tryd.f5 := (Option.some.inj (Tryd.func5.symm.trans hfn)).symm
      refine ⟨by kernel_rfl, fun j t ht => ?_⟩
      rw [Tryd.params5] at ht
      have hm := List.mem_of_getElem? (by simpa using ht)
      simp only [List.mem_cons, List.not_mem_nil, or_false] at hm
      subst hm; exact (show Tryd.prog.wantsStandIn _ = false by kernel_rfl))
    (by kernel_rfl)

