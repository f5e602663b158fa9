/- The fewest tracks of a channel: both programs find the same. Condition: the listed package variables hold what the program's text lays (the card ties them). -/
import Derived.Test.YtbfjekmefcpkmaaDoorPcL
import Derived.Test.YtbfjekmefcpkmaaDoorWFt04
import Derived.Test.YtbfjekmefcpkmaaDoorGlo
import Derived.Test.YtbfjekmefcpkmaaDoorOpn
import Derived.Test.YtbfjekmefcpkmaaDoorLift
import Derived.Test.YtbfjekmefcpkmaaDoorHead
import Derived.Test.YtbfjekmefcpkmaaDoorTie
import Derived.Test.YtbfjekmefcpkmaaDoorCards
import Derived.LaidMore
import Derived.LaidHandle
import Derived.Stop.Joined
import Derived.SevenTiedAt
set_option linter.unusedSimpArgs false
set_option linter.unusedVariables false
namespace Go.Proofs.YtbfjekmefcpkmaaDoor
open Go.ChangeShapes Go.WideShapes Go.ChangeAt Go.RowKit Go.Joins

noncomputable def fnExactFewestTracks_start (os : Os) : World := World.doorLaid Tryd.prog 4000 os
/-- The door's own heap meets the condition. -/
theorem fnExactFewestTracks_door (os : Os) (args : Array Value) : laidMetH Tryd.prog Rows.fnExactFewestTracksRow.laid ((fnExactFewestTracks_start os).forCall (fun _ _ => 0) ⟨#[], args, []⟩).memory :=
  laidMetH_of_parts3 (fuel := 80) (laidMet_of_run' 80 (by kernel_rfl) (by kernel_rfl)) (by kernel_rfl) (by kernel_rfl)
set_option maxRecDepth 100000 in
set_option maxHeartbeats 4000000 in
theorem fnExactFewestTracks_lifted (os : Os) (started : os.Started) (H : Type) (enc : TypeId × Value → H) :
    ReturnsInHanded {} Tryd.checked os 4 .any (fun w args => (Rows.fnExactFewestTracksSpec.pre enc Tryd.prog Tryd.f4 [] false w args ∧ laidMetH Tryd.prog Rows.fnExactFewestTracksRow.laid w) ∧ sizedMet enc Tryd.prog Tryd.f4 (OpenSpec.ofChange Rows.fnExactFewestTracksSpec) false w args)
      (Rows.fnExactFewestTracksSpec.post enc Tryd.prog Tryd.f4 false true false false) := by
  refine returnsInHanded_of_change_and (C := Tryd.checked) (X := fun w _ => laidMetH Tryd.prog Rows.fnExactFewestTracksRow.laid w) (fun _ _ _ hh h => h.of_heap hh) own started (by kernel_rfl) Tryd.func4
    (ChangeSpec.witness_shaped (enc := enc) (C := Tryd.checked) (os := os) (X := fun w _ => laidMetH Tryd.prog Rows.fnExactFewestTracksRow.laid w) false (fnExactFewestTracks_start os) #[.agg #[.slice none 0 0, .slice none 0 0]] 8 rfl (World.shaped_of_RefB (by kernel_rfl) (by kernel_rfl)) (by kernel_rfl) (by kernel_rfl) (by kernel_rfl) (fnExactFewestTracks_door os _)) ?_
  intro W base args ds gs before hval0 hW _ _ hL _
  have hval : ∀ (j : Nat) t v, Tryd.f4.params[j]? = some t → args[j]? = some v → Value.okWide Tryd.prog W .any base t v := hval0
  have hW' := hW
  obtain ⟨p, q, hA0, hV, hbf, _, _⟩ := hW
  have hA : DataW.TrodAll enc Tryd.prog W 0 (fun _ => true) true Tryd.f4.params.toList args.toList ds p := hA0
  rw [Tryd.params4] at hA hval
  obtain ⟨v0, d0, rfl, rfl, h0⟩ := trodAll_one hA
  obtain ⟨rfl, _⟩ := trodVars_none hV
  obtain ⟨c0, c1, _, _, _, rfl, _, _, hy0, hy1⟩ := open_agg2 Tryd.underlying39 (by kernel_rfl) (by kernel_rfl) (hval 0 39 v0 rfl rfl) h0
  obtain ⟨A0_0, cap0_0, l0_0, fp0_0, e0_0, F0_0, b0_0, r0_0⟩ := open_i64s Tryd.underlying24 Tryd.underlying2 (by kernel_rfl) hy0
  cases e0_0
  obtain ⟨A0_1, cap0_1, l0_1, fp0_1, e0_1, F0_1, b0_1, r0_1⟩ := open_i64s Tryd.underlying24 Tryd.underlying2 (by kernel_rfl) hy1
  cases e0_1
  refine (c_laws_FnExactFewestTracks (r := true) (lawFewestTracks_eq l0_0 l0_1 b0_0 b0_1) F0_0 F0_1 (tab_of_laid hL)).mono fun e W' ⟨he, hb⟩ => ⟨_, he, ?_⟩
  exact law_post laidOut (by rw [Tryd.params4]; intro t ht; simp only [List.mem_cons, List.not_mem_nil, or_false] at ht; subst ht; exact ⟨by kernel_rfl, of_decide_eq_true (by kernel_rfl)⟩) rfl rfl Tryd.underlying4 hW' rfl hb.below

theorem fnExactFewestTracks_named : Tryd.pinned.checked.prog.funcNamed Rows.fnExactFewestTracksRow.func = some 4 := by kernel_rfl
set_option maxHeartbeats 4000000 in
theorem fnExactFewestTracks_closed : joinedFacts Tryd.pinned.checked.prog 4 Tryd.f4 Rows.fnExactFewestTracksSpec Rows.fnExactFewestTracksRow = true := by
  refine facts_of Tryd.prog 4 Tryd.f4 _ _ may_enter lifts_final make_cut laid_out maps_rowed stops_none stop_knobs stops_heard rfl rfl ?_
  repeat' (with_reducible refine and_t ?_ ?_)
  all_goals (as_aux_lemma => kernel_rfl)
theorem fnExactFewestTracks_instance : Tryd.f4.isInstance Tryd.pinned.checked.prog Rows.fnExactFewestTracksRow.origin Rows.fnExactFewestTracksRow.targs := of_decide_eq_true (by kernel_rfl)
theorem fnExactFewestTracks_wrapper : Tryd.f4.isWrapper Tryd.pinned.checked.prog Rows.fnExactFewestTracksRow.wrapper Rows.fnExactFewestTracksRow.mainSum := by unfold Func.isWrapper; first | (rw [if_pos (by decide +kernel)]; kernel_rfl) | (rw [if_neg (by decide +kernel)]; exact ⟨rfl, rfl⟩)
theorem fnExactFewestTracks_holds : Rows.FnExactFewestTracksSaid :=
  OpenClaim.holds_of_wide 4 Tryd.f4 rfl rfl rfl rfl rfl rfl rfl ⟨rfl, rfl, rfl, rfl, rfl⟩ rfl rfl rfl rfl rfl fnExactFewestTracks_named Tryd.func4 fnExactFewestTracks_closed fnExactFewestTracks_instance fnExactFewestTracks_wrapper
    (fun os started H enc _ => fnExactFewestTracks_lifted os started H enc)

theorem fnExactFewestTracks_card : Rows.FnExactFewestTracksCardSaid :=
  Claim7.holds_tied_plain_at .later [] [.data, .data] true (true, "2d36519015edfeb1e1a356cf8fe2a786681233b5663281126726f1a9757452bc") false
    fnExactFewestTracks_holds (fun _ h => by cases h) (by kernel_rfl) (fun _ h => by cases h) fnExactFewestTracks_row_tie rfl ⟨rfl, rfl⟩ (by kernel_rfl) rfl
    (fun f fn hf hfn => by
      obtain rfl : f = 4 := Option.some.inj (fnExactFewestTracks_named.symm.trans hf) |>.symm
      obtain rfl : fn = Tryd.f4 := (Option.some.inj (Tryd.func4.symm.trans hfn)).symm
      refine ⟨by kernel_rfl, fun j t ht => ?_⟩
      rw [Tryd.params4] at ht
      have hm := List.mem_of_getElem? (by simpa using ht)
      simp only [List.mem_cons, List.not_mem_nil, or_false] at hm
      subst hm; exact (show Tryd.prog.wantsStandIn _ = false by kernel_rfl))
    (by kernel_rfl)

