/- A channel has either a routing or a cycle of nets; its fewest tracks are no fewer than the density and the longest chain, and the left edge rule meets the density. Condition: the listed package variables hold what the program's text lays (the card ties them). -/
import Derived.Test.YtbfjekmefcpkmaaDoorPeP1
import Derived.Test.YtbfjekmefcpkmaaDoorWCn06
import Derived.Test.YtbfjekmefcpkmaaDoorGlo
import Derived.Test.YtbfjekmefcpkmaaDoorOpn
import Derived.Test.YtbfjekmefcpkmaaDoorLift
import Derived.Test.YtbfjekmefcpkmaaDoorHead
import Derived.Test.YtbfjekmefcpkmaaDoorTie
import Derived.Test.YtbfjekmefcpkmaaDoorCards
import Derived.LaidMore
import Derived.LaidHandle
import Derived.Stop.Joined
import Derived.SevenTiedAt
set_option linter.unusedSimpArgs false
set_option linter.unusedVariables false
namespace Go.Proofs.YtbfjekmefcpkmaaDoor
open Go.ChangeShapes Go.WideShapes Go.ChangeAt Go.RowKit Go.Joins

noncomputable def fnChannels_start (os : Os) : World := World.doorLaid Tryd.prog 4000 os
theorem fnChannels_door (os : Os) (args : Array Value) : laidMetH Tryd.prog Rows.fnChannelsRow.laid ((fnChannels_start os).forCall (fun _ _ => 0) ⟨#[], args, []⟩).memory :=
 laidMetH_of_parts3 (fuel := 80) (laidMet_of_run' 80 (by kernel_rfl) (by kernel_rfl)) (by kernel_rfl) (by kernel_rfl)
set_option maxRecDepth 100000 in
set_option maxHeartbeats 4000000 in
theorem fnChannels_lifted (os : Os) (started : os.Started) (H : Type) (enc : TypeId × Value → H) :
  ReturnsInHanded {} Tryd.checked os 3 .any (fun w args => (Rows.fnChannelsSpec.pre enc Tryd.prog Tryd.f3 [] false w args ∧ laidMetH Tryd.prog Rows.fnChannelsRow.laid w) ∧ sizedMet enc Tryd.prog Tryd.f3 (OpenSpec.ofChange Rows.fnChannelsSpec) false w args)
   (Rows.fnChannelsSpec.post enc Tryd.prog Tryd.f3 false true false false) := by
 refine returnsInHanded_of_change_and (C := Tryd.checked) (X := fun w _ => laidMetH Tryd.prog Rows.fnChannelsRow.laid w) (fun _ _ _ hh h => h.of_heap hh) own started (by kernel_rfl) Tryd.func3
  (ChangeSpec.witness_shaped (enc := enc) (C := Tryd.checked) (os := os) (X := fun w _ => laidMetH Tryd.prog Rows.fnChannelsRow.laid w) false (fnChannels_start os) #[.slice none 0 0, .slice none 0 0] 8 rfl (World.shaped_of_RefB (by kernel_rfl) (by kernel_rfl)) (by kernel_rfl) (by kernel_rfl) (by kernel_rfl) (fnChannels_door os _)) ?_
 intro W base args ds gs before hval0 hW _ _ hL _
 have hval : ∀ (j : Nat) t v, Tryd.f3.params[j]? = some t → args[j]? = some v → Value.okWide Tryd.prog W .any base t v := hval0
 have hW' := hW
 obtain ⟨p, q, hA0, hV, hbf, _, _⟩ := hW
 have hA : DataW.TrodAll enc Tryd.prog W 0 (fun _ => true) true Tryd.f3.params.toList args.toList ds p := hA0
 rw [Tryd.params3] at hA hval
 obtain ⟨v0, v1, d0, d1, p0, p1, rfl, rfl, _, h0, h1⟩ := trodAll_two hA
 obtain ⟨rfl, _⟩ := trodVars_none hV
 obtain ⟨_, _, _, rfl⟩ := okWide_slice Tryd.underlying22 (hval 0 22 v0 rfl rfl)
 obtain ⟨m0, hm0⟩ := h0
 obtain ⟨A0, cap0, l0, fp0, e0, F0, b0, r0⟩ := open_bytes Tryd.underlying22 Tryd.underlying5 (by kernel_rfl) hm0
 cases e0
 obtain ⟨_, _, _, rfl⟩ := okWide_slice Tryd.underlying22 (hval 1 22 v1 rfl rfl)
 obtain ⟨m1, hm1⟩ := h1
 obtain ⟨A1, cap1, l1, fp1, e1, F1, b1, r1⟩ := open_bytes Tryd.underlying22 Tryd.underlying5 (by kernel_rfl) hm1
 cases e1
 refine (c_lFnCha (r := true) (lawChannels l0 l1 r0 r1) F0 F1 (tab_of_laid hL)).mono fun e W' ⟨he, hb⟩ => ⟨_, he, ?_⟩
 exact law_post laidOut (by rw [Tryd.params3]; intro t ht; simp only [List.mem_cons, List.not_mem_nil, or_false] at ht; rcases ht with rfl | rfl <;> exact ⟨by kernel_rfl, of_decide_eq_true (by kernel_rfl)⟩) rfl rfl Tryd.underlying4 hW' rfl hb.below

theorem fnChannels_named : Tryd.pinned.checked.prog.funcNamed Rows.fnChannelsRow.func = some 3 := by kernel_rfl
set_option maxHeartbeats 4000000 in
theorem fnChannels_closed : joinedFacts Tryd.pinned.checked.prog 3 Tryd.f3 Rows.fnChannelsSpec Rows.fnChannelsRow = true := by
 refine facts_of Tryd.prog 3 Tryd.f3 _ _ may_enter lifts_final make_cut laid_out maps_rowed stops_none stop_knobs stops_heard rfl rfl ?_
 repeat' (with_reducible refine and_t ?_ ?_)
 all_goals (as_aux_lemma => kernel_rfl)
theorem fnChannels_instance : Tryd.f3.isInstance Tryd.pinned.checked.prog Rows.fnChannelsRow.origin Rows.fnChannelsRow.targs := of_decide_eq_true (by kernel_rfl)
theorem fnChannels_wrapper : Tryd.f3.isWrapper Tryd.pinned.checked.prog Rows.fnChannelsRow.wrapper Rows.fnChannelsRow.mainSum := by unfold Func.isWrapper; first | (rw [if_pos (by decide +kernel)]; kernel_rfl) | (rw [if_neg (by decide +kernel)]; exact ⟨rfl, rfl⟩)
theorem fnChannels_holds : Rows.FnChannelsSaid :=
 OpenClaim.holds_of_wide 3 Tryd.f3 rfl rfl rfl rfl rfl rfl rfl ⟨rfl, rfl, rfl, rfl, rfl⟩ rfl rfl rfl rfl rfl fnChannels_named Tryd.func3 fnChannels_closed fnChannels_instance fnChannels_wrapper
  (fun os started H enc _ => fnChannels_lifted os started H enc)

theorem fnChannels_card : Rows.FnChannelsCardSaid :=
 Claim7.holds_tied_plain_at .later [] [.data, .data] true (true, "2d36519015edfeb1e1a356cf8fe2a786681233b5663281126726f1a9757452bc") false
  fnChannels_holds (fun _ h => by cases h) (by kernel_rfl) (fun _ h => by cases h) fnChannels_row_tie rfl ⟨rfl, rfl⟩ (by kernel_rfl) rfl
  (fun f fn hf hfn => by
   obtain rfl : f = 3 := Option.some.inj (fnChannels_named.symm.trans hf) |>.symm
   obtain rfl : fn = Tryd.f3 := (Option.some.inj (Tryd.func3.symm.trans hfn)).symm
   refine ⟨by kernel_rfl, fun j t ht => ?_⟩
   rw [Tryd.params3] at ht
   have hm := List.mem_of_getElem? (by simpa using ht)
   simp only [List.mem_cons, List.not_mem_nil, or_false] at hm
   rcases hm with rfl | rfl <;> exact (show Tryd.prog.wantsStandIn _ = false by kernel_rfl))
  (by kernel_rfl)

end Go.Proofs.YtbfjekmefcpkmaaDoor
