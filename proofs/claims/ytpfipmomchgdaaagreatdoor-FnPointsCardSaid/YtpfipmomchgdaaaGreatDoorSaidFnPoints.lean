/- Distances, boxes, the nearest point, sorted points, and texts of points that are read back: the law on points holds. Condition: the listed package variables hold what the program's text lays (the card ties them). -/
import Derived.Test.YtpfipmomchgdaaaGreatDoorPnB
import Derived.Test.YtpfipmomchgdaaaGreatDoorWPn02
import Derived.Test.YtpfipmomchgdaaaGreatDoorOpn
import Derived.Test.YtpfipmomchgdaaaGreatDoorLift
import Derived.Test.YtpfipmomchgdaaaGreatDoorHead
import Derived.Test.YtpfipmomchgdaaaGreatDoorTie
import Derived.Test.YtpfipmomchgdaaaGreatDoorCards
import Derived.LaidMore
import Derived.LaidHandle
import Derived.Stop.Joined
import Derived.SevenTiedAt
set_option linter.unusedSimpArgs false
set_option linter.unusedVariables false
namespace Go.Proofs.YtpfipmomchgdaaaGreatDoor
open Go.ChangeShapes Go.WideShapes Go.ChangeAt Go.RowKit Go.Joins

/-- The door's own heap, and the pinned table beside. -/
noncomputable def fnPoints_start (os : Os) : World :=
  let w0 := World.doorLaid Tryz.prog 4000 os
  { w0 with heap := w0.heap.modify 4 fun
      | .cells _ t frozen => .cells ((Pinned.utf8FirstZ.map fun (n : Nat) => Value.int .u8 (n : Int)).toArray) t frozen
      | o => o }
/-- The door's own heap meets the condition. -/
theorem fnPoints_door (os : Os) (args : Array Value) : laidMetH Tryz.prog Rows.fnPointsRow.laid ((fnPoints_start os).forCall (fun _ _ => 0) ⟨#[], args, []⟩).memory :=
  laidMetH_of_parts3 (fuel := 80) (laidMet_of_run' 80 (by kernel_rfl) (by kernel_rfl)) (by kernel_rfl) (by kernel_rfl)
set_option maxRecDepth 100000 in
set_option maxHeartbeats 4000000 in
theorem fnPoints_lifted (os : Os) (started : os.Started) (H : Type) (enc : TypeId × Value → H) :
    ReturnsInHanded {} Tryz.checked os 3 .any (fun w args => (Rows.fnPointsSpec.pre enc Tryz.prog Tryz.f3 [] false w args ∧ laidMetH Tryz.prog Rows.fnPointsRow.laid w) ∧ sizedMet enc Tryz.prog Tryz.f3 (OpenSpec.ofChange Rows.fnPointsSpec) false w args)
      (Rows.fnPointsSpec.post enc Tryz.prog Tryz.f3 false true false false) := by
  refine returnsInHanded_of_change_and (C := Tryz.checked) (X := fun w _ => laidMetH Tryz.prog Rows.fnPointsRow.laid w) (fun _ _ _ hh h => h.of_heap hh) own started (by kernel_rfl) Tryz.func3
    (ChangeSpec.witness_shaped (enc := enc) (C := Tryz.checked) (os := os) (X := fun w _ => laidMetH Tryz.prog Rows.fnPointsRow.laid w) false (fnPoints_start os) #[.slice none 0 0, .slice none 0 0] 8 rfl (World.shaped_of_RefB (by kernel_rfl) (by kernel_rfl)) (by kernel_rfl) (by kernel_rfl) (by kernel_rfl) (fnPoints_door os _)) ?_
  intro W base args ds gs before hval0 hW _ _ hL _
  have hval : ∀ (j : Nat) t v, Tryz.f3.params[j]? = some t → args[j]? = some v → Value.okWide Tryz.prog W .any base t v := hval0
  have hW' := hW
  obtain ⟨p, q, hA0, hV, hbf, _, _⟩ := hW
  have hA : DataW.TrodAll enc Tryz.prog W 0 (fun _ => true) true Tryz.f3.params.toList args.toList ds p := hA0
  rw [Tryz.params3] at hA hval
  obtain ⟨v0, v1, d0, d1, p0, p1, rfl, rfl, _, h0, h1⟩ := trodAll_two hA
  obtain ⟨rfl, _⟩ := trodVars_none hV
  obtain ⟨_, _, _, rfl⟩ := okWide_slice Tryz.underlying22 (hval 0 22 v0 rfl rfl)
  obtain ⟨m0, hm0⟩ := h0
  obtain ⟨A0, cap0, l0, fp0, e0, F0, b0, r0⟩ := open_bytes Tryz.underlying22 Tryz.underlying5 (by kernel_rfl) hm0
  cases e0
  obtain ⟨_, _, _, rfl⟩ := okWide_slice Tryz.underlying22 (hval 1 22 v1 rfl rfl)
  obtain ⟨m1, hm1⟩ := h1
  obtain ⟨A1, cap1, l1, fp1, e1, F1, b1, r1⟩ := open_bytes Tryz.underlying22 Tryz.underlying5 (by kernel_rfl) hm1
  cases e1
  refine (c_laws_FnPoints (r := true) (lawPoints l0 l1 r0 r1) F0 F1).mono fun e W' ⟨he, hb⟩ => ⟨_, he, ?_⟩
  exact law_post laidOut (by rw [Tryz.params3]; intro t ht; simp only [List.mem_cons, List.not_mem_nil, or_false] at ht; rcases ht with rfl | rfl <;> exact ⟨by kernel_rfl, of_decide_eq_true (by kernel_rfl)⟩) rfl rfl Tryz.underlying4 hW' rfl hb.below

theorem fnPoints_named : Tryz.pinned.checked.prog.funcNamed Rows.fnPointsRow.func = some 3 := by kernel_rfl
set_option maxHeartbeats 4000000 in
theorem fnPoints_closed : joinedFacts Tryz.pinned.checked.prog 3 Tryz.f3 Rows.fnPointsSpec Rows.fnPointsRow = true := by
  refine facts_of Tryz.prog 3 Tryz.f3 _ _ may_enter lifts_final make_cut laid_out maps_rowed stops_none stop_knobs stops_heard rfl rfl ?_
  repeat' (with_reducible refine and_t ?_ ?_)
  all_goals (as_aux_lemma => kernel_rfl)
theorem fnPoints_instance : Tryz.f3.isInstance Tryz.pinned.checked.prog Rows.fnPointsRow.origin Rows.fnPointsRow.targs := of_decide_eq_true (by kernel_rfl)
theorem fnPoints_wrapper : Tryz.f3.isWrapper Tryz.pinned.checked.prog Rows.fnPointsRow.wrapper Rows.fnPointsRow.mainSum := by unfold Func.isWrapper; first | (rw [if_pos (by decide +kernel)]; kernel_rfl) | (rw [if_neg (by decide +kernel)]; exact ⟨rfl, rfl⟩)
theorem fnPoints_holds : Rows.FnPointsSaid :=
  OpenClaim.holds_of_wide 3 Tryz.f3 rfl rfl rfl rfl rfl rfl rfl ⟨rfl, rfl, rfl, rfl, rfl⟩ rfl rfl rfl rfl rfl fnPoints_named Tryz.func3 fnPoints_closed fnPoints_instance fnPoints_wrapper
    (fun os started H enc _ => fnPoints_lifted os started H enc)

theorem fnPoints_card : Rows.FnPointsCardSaid :=
  Claim7.holds_tied_plain_at .later [] [.data, .data, .data, .data, .sentinel, .sentinel, .pinned] true (true, "281e107cddaa3fbc7c165d4e34afe25706d678348f51bc0813be3f49aad1ba50") true
    fnPoints_holds (fun _ h => by cases h) (by kernel_rfl) (fun _ h => by cases h) fnPoints_row_tie rfl ⟨rfl, rfl⟩ (by kernel_rfl) rfl
    (fun f fn hf hfn => by
      obtain rfl : f = 3 := Option.some.inj (fnPoints_named.symm.trans hf) |>.symm
      obtain rfl : fn = Tryz.f3 := (Option.some.inj (Tryz.func3.symm.trans hfn)).symm
      refine ⟨by kernel_rfl, fun j t ht => ?_⟩
      rw [Tryz.params3] at ht
      have hm := List.mem_of_getElem? (by simpa using ht)
      simp only [List.mem_cons, List.not_mem_nil, or_false] at hm
      rcases hm with rfl | rfl <;> exact (show Tryz.prog.wantsStandIn _ = false by kernel_rfl))
    (by kernel_rfl)

end Go.Proofs.YtpfipmomchgdaaaGreatDoor
