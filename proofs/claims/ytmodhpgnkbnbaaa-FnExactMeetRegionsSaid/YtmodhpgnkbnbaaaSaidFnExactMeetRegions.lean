/- Every two regions handed to MeetRegions: the program and the reference return the same. No condition. -/
import Derived.Test.YtmodhpgnkbnbaaaLaw2
import Derived.Test.YtmodhpgnkbnbaaaLift
import Derived.Test.YtmodhpgnkbnbaaaHead
set_option linter.unusedSimpArgs false
set_option linter.unusedVariables false
namespace Go.Proofs.Ytmodhpgnkbnbaaa
open Go.ChangeShapes Go.WideShapes Go.ChangeAt Go.RowKit Go.Joins

set_option maxRecDepth 100000 in
theorem fnExactMeetRegions_lifted (os : Os) (started : os.Started) (H : Type) (enc : TypeId × Value → H) :
    ReturnsInHanded {} Try.checked os 8 .any (Rows.fnExactMeetRegionsSpec.pre6 enc Try.prog Try.f8 Rows.fnExactMeetRegionsRow.domain false) (Rows.fnExactMeetRegionsSpec.post enc Try.prog Try.f8 false true false false) := by
  refine returnsInHanded_of_change (C := Try.checked) own started (by kernel_rfl) Try.func8
    (ChangeSpec.witness6 (enc := enc) (C := Try.checked) false ⟨#[], #[.agg #[.int .i64 0, .int .i64 0, .int .i64 0, .int .i64 0], .agg #[.int .i64 0, .int .i64 0, .int .i64 0, .int .i64 0]], []⟩ 8 (by kernel_rfl) (by kernel_rfl) (by kernel_rfl) (by kernel_rfl)) ?_
  intro W base args ds gs before hval0 hW _ _
  have hval : ∀ (j : Nat) t v, Try.f8.params[j]? = some t → args[j]? = some v → Value.okWide Try.prog W .any base t v := hval0
  have hW' := hW
  obtain ⟨p, q, hA0, hV, hbf, _, _⟩ := hW
  have hA : DataW.TrodAll enc Try.prog W 0 (fun _ => true) true Try.f8.params.toList args.toList ds p := hA0
  rw [Try.params8] at hA hval
  obtain ⟨v0, v1, d0, d1, p0, p1, rfl, rfl, _, h0, h1⟩ := trodAll_two hA
  obtain ⟨rfl, _⟩ := trodVars_none hV
  obtain ⟨c0, c1, c2, c3, _, _, _, _, _, rfl, _, _, hy0, hy1, hy2, hy3⟩ := open_agg4 Try.underlying23 (by kernel_rfl) (by kernel_rfl) (hval 0 23 v0 rfl rfl) h0
  obtain ⟨x00, rfl, _⟩ := int_form Try.underlying2 hy0
  obtain ⟨x01, rfl, _⟩ := int_form Try.underlying2 hy1
  obtain ⟨x02, rfl, _⟩ := int_form Try.underlying2 hy2
  obtain ⟨x03, rfl, _⟩ := int_form Try.underlying2 hy3
  obtain ⟨c0, c1, c2, c3, _, _, _, _, _, rfl, _, _, hy0, hy1, hy2, hy3⟩ := open_agg4 Try.underlying23 (by kernel_rfl) (by kernel_rfl) (hval 1 23 v1 rfl rfl) h1
  obtain ⟨x10, rfl, _⟩ := int_form Try.underlying2 hy0
  obtain ⟨x11, rfl, _⟩ := int_form Try.underlying2 hy1
  obtain ⟨x12, rfl, _⟩ := int_form Try.underlying2 hy2
  obtain ⟨x13, rfl, _⟩ := int_form Try.underlying2 hy3
  refine (lawMeetRegions x00 x01 x02 x03 x10 x11 x12 x13 W).mono fun e W' ⟨he, hb⟩ => ⟨_, he, ?_⟩
  exact law_post laidOut (by rw [Try.params8]; intro t ht; simp only [List.mem_cons, List.not_mem_nil, or_false] at ht; rcases ht with rfl | rfl <;> exact ⟨by kernel_rfl, of_decide_eq_true (by kernel_rfl)⟩) rfl rfl Try.underlying4 hW' rfl hb

theorem fnExactMeetRegions_named : Try.pinned.checked.prog.funcNamed Rows.fnExactMeetRegionsRow.func = some 8 := by kernel_rfl
theorem fnExactMeetRegions_closed : joinedFacts Try.pinned.checked.prog 8 Try.f8 Rows.fnExactMeetRegionsSpec Rows.fnExactMeetRegionsRow = true := by
  refine facts_of Try.prog 8 Try.f8 _ _ may_enter lifts_final make_cut laid_out maps_rowed stops_none stop_knobs stops_heard rfl rfl ?_
  repeat' (with_reducible refine and_t ?_ ?_)
  all_goals (as_aux_lemma => kernel_rfl)
theorem fnExactMeetRegions_instance : Try.f8.isInstance Try.pinned.checked.prog Rows.fnExactMeetRegionsRow.origin Rows.fnExactMeetRegionsRow.targs := of_decide_eq_true (by kernel_rfl)
theorem fnExactMeetRegions_wrapper : Try.f8.isWrapper Try.pinned.checked.prog Rows.fnExactMeetRegionsRow.wrapper Rows.fnExactMeetRegionsRow.mainSum := by unfold Func.isWrapper; first | (rw [if_pos (by decide +kernel)]; kernel_rfl) | (rw [if_neg (by decide +kernel)]; exact ⟨rfl, rfl⟩)
theorem fnExactMeetRegions_holds : Rows.FnExactMeetRegionsSaid :=
  OpenClaim.holds_of_wide 8 Try.f8 rfl rfl rfl rfl rfl rfl rfl ⟨rfl, rfl, rfl, rfl, rfl⟩ rfl rfl rfl rfl rfl fnExactMeetRegions_named Try.func8 fnExactMeetRegions_closed fnExactMeetRegions_instance fnExactMeetRegions_wrapper
    (fun os started H enc _ => fnExactMeetRegions_lifted os started H enc)

end Go.Proofs.Ytmodhpgnkbnbaaa
