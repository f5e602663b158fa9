/- Every region and number handed to GrowRegion: the program and the reference return the same. No condition. -/
import Derived.Test.YtmodhpgnkbnbaaaLaw1
import Derived.Test.YtmodhpgnkbnbaaaLift
import Derived.Test.YtmodhpgnkbnbaaaHead
set_option linter.unusedSimpArgs false
set_option linter.unusedVariables false
namespace Go.Proofs.Ytmodhpgnkbnbaaa
open Go.ChangeShapes Go.WideShapes Go.ChangeAt Go.RowKit Go.Joins

set_option maxRecDepth 100000 in
theorem fnExactGrowRegion_lifted (os : Os) (started : os.Started) (H : Type) (enc : TypeId × Value → H) :
    ReturnsInHanded {} Try.checked os 7 .any (Rows.fnExactGrowRegionSpec.pre6 enc Try.prog Try.f7 Rows.fnExactGrowRegionRow.domain false) (Rows.fnExactGrowRegionSpec.post enc Try.prog Try.f7 false true false false) := by
  refine returnsInHanded_of_change (C := Try.checked) own started (by kernel_rfl) Try.func7
    (ChangeSpec.witness6 (enc := enc) (C := Try.checked) false ⟨#[], #[.agg #[.int .i64 0, .int .i64 0, .int .i64 0, .int .i64 0], .int .i64 0], []⟩ 8 (by kernel_rfl) (by kernel_rfl) (by kernel_rfl) (by kernel_rfl)) ?_
  intro W base args ds gs before hval0 hW _ _
  have hval : ∀ (j : Nat) t v, Try.f7.params[j]? = some t → args[j]? = some v → Value.okWide Try.prog W .any base t v := hval0
  have hW' := hW
  obtain ⟨p, q, hA0, hV, hbf, _, _⟩ := hW
  have hA : DataW.TrodAll enc Try.prog W 0 (fun _ => true) true Try.f7.params.toList args.toList ds p := hA0
  rw [Try.params7] at hA hval
  obtain ⟨v0, v1, d0, d1, p0, p1, rfl, rfl, _, h0, h1⟩ := trodAll_two hA
  obtain ⟨rfl, _⟩ := trodVars_none hV
  obtain ⟨c0, c1, c2, c3, _, _, _, _, _, rfl, _, _, hy0, hy1, hy2, hy3⟩ := open_agg4 Try.underlying23 (by kernel_rfl) (by kernel_rfl) (hval 0 23 v0 rfl rfl) h0
  obtain ⟨x00, rfl, _⟩ := int_form Try.underlying2 hy0
  obtain ⟨x01, rfl, _⟩ := int_form Try.underlying2 hy1
  obtain ⟨x02, rfl, _⟩ := int_form Try.underlying2 hy2
  obtain ⟨x03, rfl, _⟩ := int_form Try.underlying2 hy3
  obtain ⟨n1, rfl, _, _, _⟩ := open_int Try.underlying2 (hval 1 2 v1 rfl rfl) h1
  refine (lawGrowRegion x00 x01 x02 x03 n1 W).mono fun e W' ⟨he, hb⟩ => ⟨_, he, ?_⟩
  exact law_post laidOut (by rw [Try.params7]; intro t ht; simp only [List.mem_cons, List.not_mem_nil, or_false] at ht; rcases ht with rfl | rfl <;> exact ⟨by kernel_rfl, of_decide_eq_true (by kernel_rfl)⟩) rfl rfl Try.underlying4 hW' rfl hb

theorem fnExactGrowRegion_named : Try.pinned.checked.prog.funcNamed Rows.fnExactGrowRegionRow.func = some 7 := by kernel_rfl
theorem fnExactGrowRegion_closed : joinedFacts Try.pinned.checked.prog 7 Try.f7 Rows.fnExactGrowRegionSpec Rows.fnExactGrowRegionRow = true := by
  refine facts_of Try.prog 7 Try.f7 _ _ may_enter lifts_final make_cut laid_out maps_rowed stops_none stop_knobs stops_heard rfl rfl ?_
  repeat' (with_reducible refine and_t ?_ ?_)
  all_goals (as_aux_lemma => kernel_rfl)
theorem fnExactGrowRegion_instance : Try.f7.isInstance Try.pinned.checked.prog Rows.fnExactGrowRegionRow.origin Rows.fnExactGrowRegionRow.targs := of_decide_eq_true (by kernel_rfl)
theorem fnExactGrowRegion_wrapper : Try.f7.isWrapper Try.pinned.checked.prog Rows.fnExactGrowRegionRow.wrapper Rows.fnExactGrowRegionRow.mainSum := by unfold Func.isWrapper; first | (rw [if_pos (by decide +kernel)]; kernel_rfl) | (rw [if_neg (by decide +kernel)]; exact ⟨rfl, rfl⟩)
theorem fnExactGrowRegion_holds : Rows.FnExactGrowRegionSaid :=
  OpenClaim.holds_of_wide 7 Try.f7 rfl rfl rfl rfl rfl rfl rfl ⟨rfl, rfl, rfl, rfl, rfl⟩ rfl rfl rfl rfl rfl fnExactGrowRegion_named Try.func7 fnExactGrowRegion_closed fnExactGrowRegion_instance fnExactGrowRegion_wrapper
    (fun os started H enc _ => fnExactGrowRegion_lifted os started H enc)

end Go.Proofs.Ytmodhpgnkbnbaaa
