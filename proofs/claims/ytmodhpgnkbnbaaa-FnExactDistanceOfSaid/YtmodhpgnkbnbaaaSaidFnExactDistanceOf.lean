/- Every two points handed to DistanceOf: the program and the reference return the same. No condition. -/
import Derived.Test.YtmodhpgnkbnbaaaLaw1
import Derived.Test.YtmodhpgnkbnbaaaLift
import Derived.Test.YtmodhpgnkbnbaaaHead
set_option linter.unusedSimpArgs false
set_option linter.unusedVariables false
namespace Go.Proofs.Ytmodhpgnkbnbaaa
open Go.ChangeShapes Go.WideShapes Go.ChangeAt Go.RowKit Go.Joins

set_option maxRecDepth 100000 in
theorem fnExactDistanceOf_lifted (os : Os) (started : os.Started) (H : Type) (enc : TypeId × Value → H) :
    ReturnsInHanded {} Try.checked os 4 .any (Rows.fnExactDistanceOfSpec.pre6 enc Try.prog Try.f4 Rows.fnExactDistanceOfRow.domain false) (Rows.fnExactDistanceOfSpec.post enc Try.prog Try.f4 false true false false) := by
  refine returnsInHanded_of_change (C := Try.checked) own started (by kernel_rfl) Try.func4
    (ChangeSpec.witness6 (enc := enc) (C := Try.checked) false ⟨#[], #[.agg #[.int .i64 0, .int .i64 0], .agg #[.int .i64 0, .int .i64 0]], []⟩ 8 (by kernel_rfl) (by kernel_rfl) (by kernel_rfl) (by kernel_rfl)) ?_
  intro W base args ds gs before hval0 hW _ _
  have hval : ∀ (j : Nat) t v, Try.f4.params[j]? = some t → args[j]? = some v → Value.okWide Try.prog W .any base t v := hval0
  have hW' := hW
  obtain ⟨p, q, hA0, hV, hbf, _, _⟩ := hW
  have hA : DataW.TrodAll enc Try.prog W 0 (fun _ => true) true Try.f4.params.toList args.toList ds p := hA0
  rw [Try.params4] at hA hval
  obtain ⟨v0, v1, d0, d1, p0, p1, rfl, rfl, _, h0, h1⟩ := trodAll_two hA
  obtain ⟨rfl, _⟩ := trodVars_none hV
  obtain ⟨c0, c1, _, _, _, rfl, _, _, hy0, hy1⟩ := open_agg2 Try.underlying29 (by kernel_rfl) (by kernel_rfl) (hval 0 29 v0 rfl rfl) h0
  obtain ⟨x00, rfl, _⟩ := int_form Try.underlying2 hy0
  obtain ⟨x01, rfl, _⟩ := int_form Try.underlying2 hy1
  obtain ⟨c0, c1, _, _, _, rfl, _, _, hy0, hy1⟩ := open_agg2 Try.underlying29 (by kernel_rfl) (by kernel_rfl) (hval 1 29 v1 rfl rfl) h1
  obtain ⟨x10, rfl, _⟩ := int_form Try.underlying2 hy0
  obtain ⟨x11, rfl, _⟩ := int_form Try.underlying2 hy1
  refine (lawDistanceOf x00 x01 x10 x11 W).mono fun e W' ⟨he, hb⟩ => ⟨_, he, ?_⟩
  exact law_post laidOut (by rw [Try.params4]; intro t ht; simp only [List.mem_cons, List.not_mem_nil, or_false] at ht; rcases ht with rfl | rfl <;> exact ⟨by kernel_rfl, of_decide_eq_true (by kernel_rfl)⟩) rfl rfl Try.underlying4 hW' rfl hb

theorem fnExactDistanceOf_named : Try.pinned.checked.prog.funcNamed Rows.fnExactDistanceOfRow.func = some 4 := by kernel_rfl
theorem fnExactDistanceOf_closed : joinedFacts Try.pinned.checked.prog 4 Try.f4 Rows.fnExactDistanceOfSpec Rows.fnExactDistanceOfRow = true := by
  refine facts_of Try.prog 4 Try.f4 _ _ may_enter lifts_final make_cut laid_out maps_rowed stops_none stop_knobs stops_heard rfl rfl ?_
  repeat' (with_reducible refine and_t ?_ ?_)
  all_goals (as_aux_lemma => kernel_rfl)
theorem fnExactDistanceOf_instance : Try.f4.isInstance Try.pinned.checked.prog Rows.fnExactDistanceOfRow.origin Rows.fnExactDistanceOfRow.targs := of_decide_eq_true (by kernel_rfl)
theorem fnExactDistanceOf_wrapper : Try.f4.isWrapper Try.pinned.checked.prog Rows.fnExactDistanceOfRow.wrapper Rows.fnExactDistanceOfRow.mainSum := by unfold Func.isWrapper; first | (rw [if_pos (by decide +kernel)]; kernel_rfl) | (rw [if_neg (by decide +kernel)]; exact ⟨rfl, rfl⟩)
theorem fnExactDistanceOf_holds : Rows.FnExactDistanceOfSaid :=
  OpenClaim.holds_of_wide 4 Try.f4 rfl rfl rfl rfl rfl rfl rfl ⟨rfl, rfl, rfl, rfl, rfl⟩ rfl rfl rfl rfl rfl fnExactDistanceOf_named Try.func4 fnExactDistanceOf_closed fnExactDistanceOf_instance fnExactDistanceOf_wrapper
    (fun os started H enc _ => fnExactDistanceOf_lifted os started H enc)

end Go.Proofs.Ytmodhpgnkbnbaaa
