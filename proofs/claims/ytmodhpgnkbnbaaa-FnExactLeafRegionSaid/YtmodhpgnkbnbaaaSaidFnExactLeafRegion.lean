/- Every point handed to LeafRegion: the program and the reference return the same. No condition. -/
import Derived.Test.YtmodhpgnkbnbaaaLaw1
import Derived.Test.YtmodhpgnkbnbaaaLift
import Derived.Test.YtmodhpgnkbnbaaaHead
set_option linter.unusedSimpArgs false
set_option linter.unusedVariables false
namespace Go.Proofs.Ytmodhpgnkbnbaaa
open Go.ChangeShapes Go.WideShapes Go.ChangeAt Go.RowKit Go.Joins

set_option maxRecDepth 100000 in
theorem fnExactLeafRegion_lifted (os : Os) (started : os.Started) (H : Type) (enc : TypeId × Value → H) :
    ReturnsInHanded {} Try.checked os 6 .any (Rows.fnExactLeafRegionSpec.pre6 enc Try.prog Try.f6 Rows.fnExactLeafRegionRow.domain false) (Rows.fnExactLeafRegionSpec.post enc Try.prog Try.f6 false true false false) := by
  refine returnsInHanded_of_change (C := Try.checked) own started (by kernel_rfl) Try.func6
    (ChangeSpec.witness6 (enc := enc) (C := Try.checked) false ⟨#[], #[.agg #[.int .i64 0, .int .i64 0]], []⟩ 8 (by kernel_rfl) (by kernel_rfl) (by kernel_rfl) (by kernel_rfl)) ?_
  intro W base args ds gs before hval0 hW _ _
  have hval : ∀ (j : Nat) t v, Try.f6.params[j]? = some t → args[j]? = some v → Value.okWide Try.prog W .any base t v := hval0
  have hW' := hW
  obtain ⟨p, q, hA0, hV, hbf, _, _⟩ := hW
  have hA : DataW.TrodAll enc Try.prog W 0 (fun _ => true) true Try.f6.params.toList args.toList ds p := hA0
  rw [Try.params6] at hA hval
  obtain ⟨v0, d0, rfl, rfl, h0⟩ := trodAll_one hA
  obtain ⟨rfl, _⟩ := trodVars_none hV
  obtain ⟨c0, c1, _, _, _, rfl, _, _, hy0, hy1⟩ := open_agg2 Try.underlying29 (by kernel_rfl) (by kernel_rfl) (hval 0 29 v0 rfl rfl) h0
  obtain ⟨x00, rfl, _⟩ := int_form Try.underlying2 hy0
  obtain ⟨x01, rfl, _⟩ := int_form Try.underlying2 hy1
  refine (lawLeafRegion x00 x01 W).mono fun e W' ⟨he, hb⟩ => ⟨_, he, ?_⟩
  exact law_post laidOut (by rw [Try.params6]; intro t ht; simp only [List.mem_cons, List.not_mem_nil, or_false] at ht; subst ht; exact ⟨by kernel_rfl, of_decide_eq_true (by kernel_rfl)⟩) rfl rfl Try.underlying4 hW' rfl hb

theorem fnExactLeafRegion_named : Try.pinned.checked.prog.funcNamed Rows.fnExactLeafRegionRow.func = some 6 := by kernel_rfl
theorem fnExactLeafRegion_closed : joinedFacts Try.pinned.checked.prog 6 Try.f6 Rows.fnExactLeafRegionSpec Rows.fnExactLeafRegionRow = true := by
  refine facts_of Try.prog 6 Try.f6 _ _ may_enter lifts_final make_cut laid_out maps_rowed stops_none stop_knobs stops_heard rfl rfl ?_
  repeat' (with_reducible refine and_t ?_ ?_)
  all_goals (as_aux_lemma => kernel_rfl)
theorem fnExactLeafRegion_instance : Try.f6.isInstance Try.pinned.checked.prog Rows.fnExactLeafRegionRow.origin Rows.fnExactLeafRegionRow.targs := of_decide_eq_true (by kernel_rfl)
theorem fnExactLeafRegion_wrapper : Try.f6.isWrapper Try.pinned.checked.prog Rows.fnExactLeafRegionRow.wrapper Rows.fnExactLeafRegionRow.mainSum := by unfold Func.isWrapper; first | (rw [if_pos (by decide +kernel)]; kernel_rfl) | (rw [if_neg (by decide +kernel)]; exact ⟨rfl, rfl⟩)
theorem fnExactLeafRegion_holds : Rows.FnExactLeafRegionSaid :=
  OpenClaim.holds_of_wide 6 Try.f6 rfl rfl rfl rfl rfl rfl rfl ⟨rfl, rfl, rfl, rfl, rfl⟩ rfl rfl rfl rfl rfl fnExactLeafRegion_named Try.func6 fnExactLeafRegion_closed fnExactLeafRegion_instance fnExactLeafRegion_wrapper
    (fun os started H enc _ => fnExactLeafRegion_lifted os started H enc)

end Go.Proofs.Ytmodhpgnkbnbaaa
