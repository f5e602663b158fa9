/- Every two merges handed to MergePair: the program and the reference return the same. No condition. -/
import Derived.Test.YtmodhpgnkbnbaaaMrg2
import Derived.Test.YtmodhpgnkbnbaaaLiftM
import Derived.Test.YtmodhpgnkbnbaaaLift
import Derived.Test.YtmodhpgnkbnbaaaHead
set_option linter.unusedSimpArgs false
set_option linter.unusedVariables false
namespace Go.Proofs.Ytmodhpgnkbnbaaa
open Go.ChangeShapes Go.WideShapes Go.ChangeAt Go.RowKit Go.Joins

set_option maxRecDepth 100000 in
theorem fnExactMergePair_lifted (os : Os) (started : os.Started) (H : Type) (enc : TypeId × Value → H) :
    ReturnsInHanded {} Try.checked os 12 .any (Rows.fnExactMergePairSpec.pre6 enc Try.prog Try.f12 Rows.fnExactMergePairRow.domain false) (Rows.fnExactMergePairSpec.post enc Try.prog Try.f12 false true false false) := by
  refine returnsInHanded_of_change (C := Try.checked) own started (by kernel_rfl) Try.func12
    (ChangeSpec.witness6 (enc := enc) (C := Try.checked) false ⟨#[], #[.agg #[.int .i64 0, .int .i64 0, .int .i64 0, .int .i64 0, .int .i64 0], .agg #[.int .i64 0, .int .i64 0, .int .i64 0, .int .i64 0, .int .i64 0]], []⟩ 8 (by kernel_rfl) (by kernel_rfl) (by kernel_rfl) (by kernel_rfl)) ?_
  intro W base args ds gs before hval0 hW _ _
  have hval : ∀ (j : Nat) t v, Try.f12.params[j]? = some t → args[j]? = some v → Value.okWide Try.prog W .any base t v := hval0
  have hW' := hW
  obtain ⟨p, q, hA0, hV, hbf, _, _⟩ := hW
  have hA : DataW.TrodAll enc Try.prog W 0 (fun _ => true) true Try.f12.params.toList args.toList ds p := hA0
  rw [Try.params12] at hA hval
  obtain ⟨v0, v1, d0, d1, p0, p1, rfl, rfl, _, h0, h1⟩ := trodAll_two hA
  obtain ⟨rfl, _⟩ := trodVars_none hV
  obtain ⟨x00, x01, x02, x03, x04, rfl⟩ := merge_form (hval 0 64 v0 rfl rfl) h0
  obtain ⟨x10, x11, x12, x13, x14, rfl⟩ := merge_form (hval 1 64 v1 rfl rfl) h1
  refine (lawMergePair ⟨x00, x01, x02, x03, x04⟩ ⟨x10, x11, x12, x13, x14⟩ W).mono fun e W' ⟨he, hb⟩ => ⟨_, he, ?_⟩
  exact law_post laidOut (by rw [Try.params12]; intro t ht; simp only [List.mem_cons, List.not_mem_nil, or_false] at ht; rcases ht with rfl | rfl <;> exact ⟨by kernel_rfl, of_decide_eq_true (by kernel_rfl)⟩) rfl rfl Try.underlying4 hW' rfl hb

theorem fnExactMergePair_named : Try.pinned.checked.prog.funcNamed Rows.fnExactMergePairRow.func = some 12 := by kernel_rfl
theorem fnExactMergePair_closed : joinedFacts Try.pinned.checked.prog 12 Try.f12 Rows.fnExactMergePairSpec Rows.fnExactMergePairRow = true := by
  refine facts_of Try.prog 12 Try.f12 _ _ may_enter lifts_final make_cut laid_out maps_rowed stops_none stop_knobs stops_heard rfl rfl ?_
  repeat' (with_reducible refine and_t ?_ ?_)
  all_goals (as_aux_lemma => kernel_rfl)
theorem fnExactMergePair_instance : Try.f12.isInstance Try.pinned.checked.prog Rows.fnExactMergePairRow.origin Rows.fnExactMergePairRow.targs := of_decide_eq_true (by kernel_rfl)
theorem fnExactMergePair_wrapper : Try.f12.isWrapper Try.pinned.checked.prog Rows.fnExactMergePairRow.wrapper Rows.fnExactMergePairRow.mainSum := by unfold Func.isWrapper; first | (rw [if_pos (by decide +kernel)]; kernel_rfl) | (rw [if_neg (by decide +kernel)]; exact ⟨rfl, rfl⟩)
theorem fnExactMergePair_holds : Rows.FnExactMergePairSaid :=
  OpenClaim.holds_of_wide 12 Try.f12 rfl rfl rfl rfl rfl rfl rfl ⟨rfl, rfl, rfl, rfl, rfl⟩ rfl rfl rfl rfl rfl fnExactMergePair_named Try.func12 fnExactMergePair_closed fnExactMergePair_instance fnExactMergePair_wrapper
    (fun os started H enc _ => fnExactMergePair_lifted os started H enc)

end Go.Proofs.Ytmodhpgnkbnbaaa
