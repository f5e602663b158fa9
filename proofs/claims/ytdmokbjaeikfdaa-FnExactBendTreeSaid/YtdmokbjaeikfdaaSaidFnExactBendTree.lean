/- The program's BendTree returns what the reference's returns, for all arguments. No condition. -/
import Derived.Test.YtdmokbjaeikfdaaPuBt2
import Derived.Test.YtdmokbjaeikfdaaWBt02
import Derived.Test.YtdmokbjaeikfdaaOpn
import Derived.Test.YtdmokbjaeikfdaaLift
import Derived.Test.YtdmokbjaeikfdaaHead
set_option linter.unusedSimpArgs false
set_option linter.unusedVariables false
namespace Go.Proofs.Ytdmokbjaeikfdaa
open Go.ChangeShapes Go.WideShapes Go.ChangeAt Go.RowKit Go.Joins

set_option maxRecDepth 100000 in
set_option maxHeartbeats 4000000 in
theorem fnExactBendTree_lifted (os : Os) (started : os.Started) (H : Type) (enc : TypeId × Value → H) :
    ReturnsInHanded {} Try.checked os 3 .any (Rows.fnExactBendTreeSpec.pre6 enc Try.prog Try.f3 Rows.fnExactBendTreeRow.domain false) (Rows.fnExactBendTreeSpec.post enc Try.prog Try.f3 false true false false) := by
  refine returnsInHanded_of_change (C := Try.checked) own started (by kernel_rfl) Try.func3
    (ChangeSpec.witness6 (enc := enc) (C := Try.checked) false ⟨#[], #[.slice none 0 0], []⟩ 8 (by kernel_rfl) (by kernel_rfl) (by kernel_rfl) (by kernel_rfl)) ?_
  intro W base args ds gs before hval0 hW _ _
  have hval : ∀ (j : Nat) t v, Try.f3.params[j]? = some t → args[j]? = some v → Value.okWide Try.prog W .any base t v := hval0
  have hW' := hW
  obtain ⟨p, q, hA0, hV, hbf, _, _⟩ := hW
  have hA : DataW.TrodAll enc Try.prog W 0 (fun _ => true) true Try.f3.params.toList args.toList ds p := hA0
  rw [Try.params3] at hA hval
  obtain ⟨v0, d0, rfl, rfl, h0⟩ := trodAll_one hA
  obtain ⟨rfl, _⟩ := trodVars_none hV
  obtain ⟨_, _, _, rfl⟩ := okWide_slice Try.underlying22 (hval 0 22 v0 rfl rfl)
  obtain ⟨m0, hm0⟩ := h0
  obtain ⟨A0, cap0, l0, fp0, e0, F0, b0, r0⟩ := open_pts Try.underlying22 Try.underlying52 (by kernel_rfl) rfl rfl (by kernel_rfl) (by kernel_rfl) Try.underlying2 Try.underlying2 hm0
  cases e0
  refine (c_laws_FnExactBendTree (r := true) (lawBendTree_eq l0 b0) F0).mono fun e W' ⟨he, hb⟩ => ⟨_, he, ?_⟩
  exact law_post laidOut (by rw [Try.params3]; intro t ht; simp only [List.mem_cons, List.not_mem_nil, or_false] at ht; subst ht; exact ⟨by kernel_rfl, of_decide_eq_true (by kernel_rfl)⟩) rfl rfl Try.underlying4 hW' rfl hb.below

theorem fnExactBendTree_named : Try.pinned.checked.prog.funcNamed Rows.fnExactBendTreeRow.func = some 3 := by kernel_rfl
set_option maxHeartbeats 4000000 in
theorem fnExactBendTree_closed : joinedFacts Try.pinned.checked.prog 3 Try.f3 Rows.fnExactBendTreeSpec Rows.fnExactBendTreeRow = true := by
  refine facts_of Try.prog 3 Try.f3 _ _ may_enter lifts_final make_cut laid_out maps_rowed stops_none stop_knobs stops_heard rfl rfl ?_
  repeat' (with_reducible refine and_t ?_ ?_)
  all_goals (as_aux_lemma => kernel_rfl)
theorem fnExactBendTree_instance : Try.f3.isInstance Try.pinned.checked.prog Rows.fnExactBendTreeRow.origin Rows.fnExactBendTreeRow.targs := of_decide_eq_true (by kernel_rfl)
theorem fnExactBendTree_wrapper : Try.f3.isWrapper Try.pinned.checked.prog Rows.fnExactBendTreeRow.wrapper Rows.fnExactBendTreeRow.mainSum := by unfold Func.isWrapper; first | (rw [if_pos (by decide +kernel)]; kernel_rfl) | (rw [if_neg (by decide +kernel)]; exact ⟨rfl, rfl⟩)
theorem fnExactBendTree_holds : Rows.FnExactBendTreeSaid :=
  OpenClaim.holds_of_wide 3 Try.f3 rfl rfl rfl rfl rfl rfl rfl ⟨rfl, rfl, rfl, rfl, rfl⟩ rfl rfl rfl rfl rfl fnExactBendTree_named Try.func3 fnExactBendTree_closed fnExactBendTree_instance fnExactBendTree_wrapper
    (fun os started H enc _ => fnExactBendTree_lifted os started H enc)

end Go.Proofs.Ytdmokbjaeikfdaa
