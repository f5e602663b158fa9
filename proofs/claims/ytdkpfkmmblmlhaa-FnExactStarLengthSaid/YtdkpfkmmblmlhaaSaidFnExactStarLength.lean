/- Every pins and root handed to StarLength: the program and the reference return the same. No condition. -/
import Derived.Test.YtdkpfkmmblmlhaaPuStar
import Derived.Test.YtdkpfkmmblmlhaaWPb01
import Derived.Test.YtdkpfkmmblmlhaaOpn
import Derived.Test.YtdkpfkmmblmlhaaLift
import Derived.Test.YtdkpfkmmblmlhaaHead
set_option linter.unusedSimpArgs false
set_option linter.unusedVariables false
namespace Go.Proofs.Ytdkpfkmmblmlhaa
open Go.ChangeShapes Go.WideShapes Go.ChangeAt Go.RowKit Go.Joins

set_option maxRecDepth 100000 in
theorem fnExactStarLength_lifted (os : Os) (started : os.Started) (H : Type) (enc : TypeId × Value → H) :
    ReturnsInHanded {} Try.checked os 5 .any (Rows.fnExactStarLengthSpec.pre6 enc Try.prog Try.f5 Rows.fnExactStarLengthRow.domain false) (Rows.fnExactStarLengthSpec.post enc Try.prog Try.f5 false true false false) := by
  refine returnsInHanded_of_change (C := Try.checked) own started (by kernel_rfl) Try.func5
    (ChangeSpec.witness6 (enc := enc) (C := Try.checked) false ⟨#[], #[.slice none 0 0, .agg #[.int .i64 0, .int .i64 0]], []⟩ 8 (by kernel_rfl) (by kernel_rfl) (by kernel_rfl) (by kernel_rfl)) ?_
  intro W base args ds gs before hval0 hW _ _
  have hval : ∀ (j : Nat) t v, Try.f5.params[j]? = some t → args[j]? = some v → Value.okWide Try.prog W .any base t v := hval0
  have hW' := hW
  obtain ⟨p, q, hA0, hV, hbf, _, _⟩ := hW
  have hA : DataW.TrodAll enc Try.prog W 0 (fun _ => true) true Try.f5.params.toList args.toList ds p := hA0
  rw [Try.params5] at hA hval
  obtain ⟨v0, v1, d0, d1, p0, p1, rfl, rfl, _, h0, h1⟩ := trodAll_two hA
  obtain ⟨rfl, _⟩ := trodVars_none hV
  obtain ⟨_, _, _, rfl⟩ := okWide_slice Try.underlying22 (hval 0 22 v0 rfl rfl)
  obtain ⟨m0, hm0⟩ := h0
  obtain ⟨A0, cap0, l0, fp0, e0, F0, b0, r0⟩ := open_pts Try.underlying22 Try.underlying32 (by kernel_rfl) rfl rfl (by kernel_rfl) (by kernel_rfl) Try.underlying2 Try.underlying2 hm0
  cases e0
  obtain ⟨c0, c1, _, _, _, rfl, _, _, hy0, hy1⟩ := open_agg2 Try.underlying32 (by kernel_rfl) (by kernel_rfl) (hval 1 32 v1 rfl rfl) h1
  obtain ⟨x10, rfl, w10⟩ := int_form Try.underlying2 hy0
  obtain ⟨x11, rfl, w11⟩ := int_form Try.underlying2 hy1
  refine (c_laws_FnExactStarLength (r := true) (lawStarLength_eq l0 (x10, x11) b0) F0).mono fun e W' ⟨he, hb⟩ => ⟨_, he, ?_⟩
  exact law_post laidOut (by rw [Try.params5]; intro t ht; simp only [List.mem_cons, List.not_mem_nil, or_false] at ht; rcases ht with rfl | rfl <;> exact ⟨by kernel_rfl, of_decide_eq_true (by kernel_rfl)⟩) rfl rfl Try.underlying4 hW' rfl hb.below

theorem fnExactStarLength_named : Try.pinned.checked.prog.funcNamed Rows.fnExactStarLengthRow.func = some 5 := by kernel_rfl
theorem fnExactStarLength_closed : joinedFacts Try.pinned.checked.prog 5 Try.f5 Rows.fnExactStarLengthSpec Rows.fnExactStarLengthRow = true := by
  refine facts_of Try.prog 5 Try.f5 _ _ may_enter lifts_final make_cut laid_out maps_rowed stops_none stop_knobs stops_heard rfl rfl ?_
  repeat' (with_reducible refine and_t ?_ ?_)
  all_goals (as_aux_lemma => kernel_rfl)
theorem fnExactStarLength_instance : Try.f5.isInstance Try.pinned.checked.prog Rows.fnExactStarLengthRow.origin Rows.fnExactStarLengthRow.targs := of_decide_eq_true (by kernel_rfl)
theorem fnExactStarLength_wrapper : Try.f5.isWrapper Try.pinned.checked.prog Rows.fnExactStarLengthRow.wrapper Rows.fnExactStarLengthRow.mainSum := by unfold Func.isWrapper; first | (rw [if_pos (by decide +kernel)]; kernel_rfl) | (rw [if_neg (by decide +kernel)]; exact ⟨rfl, rfl⟩)
theorem fnExactStarLength_holds : Rows.FnExactStarLengthSaid :=
  OpenClaim.holds_of_wide 5 Try.f5 rfl rfl rfl rfl rfl rfl rfl ⟨rfl, rfl, rfl, rfl, rfl⟩ rfl rfl rfl rfl rfl fnExactStarLength_named Try.func5 fnExactStarLength_closed fnExactStarLength_instance fnExactStarLength_wrapper
    (fun os started H enc _ => fnExactStarLength_lifted os started H enc)

end Go.Proofs.Ytdkpfkmmblmlhaa
