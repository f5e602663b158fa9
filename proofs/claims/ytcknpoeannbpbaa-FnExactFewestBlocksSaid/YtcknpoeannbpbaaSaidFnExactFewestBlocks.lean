/- The program's FewestBlocks answers as the reference's does, for all mazes and points. No condition. -/
import Derived.Test.YtcknpoeannbpbaaPuF1
import Derived.Test.YtcknpoeannbpbaaWMz03
import Derived.Test.YtcknpoeannbpbaaOpM
import Derived.Test.YtcknpoeannbpbaaOpn
import Derived.Test.YtcknpoeannbpbaaLift
import Derived.Test.YtcknpoeannbpbaaHead
set_option linter.unusedSimpArgs false
set_option linter.unusedVariables false
namespace Go.Proofs.Ytcknpoeannbpbaa
open Go.ChangeShapes Go.WideShapes Go.ChangeAt Go.RowKit Go.Joins

set_option maxRecDepth 100000 in
set_option maxHeartbeats 4000000 in
theorem fnExactFewestBlocks_lifted (os : Os) (started : os.Started) (H : Type) (enc : TypeId × Value → H) :
    ReturnsInHanded {} Try.checked os 5 .any (Rows.fnExactFewestBlocksSpec.pre6 enc Try.prog Try.f5 Rows.fnExactFewestBlocksRow.domain false) (Rows.fnExactFewestBlocksSpec.post enc Try.prog Try.f5 false true false false) := by
  refine returnsInHanded_of_change (C := Try.checked) own started (by kernel_rfl) Try.func5
    (ChangeSpec.witness6 (enc := enc) (C := Try.checked) false ⟨#[], #[.agg #[.slice none 0 0], .agg #[.int .i64 0, .int .i64 0], .agg #[.int .i64 0, .int .i64 0]], []⟩ 8 (by kernel_rfl) (by kernel_rfl) (by kernel_rfl) (by kernel_rfl)) ?_
  intro W base args ds gs before hval0 hW _ _
  have hval : ∀ (j : Nat) t v, Try.f5.params[j]? = some t → args[j]? = some v → Value.okWide Try.prog W .any base t v := hval0
  have hW' := hW
  obtain ⟨p, q, hA0, hV, hbf, _, _⟩ := hW
  have hA : DataW.TrodAll enc Try.prog W 0 (fun _ => true) true Try.f5.params.toList args.toList ds p := hA0
  rw [Try.params5] at hA hval
  obtain ⟨v0, v1, v2, d0, d1, d2, p0, p1, p2, rfl, rfl, _, h0, h1, h2⟩ := trodAll_three hA
  obtain ⟨rfl, _⟩ := trodVars_none hV
  obtain ⟨c0, _, _, rfl, _, _, hy0⟩ := open_agg1 Try.underlying41 rfl (by kernel_rfl) (by kernel_rfl) (hval 0 41 v0 rfl rfl) h0
  obtain ⟨A0, cap0, l0, fp0, e0, F0, b0, r0⟩ := open_rows Try.underlying24 Try.underlying38 Try.underlying2 (by kernel_rfl) (by kernel_rfl) hy0
  cases e0
  obtain ⟨c0, c1, _, _, _, rfl, _, _, hy0, hy1⟩ := open_agg2 Try.underlying42 (by kernel_rfl) (by kernel_rfl) (hval 1 42 v1 rfl rfl) h1
  obtain ⟨x10, rfl, w10⟩ := int_form Try.underlying2 hy0
  obtain ⟨x11, rfl, w11⟩ := int_form Try.underlying2 hy1
  obtain ⟨c0, c1, _, _, _, rfl, _, _, hy0, hy1⟩ := open_agg2 Try.underlying42 (by kernel_rfl) (by kernel_rfl) (hval 2 42 v2 rfl rfl) h2
  obtain ⟨x20, rfl, w20⟩ := int_form Try.underlying2 hy0
  obtain ⟨x21, rfl, w21⟩ := int_form Try.underlying2 hy1
  refine (c_laws_FnExactFewestBlocks (r := true) (lawFewest_eq l0 b0 (fun r hr => (r0 r hr).1) _ _ _ _) F0).mono fun e W' ⟨he, hb⟩ => ⟨_, he, ?_⟩
  exact law_post laidOut (by rw [Try.params5]; intro t ht; simp only [List.mem_cons, List.not_mem_nil, or_false] at ht; rcases ht with rfl | rfl | rfl <;> exact ⟨by kernel_rfl, of_decide_eq_true (by kernel_rfl)⟩) rfl rfl Try.underlying4 hW' rfl hb.below

theorem fnExactFewestBlocks_named : Try.pinned.checked.prog.funcNamed Rows.fnExactFewestBlocksRow.func = some 5 := by kernel_rfl
set_option maxHeartbeats 4000000 in
theorem fnExactFewestBlocks_closed : joinedFacts Try.pinned.checked.prog 5 Try.f5 Rows.fnExactFewestBlocksSpec Rows.fnExactFewestBlocksRow = true := by
  refine facts_of Try.prog 5 Try.f5 _ _ may_enter lifts_final make_cut laid_out maps_rowed stops_none stop_knobs stops_heard rfl rfl ?_
  repeat' (with_reducible refine and_t ?_ ?_)
  all_goals (as_aux_lemma => kernel_rfl)
theorem fnExactFewestBlocks_instance : Try.f5.isInstance Try.pinned.checked.prog Rows.fnExactFewestBlocksRow.origin Rows.fnExactFewestBlocksRow.targs := of_decide_eq_true (by kernel_rfl)
theorem fnExactFewestBlocks_wrapper : Try.f5.isWrapper Try.pinned.checked.prog Rows.fnExactFewestBlocksRow.wrapper Rows.fnExactFewestBlocksRow.mainSum := by unfold Func.isWrapper; first | (rw [if_pos (by decide +kernel)]; kernel_rfl) | (rw [if_neg (by decide +kernel)]; exact ⟨rfl, rfl⟩)
theorem fnExactFewestBlocks_holds : Rows.FnExactFewestBlocksSaid :=
  OpenClaim.holds_of_wide 5 Try.f5 rfl rfl rfl rfl rfl rfl rfl ⟨rfl, rfl, rfl, rfl, rfl⟩ rfl rfl rfl rfl rfl fnExactFewestBlocks_named Try.func5 fnExactFewestBlocks_closed fnExactFewestBlocks_instance fnExactFewestBlocks_wrapper
    (fun os started H enc _ => fnExactFewestBlocks_lifted os started H enc)

end Go.Proofs.Ytcknpoeannbpbaa
