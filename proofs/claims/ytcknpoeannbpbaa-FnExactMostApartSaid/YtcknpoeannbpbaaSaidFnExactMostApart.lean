/- The program's MostApart answers as the reference's does, for all mazes and points. No condition. -/
import Derived.Test.YtcknpoeannbpbaaPuF1
import Derived.Test.YtcknpoeannbpbaaWMz03
import Derived.Test.YtcknpoeannbpbaaOpM
import Derived.Test.YtcknpoeannbpbaaOpn
import Derived.Test.YtcknpoeannbpbaaLift
import Derived.Test.YtcknpoeannbpbaaHead
set_option linter.unusedSimpArgs false
set_option linter.unusedVariables false
namespace Go.Proofs.Ytcknpoeannbpbaa
open Go.ChangeShapes Go.WideShapes Go.ChangeAt Go.RowKit Go.Joins

set_option maxRecDepth 100000 in
set_option maxHeartbeats 4000000 in
theorem fnExactMostApart_lifted (os : Os) (started : os.Started) (H : Type) (enc : TypeId × Value → H) :
    ReturnsInHanded {} Try.checked os 4 .any (Rows.fnExactMostApartSpec.pre6 enc Try.prog Try.f4 Rows.fnExactMostApartRow.domain false) (Rows.fnExactMostApartSpec.post enc Try.prog Try.f4 false true false false) := by
  refine returnsInHanded_of_change (C := Try.checked) own started (by kernel_rfl) Try.func4
    (ChangeSpec.witness6 (enc := enc) (C := Try.checked) false ⟨#[], #[.agg #[.slice none 0 0], .agg #[.int .i64 0, .int .i64 0], .agg #[.int .i64 0, .int .i64 0]], []⟩ 8 (by kernel_rfl) (by kernel_rfl) (by kernel_rfl) (by kernel_rfl)) ?_
  intro W base args ds gs before hval0 hW _ _
  have hval : ∀ (j : Nat) t v, Try.f4.params[j]? = some t → args[j]? = some v → Value.okWide Try.prog W .any base t v := hval0
  have hW' := hW
  obtain ⟨p, q, hA0, hV, hbf, _, _⟩ := hW
  have hA : DataW.TrodAll enc Try.prog W 0 (fun _ => true) true Try.f4.params.toList args.toList ds p := hA0
  rw [Try.params4] at hA hval
  obtain ⟨v0, v1, v2, d0, d1, d2, p0, p1, p2, rfl, rfl, _, h0, h1, h2⟩ := trodAll_three hA
  obtain ⟨rfl, _⟩ := trodVars_none hV
  obtain ⟨c0, _, _, rfl, _, _, hy0⟩ := open_agg1 Try.underlying41 rfl (by kernel_rfl) (by kernel_rfl) (hval 0 41 v0 rfl rfl) h0
  obtain ⟨A0, cap0, l0, fp0, e0, F0, b0, r0⟩ := open_rows Try.underlying24 Try.underlying38 Try.underlying2 (by kernel_rfl) (by kernel_rfl) hy0
  cases e0
  obtain ⟨c0, c1, _, _, _, rfl, _, _, hy0, hy1⟩ := open_agg2 Try.underlying42 (by kernel_rfl) (by kernel_rfl) (hval 1 42 v1 rfl rfl) h1
  obtain ⟨x10, rfl, w10⟩ := int_form Try.underlying2 hy0
  obtain ⟨x11, rfl, w11⟩ := int_form Try.underlying2 hy1
  obtain ⟨c0, c1, _, _, _, rfl, _, _, hy0, hy1⟩ := open_agg2 Try.underlying42 (by kernel_rfl) (by kernel_rfl) (hval 2 42 v2 rfl rfl) h2
  obtain ⟨x20, rfl, w20⟩ := int_form Try.underlying2 hy0
  obtain ⟨x21, rfl, w21⟩ := int_form Try.underlying2 hy1
  refine (c_laws_FnExactMostApart (r := true) (lawMost_eq l0 b0 (fun r hr => (r0 r hr).1) _ _ _ _) F0).mono fun e W' ⟨he, hb⟩ => ⟨_, he, ?_⟩
  exact law_post laidOut (by rw [Try.params4]; intro t ht; simp only [List.mem_cons, List.not_mem_nil, or_false] at ht; rcases ht with rfl | rfl | rfl <;> exact ⟨by kernel_rfl, of_decide_eq_true (by kernel_rfl)⟩) rfl rfl Try.underlying4 hW' rfl hb.below

theorem fnExactMostApart_named : Try.pinned.checked.prog.funcNamed Rows.fnExactMostApartRow.func = some 4 := by kernel_rfl
set_option maxHeartbeats 4000000 in
theorem fnExactMostApart_closed : joinedFacts Try.pinned.checked.prog 4 Try.f4 Rows.fnExactMostApartSpec Rows.fnExactMostApartRow = true := by
  refine facts_of Try.prog 4 Try.f4 _ _ may_enter lifts_final make_cut laid_out maps_rowed stops_none stop_knobs stops_heard rfl rfl ?_
  repeat' (with_reducible refine and_t ?_ ?_)
  all_goals (as_aux_lemma => kernel_rfl)
theorem fnExactMostApart_instance : Try.f4.isInstance Try.pinned.checked.prog Rows.fnExactMostApartRow.origin Rows.fnExactMostApartRow.targs := of_decide_eq_true (by kernel_rfl)
theorem fnExactMostApart_wrapper : Try.f4.isWrapper Try.pinned.checked.prog Rows.fnExactMostApartRow.wrapper Rows.fnExactMostApartRow.mainSum := by unfold Func.isWrapper; first | (rw [if_pos (by decide +kernel)]; kernel_rfl) | (rw [if_neg (by decide +kernel)]; exact ⟨rfl, rfl⟩)
theorem fnExactMostApart_holds : Rows.FnExactMostApartSaid :=
  OpenClaim.holds_of_wide 4 Try.f4 rfl rfl rfl rfl rfl rfl rfl ⟨rfl, rfl, rfl, rfl, rfl⟩ rfl rfl rfl rfl rfl fnExactMostApart_named Try.func4 fnExactMostApart_closed fnExactMostApart_instance fnExactMostApart_wrapper
    (fun os started H enc _ => fnExactMostApart_lifted os started H enc)

end Go.Proofs.Ytcknpoeannbpbaa
