/- Every wiring and layers handed to CostOf: the program and the reference return the same. No condition. -/
import Derived.Test.YtajnjbmniobjhaaPuWirL
import Derived.Test.YtajnjbmniobjhaaWVa02
import Derived.Test.YtajnjbmniobjhaaOpn
import Derived.Test.YtajnjbmniobjhaaLift
import Derived.Test.YtajnjbmniobjhaaHead
set_option linter.unusedSimpArgs false
set_option linter.unusedVariables false
namespace Go.Proofs.Ytajnjbmniobjhaa
open Go.ChangeShapes Go.WideShapes Go.ChangeAt Go.RowKit Go.Joins

set_option maxRecDepth 100000 in
theorem fnExactCostOf_lifted (os : Os) (started : os.Started) (H : Type) (enc : TypeId × Value → H) :
    ReturnsInHanded {} Try.checked os 9 .any (Rows.fnExactCostOfSpec.pre6 enc Try.prog Try.f9 Rows.fnExactCostOfRow.domain false) (Rows.fnExactCostOfSpec.post enc Try.prog Try.f9 false true false false) := by
  refine returnsInHanded_of_change (C := Try.checked) own started (by kernel_rfl) Try.func9
    (ChangeSpec.witness6 (enc := enc) (C := Try.checked) false ⟨#[], #[.agg #[.int .i64 0, .slice none 0 0, .slice none 0 0, .slice none 0 0], .slice none 0 0], []⟩ 8 (by kernel_rfl) (by kernel_rfl) (by kernel_rfl) (by kernel_rfl)) ?_
  intro W base args ds gs before hval0 hW _ _
  have hval : ∀ (j : Nat) t v, Try.f9.params[j]? = some t → args[j]? = some v → Value.okWide Try.prog W .any base t v := hval0
  have hW' := hW
  obtain ⟨p, q, hA0, hV, hbf, _, _⟩ := hW
  have hA : DataW.TrodAll enc Try.prog W 0 (fun _ => true) true Try.f9.params.toList args.toList ds p := hA0
  rw [Try.params9] at hA hval
  obtain ⟨v0, v1, d0, d1, p0, p1, rfl, rfl, _, h0, h1⟩ := trodAll_two hA
  obtain ⟨rfl, _⟩ := trodVars_none hV
  obtain ⟨c0, c1, c2, c3, _, y1, y2, y3, _, rfl, _, _, hy0, hy1, hy2, hy3⟩ := open_agg4 Try.underlying40 (by kernel_rfl) (by kernel_rfl) (hval 0 40 v0 rfl rfl) h0
  obtain ⟨x00, rfl, w00⟩ := int_form Try.underlying2 hy0
  obtain ⟨A0_1, cap0_1, l0_1, fp0_1, e0_1, F0_1, b0_1, r0_1⟩ := open_rows Try.underlying37 Try.underlying38 Try.underlying2 (by kernel_rfl) (by kernel_rfl) hy1
  cases e0_1
  obtain ⟨A0_2, cap0_2, l0_2, fp0_2, e0_2, F0_2, b0_2, r0_2⟩ := open_rows Try.underlying37 Try.underlying38 Try.underlying2 (by kernel_rfl) (by kernel_rfl) hy2
  cases e0_2
  obtain ⟨A0_3, cap0_3, l0_3, fp0_3, e0_3, F0_3, b0_3, r0_3⟩ := open_i64s Try.underlying38 Try.underlying2 (by kernel_rfl) hy3
  cases e0_3
  obtain ⟨_, _, _, rfl⟩ := okWide_slice Try.underlying38 (hval 1 38 v1 rfl rfl)
  obtain ⟨m1, hm1⟩ := h1
  obtain ⟨A1, cap1, l1, fp1, e1, F1, b1, r1⟩ := open_i64s Try.underlying38 Try.underlying2 (by kernel_rfl) hm1
  cases e1
  refine (c_laws_FnExactCostOf (r := true) (lawCostOf_eq x00 l0_1 l0_2 l0_3 l1 ⟨b0_1, b0_2, b0_3, fun r hr => (r0_1 r hr).1, fun r hr => (r0_2 r hr).1⟩ b1) F0_1 F0_2 F0_3 F1).mono fun e W' ⟨he, hb⟩ => ⟨_, he, ?_⟩
  exact law_post laidOut (by rw [Try.params9]; intro t ht; simp only [List.mem_cons, List.not_mem_nil, or_false] at ht; rcases ht with rfl | rfl <;> exact ⟨by kernel_rfl, of_decide_eq_true (by kernel_rfl)⟩) rfl rfl Try.underlying4 hW' rfl hb.below

theorem fnExactCostOf_named : Try.pinned.checked.prog.funcNamed Rows.fnExactCostOfRow.func = some 9 := by kernel_rfl
theorem fnExactCostOf_closed : joinedFacts Try.pinned.checked.prog 9 Try.f9 Rows.fnExactCostOfSpec Rows.fnExactCostOfRow = true := by
  refine facts_of Try.prog 9 Try.f9 _ _ may_enter lifts_final make_cut laid_out maps_rowed stops_none stop_knobs stops_heard rfl rfl ?_
  repeat' (with_reducible refine and_t ?_ ?_)
  all_goals (as_aux_lemma => kernel_rfl)
theorem fnExactCostOf_instance : Try.f9.isInstance Try.pinned.checked.prog Rows.fnExactCostOfRow.origin Rows.fnExactCostOfRow.targs := of_decide_eq_true (by kernel_rfl)
theorem fnExactCostOf_wrapper : Try.f9.isWrapper Try.pinned.checked.prog Rows.fnExactCostOfRow.wrapper Rows.fnExactCostOfRow.mainSum := by unfold Func.isWrapper; first | (rw [if_pos (by decide +kernel)]; kernel_rfl) | (rw [if_neg (by decide +kernel)]; exact ⟨rfl, rfl⟩)
theorem fnExactCostOf_holds : Rows.FnExactCostOfSaid :=
  OpenClaim.holds_of_wide 9 Try.f9 rfl rfl rfl rfl rfl rfl rfl ⟨rfl, rfl, rfl, rfl, rfl⟩ rfl rfl rfl rfl rfl fnExactCostOf_named Try.func9 fnExactCostOf_closed fnExactCostOf_instance fnExactCostOf_wrapper
    (fun os started H enc _ => fnExactCostOf_lifted os started H enc)

end Go.Proofs.Ytajnjbmniobjhaa
