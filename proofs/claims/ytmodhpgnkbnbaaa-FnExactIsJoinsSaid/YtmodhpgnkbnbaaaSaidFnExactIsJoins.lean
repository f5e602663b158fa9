/- Every count and every lists handed to IsJoins: the program and the reference return the same. No condition. -/
import Derived.Test.YtmodhpgnkbnbaaaPuJoins
import Derived.Test.YtmodhpgnkbnbaaaOpn
import Derived.Test.YtmodhpgnkbnbaaaLift
import Derived.Test.YtmodhpgnkbnbaaaHead
set_option linter.unusedSimpArgs false
set_option linter.unusedVariables false
namespace Go.Proofs.Ytmodhpgnkbnbaaa
open Go.ChangeShapes Go.WideShapes Go.ChangeAt Go.RowKit Go.Joins

set_option maxRecDepth 100000 in
theorem fnExactIsJoins_lifted (os : Os) (started : os.Started) (H : Type) (enc : TypeId × Value → H) :
    ReturnsInHanded {} Try.checked os 9 .any (Rows.fnExactIsJoinsSpec.pre6 enc Try.prog Try.f9 Rows.fnExactIsJoinsRow.domain false) (Rows.fnExactIsJoinsSpec.post enc Try.prog Try.f9 false true false false) := by
  refine returnsInHanded_of_change (C := Try.checked) own started (by kernel_rfl) Try.func9
    (ChangeSpec.witness6 (enc := enc) (C := Try.checked) false ⟨#[], #[.int .i64 0, .slice none 0 0], []⟩ 8 (by kernel_rfl) (by kernel_rfl) (by kernel_rfl) (by kernel_rfl)) ?_
  intro W base args ds gs before hval0 hW _ _
  have hval : ∀ (j : Nat) t v, Try.f9.params[j]? = some t → args[j]? = some v → Value.okWide Try.prog W .any base t v := hval0
  have hW' := hW
  obtain ⟨p, q, hA0, hV, hbf, _, _⟩ := hW
  have hA : DataW.TrodAll enc Try.prog W 0 (fun _ => true) true Try.f9.params.toList args.toList ds p := hA0
  rw [Try.params9] at hA hval
  obtain ⟨v0, v1, d0, d1, p0, p1, rfl, rfl, _, h0, h1⟩ := trodAll_two hA
  obtain ⟨rfl, _⟩ := trodVars_none hV
  obtain ⟨n0, rfl, _, _, w0⟩ := open_int Try.underlying2 (hval 0 2 v0 rfl rfl) h0
  obtain ⟨_, _, _, rfl⟩ := okWide_slice Try.underlying44 (hval 1 44 v1 rfl rfl)
  obtain ⟨m1, hm1⟩ := h1
  obtain ⟨A1, cap1, l1, fp1, e1, F1, b1, r1⟩ := open_rows Try.underlying44 Try.underlying68 Try.underlying2 (by kernel_rfl) (by kernel_rfl) hm1
  cases e1
  refine (c_laws_FnExactIsJoins (r := true) (lawJoins_eq n0 l1 b1 (fun r hr => (r1 r hr).1)) F1).mono fun e W' ⟨he, hb⟩ => ⟨_, he, ?_⟩
  exact law_post laidOut (by rw [Try.params9]; intro t ht; simp only [List.mem_cons, List.not_mem_nil, or_false] at ht; rcases ht with rfl | rfl <;> exact ⟨by kernel_rfl, of_decide_eq_true (by kernel_rfl)⟩) rfl rfl Try.underlying4 hW' rfl hb.below

theorem fnExactIsJoins_named : Try.pinned.checked.prog.funcNamed Rows.fnExactIsJoinsRow.func = some 9 := by kernel_rfl
theorem fnExactIsJoins_closed : joinedFacts Try.pinned.checked.prog 9 Try.f9 Rows.fnExactIsJoinsSpec Rows.fnExactIsJoinsRow = true := by
  refine facts_of Try.prog 9 Try.f9 _ _ may_enter lifts_final make_cut laid_out maps_rowed stops_none stop_knobs stops_heard rfl rfl ?_
  repeat' (with_reducible refine and_t ?_ ?_)
  all_goals (as_aux_lemma => kernel_rfl)
theorem fnExactIsJoins_instance : Try.f9.isInstance Try.pinned.checked.prog Rows.fnExactIsJoinsRow.origin Rows.fnExactIsJoinsRow.targs := of_decide_eq_true (by kernel_rfl)
theorem fnExactIsJoins_wrapper : Try.f9.isWrapper Try.pinned.checked.prog Rows.fnExactIsJoinsRow.wrapper Rows.fnExactIsJoinsRow.mainSum := by unfold Func.isWrapper; first | (rw [if_pos (by decide +kernel)]; kernel_rfl) | (rw [if_neg (by decide +kernel)]; exact ⟨rfl, rfl⟩)
theorem fnExactIsJoins_holds : Rows.FnExactIsJoinsSaid :=
  OpenClaim.holds_of_wide 9 Try.f9 rfl rfl rfl rfl rfl rfl rfl ⟨rfl, rfl, rfl, rfl, rfl⟩ rfl rfl rfl rfl rfl fnExactIsJoins_named Try.func9 fnExactIsJoins_closed fnExactIsJoins_instance fnExactIsJoins_wrapper
    (fun os started H enc _ => fnExactIsJoins_lifted os started H enc)

end Go.Proofs.Ytmodhpgnkbnbaaa
