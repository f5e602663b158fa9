/- Every count, lists and wires handed to SkewOf: the program and the reference return the same. No condition. -/
import Derived.Test.YtmodhpgnkbnbaaaPuSkew
import Derived.Test.YtmodhpgnkbnbaaaOpn
import Derived.Test.YtmodhpgnkbnbaaaLift
import Derived.Test.YtmodhpgnkbnbaaaHead
set_option linter.unusedSimpArgs false
set_option linter.unusedVariables false
namespace Go.Proofs.Ytmodhpgnkbnbaaa
open Go.ChangeShapes Go.WideShapes Go.ChangeAt Go.RowKit Go.Joins

set_option maxRecDepth 100000 in
theorem fnExactSkewOf_lifted (os : Os) (started : os.Started) (H : Type) (enc : TypeId × Value → H) :
    ReturnsInHanded {} Try.checked os 13 .any (Rows.fnExactSkewOfSpec.pre6 enc Try.prog Try.f13 Rows.fnExactSkewOfRow.domain false) (Rows.fnExactSkewOfSpec.post enc Try.prog Try.f13 false true false false) := by
  refine returnsInHanded_of_change (C := Try.checked) own started (by kernel_rfl) Try.func13
    (ChangeSpec.witness6 (enc := enc) (C := Try.checked) false ⟨#[], #[.int .i64 0, .slice none 0 0, .slice none 0 0], []⟩ 8 (by kernel_rfl) (by kernel_rfl) (by kernel_rfl) (by kernel_rfl)) ?_
  intro W base args ds gs before hval0 hW _ _
  have hval : ∀ (j : Nat) t v, Try.f13.params[j]? = some t → args[j]? = some v → Value.okWide Try.prog W .any base t v := hval0
  have hW' := hW
  obtain ⟨p, q, hA0, hV, hbf, _, _⟩ := hW
  have hA : DataW.TrodAll enc Try.prog W 0 (fun _ => true) true Try.f13.params.toList args.toList ds p := hA0
  rw [Try.params13] at hA hval
  obtain ⟨v0, v1, v2, d0, d1, d2, p0, p1, p2, rfl, rfl, _, h0, h1, h2⟩ := trodAll_three hA
  obtain ⟨rfl, _⟩ := trodVars_none hV
  obtain ⟨n0, rfl, _, _, w0⟩ := open_int Try.underlying2 (hval 0 2 v0 rfl rfl) h0
  obtain ⟨_, _, _, rfl⟩ := okWide_slice Try.underlying44 (hval 1 44 v1 rfl rfl)
  obtain ⟨m1, hm1⟩ := h1
  obtain ⟨A1, cap1, l1, fp1, e1, F1, b1, r1⟩ := open_rows Try.underlying44 Try.underlying68 Try.underlying2 (by kernel_rfl) (by kernel_rfl) hm1
  cases e1
  obtain ⟨_, _, _, rfl⟩ := okWide_slice Try.underlying68 (hval 2 68 v2 rfl rfl)
  obtain ⟨m2, hm2⟩ := h2
  obtain ⟨A2, cap2, l2, fp2, e2, F2, b2, r2⟩ := open_i64s Try.underlying68 Try.underlying2 (by kernel_rfl) hm2
  cases e2
  refine (c_laws_FnExactSkewOf (r := true) (lawSkew_eq n0 l1 l2 b1 (fun r hr => (r1 r hr).1) b2) F1 F2).mono fun e W' ⟨he, hb⟩ => ⟨_, he, ?_⟩
  exact law_post laidOut (by rw [Try.params13]; intro t ht; simp only [List.mem_cons, List.not_mem_nil, or_false] at ht; rcases ht with rfl | rfl | rfl <;> exact ⟨by kernel_rfl, of_decide_eq_true (by kernel_rfl)⟩) rfl rfl Try.underlying4 hW' rfl hb.below

theorem fnExactSkewOf_named : Try.pinned.checked.prog.funcNamed Rows.fnExactSkewOfRow.func = some 13 := by kernel_rfl
theorem fnExactSkewOf_closed : joinedFacts Try.pinned.checked.prog 13 Try.f13 Rows.fnExactSkewOfSpec Rows.fnExactSkewOfRow = true := by
  refine facts_of Try.prog 13 Try.f13 _ _ may_enter lifts_final make_cut laid_out maps_rowed stops_none stop_knobs stops_heard rfl rfl ?_
  repeat' (with_reducible refine and_t ?_ ?_)
  all_goals (as_aux_lemma => kernel_rfl)
theorem fnExactSkewOf_instance : Try.f13.isInstance Try.pinned.checked.prog Rows.fnExactSkewOfRow.origin Rows.fnExactSkewOfRow.targs := of_decide_eq_true (by kernel_rfl)
theorem fnExactSkewOf_wrapper : Try.f13.isWrapper Try.pinned.checked.prog Rows.fnExactSkewOfRow.wrapper Rows.fnExactSkewOfRow.mainSum := by unfold Func.isWrapper; first | (rw [if_pos (by decide +kernel)]; kernel_rfl) | (rw [if_neg (by decide +kernel)]; exact ⟨rfl, rfl⟩)
theorem fnExactSkewOf_holds : Rows.FnExactSkewOfSaid :=
  OpenClaim.holds_of_wide 13 Try.f13 rfl rfl rfl rfl rfl rfl rfl ⟨rfl, rfl, rfl, rfl, rfl⟩ rfl rfl rfl rfl rfl fnExactSkewOf_named Try.func13 fnExactSkewOf_closed fnExactSkewOf_instance fnExactSkewOf_wrapper
    (fun os started H enc _ => fnExactSkewOf_lifted os started H enc)

end Go.Proofs.Ytmodhpgnkbnbaaa
