/- Every pins and joins handed to ClockPlaces: the program and the reference return the same. No condition. -/
import Derived.Test.YtmodhpgnkbnbaaaPuPlLaw
import Derived.Test.YtmodhpgnkbnbaaaWPlaces04
import Derived.Test.YtmodhpgnkbnbaaaOpn
import Derived.Test.YtmodhpgnkbnbaaaLift
import Derived.Test.YtmodhpgnkbnbaaaHead
set_option linter.unusedSimpArgs false
set_option linter.unusedVariables false
namespace Go.Proofs.Ytmodhpgnkbnbaaa
open Go.ChangeShapes Go.WideShapes Go.ChangeAt Go.RowKit Go.Joins

set_option maxRecDepth 100000 in
theorem fnExactClockPlaces_lifted (os : Os) (started : os.Started) (H : Type) (enc : TypeId × Value → H) :
    ReturnsInHanded {} Try.checked os 19 .any (Rows.fnExactClockPlacesSpec.pre6 enc Try.prog Try.f19 Rows.fnExactClockPlacesRow.domain false) (Rows.fnExactClockPlacesSpec.post enc Try.prog Try.f19 false true false false) := by
  refine returnsInHanded_of_change (C := Try.checked) own started (by kernel_rfl) Try.func19
    (ChangeSpec.witness6 (enc := enc) (C := Try.checked) false ⟨#[], #[.slice none 0 0, .slice none 0 0], []⟩ 8 (by kernel_rfl) (by kernel_rfl) (by kernel_rfl) (by kernel_rfl)) ?_
  intro W base args ds gs before hval0 hW _ _
  have hval : ∀ (j : Nat) t v, Try.f19.params[j]? = some t → args[j]? = some v → Value.okWide Try.prog W .any base t v := hval0
  have hW' := hW
  obtain ⟨p, q, hA0, hV, hbf, _, _⟩ := hW
  have hA : DataW.TrodAll enc Try.prog W 0 (fun _ => true) true Try.f19.params.toList args.toList ds p := hA0
  rw [Try.params19] at hA hval
  obtain ⟨v0, v1, d0, d1, p0, p1, rfl, rfl, _, h0, h1⟩ := trodAll_two hA
  obtain ⟨rfl, _⟩ := trodVars_none hV
  obtain ⟨_, _, _, rfl⟩ := okWide_slice Try.underlying56 (hval 0 56 v0 rfl rfl)
  obtain ⟨m0, hm0⟩ := h0
  obtain ⟨A0, cap0, l0, fp0, e0, F0, b0, r0⟩ := open_pts Try.underlying56 Try.underlying29 (by kernel_rfl) rfl rfl (by kernel_rfl) (by kernel_rfl) Try.underlying2 Try.underlying2 hm0
  cases e0
  obtain ⟨_, _, _, rfl⟩ := okWide_slice Try.underlying44 (hval 1 44 v1 rfl rfl)
  obtain ⟨m1, hm1⟩ := h1
  obtain ⟨A1, cap1, l1, fp1, e1, F1, b1, r1⟩ := open_rows Try.underlying44 Try.underlying68 Try.underlying2 (by kernel_rfl) (by kernel_rfl) hm1
  cases e1
  refine (c_laws_FnExactClockPlaces (r := true) (lawPlaces_eq l0 l1 b0 b1 (fun r hr => (r1 r hr).1)) F0 F1).mono fun e W' ⟨he, hb⟩ => ⟨_, he, ?_⟩
  exact law_post laidOut (by rw [Try.params19]; intro t ht; simp only [List.mem_cons, List.not_mem_nil, or_false] at ht; rcases ht with rfl | rfl <;> exact ⟨by kernel_rfl, of_decide_eq_true (by kernel_rfl)⟩) rfl rfl Try.underlying4 hW' rfl hb.below

theorem fnExactClockPlaces_named : Try.pinned.checked.prog.funcNamed Rows.fnExactClockPlacesRow.func = some 19 := by kernel_rfl
theorem fnExactClockPlaces_closed : joinedFacts Try.pinned.checked.prog 19 Try.f19 Rows.fnExactClockPlacesSpec Rows.fnExactClockPlacesRow = true := by
  refine facts_of Try.prog 19 Try.f19 _ _ may_enter lifts_final make_cut laid_out maps_rowed stops_none stop_knobs stops_heard rfl rfl ?_
  repeat' (with_reducible refine and_t ?_ ?_)
  all_goals (as_aux_lemma => kernel_rfl)
theorem fnExactClockPlaces_instance : Try.f19.isInstance Try.pinned.checked.prog Rows.fnExactClockPlacesRow.origin Rows.fnExactClockPlacesRow.targs := of_decide_eq_true (by kernel_rfl)
theorem fnExactClockPlaces_wrapper : Try.f19.isWrapper Try.pinned.checked.prog Rows.fnExactClockPlacesRow.wrapper Rows.fnExactClockPlacesRow.mainSum := by unfold Func.isWrapper; first | (rw [if_pos (by decide +kernel)]; kernel_rfl) | (rw [if_neg (by decide +kernel)]; exact ⟨rfl, rfl⟩)
theorem fnExactClockPlaces_holds : Rows.FnExactClockPlacesSaid :=
  OpenClaim.holds_of_wide 19 Try.f19 rfl rfl rfl rfl rfl rfl rfl ⟨rfl, rfl, rfl, rfl, rfl⟩ rfl rfl rfl rfl rfl fnExactClockPlaces_named Try.func19 fnExactClockPlaces_closed fnExactClockPlaces_instance fnExactClockPlaces_wrapper
    (fun os started H enc _ => fnExactClockPlaces_lifted os started H enc)

end Go.Proofs.Ytmodhpgnkbnbaaa
