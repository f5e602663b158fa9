/- Every pins and joins handed to ClockWires: the program and the reference return the same. No condition. -/
import Derived.Test.YtmodhpgnkbnbaaaPuWires
import Derived.Test.YtmodhpgnkbnbaaaWWires03
import Derived.Test.YtmodhpgnkbnbaaaOpn
import Derived.Test.YtmodhpgnkbnbaaaOpn
import Derived.Test.YtmodhpgnkbnbaaaLift
import Derived.Test.YtmodhpgnkbnbaaaHead
set_option linter.unusedSimpArgs false
set_option linter.unusedVariables false
namespace Go.Proofs.Ytmodhpgnkbnbaaa
open Go.ChangeShapes Go.WideShapes Go.ChangeAt Go.RowKit Go.Joins

set_option maxRecDepth 100000 in
theorem fnExactClockWires_lifted (os : Os) (started : os.Started) (H : Type) (enc : TypeId × Value → H) :
    ReturnsInHanded {} Try.checked os 17 .any (Rows.fnExactClockWiresSpec.pre6 enc Try.prog Try.f17 Rows.fnExactClockWiresRow.domain false) (Rows.fnExactClockWiresSpec.post enc Try.prog Try.f17 false true false false) := by
  refine returnsInHanded_of_change (C := Try.checked) own started (by kernel_rfl) Try.func17
    (ChangeSpec.witness6 (enc := enc) (C := Try.checked) false ⟨#[], #[.slice none 0 0, .slice none 0 0], []⟩ 8 (by kernel_rfl) (by kernel_rfl) (by kernel_rfl) (by kernel_rfl)) ?_
  intro W base args ds gs before hval0 hW _ _
  have hval : ∀ (j : Nat) t v, Try.f17.params[j]? = some t → args[j]? = some v → Value.okWide Try.prog W .any base t v := hval0
  have hW' := hW
  obtain ⟨p, q, hA0, hV, hbf, _, _⟩ := hW
  have hA : DataW.TrodAll enc Try.prog W 0 (fun _ => true) true Try.f17.params.toList args.toList ds p := hA0
  rw [Try.params17] at hA hval
  obtain ⟨v0, v1, d0, d1, p0, p1, rfl, rfl, _, h0, h1⟩ := trodAll_two hA
  obtain ⟨rfl, _⟩ := trodVars_none hV
  obtain ⟨_, _, _, rfl⟩ := okWide_slice Try.underlying56 (hval 0 56 v0 rfl rfl)
  obtain ⟨m0, hm0⟩ := h0
  obtain ⟨A0, cap0, l0, fp0, e0, F0, b0, r0⟩ := open_pts Try.underlying56 Try.underlying29 (by kernel_rfl) rfl rfl (by kernel_rfl) (by kernel_rfl) Try.underlying2 Try.underlying2 hm0
  cases e0
  obtain ⟨_, _, _, rfl⟩ := okWide_slice Try.underlying44 (hval 1 44 v1 rfl rfl)
  obtain ⟨m1, hm1⟩ := h1
  obtain ⟨A1, cap1, l1, fp1, e1, F1, b1, r1⟩ := open_rows Try.underlying44 Try.underlying68 Try.underlying2 (by kernel_rfl) (by kernel_rfl) hm1
  cases e1
  refine (c_laws_FnExactClockWires (r := true) (lawWires_eq l0 l1 b0 b1 (fun r hr => (r1 r hr).1)) F0 F1).mono fun e W' ⟨he, hb⟩ => ⟨_, he, ?_⟩
  exact law_post laidOut (by rw [Try.params17]; intro t ht; simp only [List.mem_cons, List.not_mem_nil, or_false] at ht; rcases ht with rfl | rfl <;> exact ⟨by kernel_rfl, of_decide_eq_true (by kernel_rfl)⟩) rfl rfl Try.underlying4 hW' rfl hb.below

theorem fnExactClockWires_named : Try.pinned.checked.prog.funcNamed Rows.fnExactClockWiresRow.func = some 17 := by kernel_rfl
theorem fnExactClockWires_closed : joinedFacts Try.pinned.checked.prog 17 Try.f17 Rows.fnExactClockWiresSpec Rows.fnExactClockWiresRow = true := by
  refine facts_of Try.prog 17 Try.f17 _ _ may_enter lifts_final make_cut laid_out maps_rowed stops_none stop_knobs stops_heard rfl rfl ?_
  repeat' (with_reducible refine and_t ?_ ?_)
  all_goals (as_aux_lemma => kernel_rfl)
theorem fnExactClockWires_instance : Try.f17.isInstance Try.pinned.checked.prog Rows.fnExactClockWiresRow.origin Rows.fnExactClockWiresRow.targs := of_decide_eq_true (by kernel_rfl)
theorem fnExactClockWires_wrapper : Try.f17.isWrapper Try.pinned.checked.prog Rows.fnExactClockWiresRow.wrapper Rows.fnExactClockWiresRow.mainSum := by unfold Func.isWrapper; first | (rw [if_pos (by decide +kernel)]; kernel_rfl) | (rw [if_neg (by decide +kernel)]; exact ⟨rfl, rfl⟩)
theorem fnExactClockWires_holds : Rows.FnExactClockWiresSaid :=
  OpenClaim.holds_of_wide 17 Try.f17 rfl rfl rfl rfl rfl rfl rfl ⟨rfl, rfl, rfl, rfl, rfl⟩ rfl rfl rfl rfl rfl fnExactClockWires_named Try.func17 fnExactClockWires_closed fnExactClockWires_instance fnExactClockWires_wrapper
    (fun os started H enc _ => fnExactClockWires_lifted os started H enc)

end Go.Proofs.Ytmodhpgnkbnbaaa
