/- Every pins and point handed to GainOf: the program and the reference return the same. No condition. -/
import Derived.Test.YtdkpfkmmblmlhaaPuGain
import Derived.Test.YtdkpfkmmblmlhaaWGn02
import Derived.Test.YtdkpfkmmblmlhaaOpn
import Derived.Test.YtdkpfkmmblmlhaaLift
import Derived.Test.YtdkpfkmmblmlhaaHead
set_option linter.unusedSimpArgs false
set_option linter.unusedVariables false
namespace Go.Proofs.Ytdkpfkmmblmlhaa
open Go.ChangeShapes Go.WideShapes Go.ChangeAt Go.RowKit Go.Joins

set_option maxRecDepth 100000 in
theorem fnExactGainOf_lifted (os : Os) (started : os.Started) (H : Type) (enc : TypeId × Value → H) :
    ReturnsInHanded {} Try.checked os 12 .any (Rows.fnExactGainOfSpec.pre6 enc Try.prog Try.f12 Rows.fnExactGainOfRow.domain false) (Rows.fnExactGainOfSpec.post enc Try.prog Try.f12 false true false false) := by
  refine returnsInHanded_of_change (C := Try.checked) own started (by kernel_rfl) Try.func12
    (ChangeSpec.witness6 (enc := enc) (C := Try.checked) false ⟨#[], #[.slice none 0 0, .agg #[.int .i64 0, .int .i64 0]], []⟩ 8 (by kernel_rfl) (by kernel_rfl) (by kernel_rfl) (by kernel_rfl)) ?_
  intro W base args ds gs before hval0 hW _ _
  have hval : ∀ (j : Nat) t v, Try.f12.params[j]? = some t → args[j]? = some v → Value.okWide Try.prog W .any base t v := hval0
  have hW' := hW
  obtain ⟨p, q, hA0, hV, hbf, _, _⟩ := hW
  have hA : DataW.TrodAll enc Try.prog W 0 (fun _ => true) true Try.f12.params.toList args.toList ds p := hA0
  rw [Try.params12] at hA hval
  obtain ⟨v0, v1, d0, d1, p0, p1, rfl, rfl, _, h0, h1⟩ := trodAll_two hA
  obtain ⟨rfl, _⟩ := trodVars_none hV
  obtain ⟨_, _, _, rfl⟩ := okWide_slice Try.underlying22 (hval 0 22 v0 rfl rfl)
  obtain ⟨m0, hm0⟩ := h0
  obtain ⟨A0, cap0, l0, fp0, e0, F0, b0, r0⟩ := open_pts Try.underlying22 Try.underlying32 (by kernel_rfl) rfl rfl (by kernel_rfl) (by kernel_rfl) Try.underlying2 Try.underlying2 hm0
  cases e0
  obtain ⟨c0, c1, _, _, _, rfl, _, _, hy0, hy1⟩ := open_agg2 Try.underlying32 (by kernel_rfl) (by kernel_rfl) (hval 1 32 v1 rfl rfl) h1
  obtain ⟨x10, rfl, w10⟩ := int_form Try.underlying2 hy0
  obtain ⟨x11, rfl, w11⟩ := int_form Try.underlying2 hy1
  refine (c_laws_FnExactGainOf (r := true) (lawGainOf_eq l0 (x10, x11) b0) F0).mono fun e W' ⟨he, hb⟩ => ⟨_, he, ?_⟩
  exact law_post laidOut (by rw [Try.params12]; intro t ht; simp only [List.mem_cons, List.not_mem_nil, or_false] at ht; rcases ht with rfl | rfl <;> exact ⟨by kernel_rfl, of_decide_eq_true (by kernel_rfl)⟩) rfl rfl Try.underlying4 hW' rfl hb.below

theorem fnExactGainOf_named : Try.pinned.checked.prog.funcNamed Rows.fnExactGainOfRow.func = some 12 := by kernel_rfl
theorem fnExactGainOf_closed : joinedFacts Try.pinned.checked.prog 12 Try.f12 Rows.fnExactGainOfSpec Rows.fnExactGainOfRow = true := by
  refine facts_of Try.prog 12 Try.f12 _ _ may_enter lifts_final make_cut laid_out maps_rowed stops_none stop_knobs stops_heard rfl rfl ?_
  repeat' (with_reducible refine and_t ?_ ?_)
  all_goals (as_aux_lemma => kernel_rfl)
theorem fnExactGainOf_instance : Try.f12.isInstance Try.pinned.checked.prog Rows.fnExactGainOfRow.origin Rows.fnExactGainOfRow.targs := of_decide_eq_true (by kernel_rfl)
theorem fnExactGainOf_wrapper : Try.f12.isWrapper Try.pinned.checked.prog Rows.fnExactGainOfRow.wrapper Rows.fnExactGainOfRow.mainSum := by unfold Func.isWrapper; first | (rw [if_pos (by decide +kernel)]; kernel_rfl) | (rw [if_neg (by decide +kernel)]; exact ⟨rfl, rfl⟩)
theorem fnExactGainOf_holds : Rows.FnExactGainOfSaid :=
  OpenClaim.holds_of_wide 12 Try.f12 rfl rfl rfl rfl rfl rfl rfl ⟨rfl, rfl, rfl, rfl, rfl⟩ rfl rfl rfl rfl rfl fnExactGainOf_named Try.func12 fnExactGainOf_closed fnExactGainOf_instance fnExactGainOf_wrapper
    (fun os started H enc _ => fnExactGainOf_lifted os started H enc)

end Go.Proofs.Ytdkpfkmmblmlhaa
