/- Any two texts of bytes handed to FnPathCorners: it returns true. No condition. -/
import Derived.Test.YtdkpfkmmblmlhaaPuPc2
import Derived.Test.YtdkpfkmmblmlhaaWPt02
import Derived.Test.YtdkpfkmmblmlhaaOpn
import Derived.Test.YtdkpfkmmblmlhaaLift
import Derived.Test.YtdkpfkmmblmlhaaHead
set_option linter.unusedSimpArgs false
set_option linter.unusedVariables false
namespace Go.Proofs.Ytdkpfkmmblmlhaa
open Go.ChangeShapes Go.WideShapes Go.ChangeAt Go.RowKit Go.Joins

set_option maxRecDepth 100000 in
theorem fnPathCorners_lifted (os : Os) (started : os.Started) (H : Type) (enc : TypeId × Value → H) :
    ReturnsInHanded {} Try.checked os 11 .any (Rows.fnPathCornersSpec.pre6 enc Try.prog Try.f11 Rows.fnPathCornersRow.domain false) (Rows.fnPathCornersSpec.post enc Try.prog Try.f11 false true false false) := by
  refine returnsInHanded_of_change (C := Try.checked) own started (by kernel_rfl) Try.func11
    (ChangeSpec.witness6 (enc := enc) (C := Try.checked) false ⟨#[], #[.slice none 0 0, .slice none 0 0], []⟩ 8 (by kernel_rfl) (by kernel_rfl) (by kernel_rfl) (by kernel_rfl)) ?_
  intro W base args ds gs before hval0 hW _ _
  have hval : ∀ (j : Nat) t v, Try.f11.params[j]? = some t → args[j]? = some v → Value.okWide Try.prog W .any base t v := hval0
  have hW' := hW
  obtain ⟨p, q, hA0, hV, hbf, _, _⟩ := hW
  have hA : DataW.TrodAll enc Try.prog W 0 (fun _ => true) true Try.f11.params.toList args.toList ds p := hA0
  rw [Try.params11] at hA hval
  obtain ⟨v0, v1, d0, d1, p0, p1, rfl, rfl, _, h0, h1⟩ := trodAll_two hA
  obtain ⟨rfl, _⟩ := trodVars_none hV
  obtain ⟨_, _, _, rfl⟩ := okWide_slice Try.underlying43 (hval 0 43 v0 rfl rfl)
  obtain ⟨m0, hm0⟩ := h0
  obtain ⟨A0, cap0, l0, fp0, e0, F0, b0, r0⟩ := open_bytes Try.underlying43 Try.underlying5 (by kernel_rfl) hm0
  cases e0
  obtain ⟨_, _, _, rfl⟩ := okWide_slice Try.underlying43 (hval 1 43 v1 rfl rfl)
  obtain ⟨m1, hm1⟩ := h1
  obtain ⟨A1, cap1, l1, fp1, e1, F1, b1, r1⟩ := open_bytes Try.underlying43 Try.underlying5 (by kernel_rfl) hm1
  cases e1
  refine (c_laws_FnPathCorners (r := true) (lawPathCorners l0 l1 r0 r1) F0 F1).mono fun e W' ⟨he, hb⟩ => ⟨_, he, ?_⟩
  exact law_post laidOut (by rw [Try.params11]; intro t ht; simp only [List.mem_cons, List.not_mem_nil, or_false] at ht; rcases ht with rfl | rfl <;> exact ⟨by kernel_rfl, of_decide_eq_true (by kernel_rfl)⟩) rfl rfl Try.underlying4 hW' rfl hb.below

theorem fnPathCorners_named : Try.pinned.checked.prog.funcNamed Rows.fnPathCornersRow.func = some 11 := by kernel_rfl
theorem fnPathCorners_closed : joinedFacts Try.pinned.checked.prog 11 Try.f11 Rows.fnPathCornersSpec Rows.fnPathCornersRow = true := by
  refine facts_of Try.prog 11 Try.f11 _ _ may_enter lifts_final make_cut laid_out maps_rowed stops_none stop_knobs stops_heard rfl rfl ?_
  repeat' (with_reducible refine and_t ?_ ?_)
  all_goals (as_aux_lemma => kernel_rfl)
theorem fnPathCorners_instance : Try.f11.isInstance Try.pinned.checked.prog Rows.fnPathCornersRow.origin Rows.fnPathCornersRow.targs := of_decide_eq_true (by kernel_rfl)
theorem fnPathCorners_wrapper : Try.f11.isWrapper Try.pinned.checked.prog Rows.fnPathCornersRow.wrapper Rows.fnPathCornersRow.mainSum := by unfold Func.isWrapper; first | (rw [if_pos (by decide +kernel)]; kernel_rfl) | (rw [if_neg (by decide +kernel)]; exact ⟨rfl, rfl⟩)
theorem fnPathCorners_holds : Rows.FnPathCornersSaid :=
  OpenClaim.holds_of_wide 11 Try.f11 rfl rfl rfl rfl rfl rfl rfl ⟨rfl, rfl, rfl, rfl, rfl⟩ rfl rfl rfl rfl rfl fnPathCorners_named Try.func11 fnPathCorners_closed fnPathCorners_instance fnPathCorners_wrapper
    (fun os started H enc _ => fnPathCorners_lifted os started H enc)

end Go.Proofs.Ytdkpfkmmblmlhaa
