/- Every pins handed to SteinerLength: the program and the reference return the same. No condition. -/
import Derived.Test.YtdkpfkmmblmlhaaPuSt4
import Derived.Test.YtdkpfkmmblmlhaaWSn02
import Derived.Test.YtdkpfkmmblmlhaaOpn
import Derived.Test.YtdkpfkmmblmlhaaLift
import Derived.Test.YtdkpfkmmblmlhaaHead
set_option linter.unusedSimpArgs false
set_option linter.unusedVariables false
namespace Go.Proofs.Ytdkpfkmmblmlhaa
open Go.ChangeShapes Go.WideShapes Go.ChangeAt Go.RowKit Go.Joins

set_option maxRecDepth 100000 in
theorem fnExactSteinerLength_lifted (os : Os) (started : os.Started) (H : Type) (enc : TypeId × Value → H) :
    ReturnsInHanded {} Try.checked os 13 .any (Rows.fnExactSteinerLengthSpec.pre6 enc Try.prog Try.f13 Rows.fnExactSteinerLengthRow.domain false) (Rows.fnExactSteinerLengthSpec.post enc Try.prog Try.f13 false true false false) := by
  refine returnsInHanded_of_change (C := Try.checked) own started (by kernel_rfl) Try.func13
    (ChangeSpec.witness6 (enc := enc) (C := Try.checked) false ⟨#[], #[.slice none 0 0], []⟩ 8 (by kernel_rfl) (by kernel_rfl) (by kernel_rfl) (by kernel_rfl)) ?_
  intro W base args ds gs before hval0 hW _ _
  have hval : ∀ (j : Nat) t v, Try.f13.params[j]? = some t → args[j]? = some v → Value.okWide Try.prog W .any base t v := hval0
  have hW' := hW
  obtain ⟨p, q, hA0, hV, hbf, _, _⟩ := hW
  have hA : DataW.TrodAll enc Try.prog W 0 (fun _ => true) true Try.f13.params.toList args.toList ds p := hA0
  rw [Try.params13] at hA hval
  obtain ⟨v0, d0, rfl, rfl, h0⟩ := trodAll_one hA
  obtain ⟨rfl, _⟩ := trodVars_none hV
  obtain ⟨_, _, _, rfl⟩ := okWide_slice Try.underlying22 (hval 0 22 v0 rfl rfl)
  obtain ⟨m0, hm0⟩ := h0
  obtain ⟨A0, cap0, l0, fp0, e0, F0, b0, r0⟩ := open_pts Try.underlying22 Try.underlying32 (by kernel_rfl) rfl rfl (by kernel_rfl) (by kernel_rfl) Try.underlying2 Try.underlying2 hm0
  cases e0
  refine (c_laws_FnExactSteinerLength (r := true) (lawSteinerLength_eq l0 b0) F0).mono fun e W' ⟨he, hb⟩ => ⟨_, he, ?_⟩
  exact law_post laidOut (by rw [Try.params13]; intro t ht; simp only [List.mem_cons, List.not_mem_nil, or_false] at ht; subst ht; exact ⟨by kernel_rfl, of_decide_eq_true (by kernel_rfl)⟩) rfl rfl Try.underlying4 hW' rfl hb.below

theorem fnExactSteinerLength_named : Try.pinned.checked.prog.funcNamed Rows.fnExactSteinerLengthRow.func = some 13 := by kernel_rfl
theorem fnExactSteinerLength_closed : joinedFacts Try.pinned.checked.prog 13 Try.f13 Rows.fnExactSteinerLengthSpec Rows.fnExactSteinerLengthRow = true := by
  refine facts_of Try.prog 13 Try.f13 _ _ may_enter lifts_final make_cut laid_out maps_rowed stops_none stop_knobs stops_heard rfl rfl ?_
  repeat' (with_reducible refine and_t ?_ ?_)
  all_goals (as_aux_lemma => kernel_rfl)
theorem fnExactSteinerLength_instance : Try.f13.isInstance Try.pinned.checked.prog Rows.fnExactSteinerLengthRow.origin Rows.fnExactSteinerLengthRow.targs := of_decide_eq_true (by kernel_rfl)
theorem fnExactSteinerLength_wrapper : Try.f13.isWrapper Try.pinned.checked.prog Rows.fnExactSteinerLengthRow.wrapper Rows.fnExactSteinerLengthRow.mainSum := by unfold Func.isWrapper; first | (rw [if_pos (by decide +kernel)]; kernel_rfl) | (rw [if_neg (by decide +kernel)]; exact ⟨rfl, rfl⟩)
theorem fnExactSteinerLength_holds : Rows.FnExactSteinerLengthSaid :=
  OpenClaim.holds_of_wide 13 Try.f13 rfl rfl rfl rfl rfl rfl rfl ⟨rfl, rfl, rfl, rfl, rfl⟩ rfl rfl rfl rfl rfl fnExactSteinerLength_named Try.func13 fnExactSteinerLength_closed fnExactSteinerLength_instance fnExactSteinerLength_wrapper
    (fun os started H enc _ => fnExactSteinerLength_lifted os started H enc)

end Go.Proofs.Ytdkpfkmmblmlhaa
