/- As many blocks as ways apart; with walls in their places no way is left, and with all but one there is one. No condition. -/
import Derived.Test.YtcknpoeannbpbaaPuG0
import Derived.Test.YtcknpoeannbpbaaWBl03
import Derived.Test.YtcknpoeannbpbaaOpn
import Derived.Test.YtcknpoeannbpbaaLift
import Derived.Test.YtcknpoeannbpbaaHead
set_option linter.unusedSimpArgs false
set_option linter.unusedVariables false
namespace Go.Proofs.Ytcknpoeannbpbaa
open Go.ChangeShapes Go.WideShapes Go.ChangeAt Go.RowKit Go.Joins

set_option maxRecDepth 100000 in
set_option maxHeartbeats 4000000 in
theorem fnBlocked_lifted (os : Os) (started : os.Started) (H : Type) (enc : TypeId × Value → H) :
    ReturnsInHanded {} Try.checked os 3 .any (Rows.fnBlockedSpec.pre6 enc Try.prog Try.f3 Rows.fnBlockedRow.domain false) (Rows.fnBlockedSpec.post enc Try.prog Try.f3 false true false false) := by
  refine returnsInHanded_of_change (C := Try.checked) own started (by kernel_rfl) Try.func3
    (ChangeSpec.witness6 (enc := enc) (C := Try.checked) false ⟨#[], #[.slice none 0 0, .slice none 0 0], []⟩ 8 (by kernel_rfl) (by kernel_rfl) (by kernel_rfl) (by kernel_rfl)) ?_
  intro W base args ds gs before hval0 hW _ _
  have hval : ∀ (j : Nat) t v, Try.f3.params[j]? = some t → args[j]? = some v → Value.okWide Try.prog W .any base t v := hval0
  have hW' := hW
  obtain ⟨p, q, hA0, hV, hbf, _, _⟩ := hW
  have hA : DataW.TrodAll enc Try.prog W 0 (fun _ => true) true Try.f3.params.toList args.toList ds p := hA0
  rw [Try.params3] at hA hval
  obtain ⟨v0, v1, d0, d1, p0, p1, rfl, rfl, _, h0, h1⟩ := trodAll_two hA
  obtain ⟨rfl, _⟩ := trodVars_none hV
  obtain ⟨_, _, _, rfl⟩ := okWide_slice Try.underlying22 (hval 0 22 v0 rfl rfl)
  obtain ⟨m0, hm0⟩ := h0
  obtain ⟨A0, cap0, l0, fp0, e0, F0, b0, r0⟩ := open_bytes Try.underlying22 Try.underlying5 (by kernel_rfl) hm0
  cases e0
  obtain ⟨_, _, _, rfl⟩ := okWide_slice Try.underlying22 (hval 1 22 v1 rfl rfl)
  obtain ⟨m1, hm1⟩ := h1
  obtain ⟨A1, cap1, l1, fp1, e1, F1, b1, r1⟩ := open_bytes Try.underlying22 Try.underlying5 (by kernel_rfl) hm1
  cases e1
  refine (c_laws_FnBlocked (r := true) (lawBlocked l0 l1 r0 r1) F0 F1).mono fun e W' ⟨he, hb⟩ => ⟨_, he, ?_⟩
  exact law_post laidOut (by rw [Try.params3]; intro t ht; simp only [List.mem_cons, List.not_mem_nil, or_false] at ht; rcases ht with rfl | rfl <;> exact ⟨by kernel_rfl, of_decide_eq_true (by kernel_rfl)⟩) rfl rfl Try.underlying4 hW' rfl hb.below

theorem fnBlocked_named : Try.pinned.checked.prog.funcNamed Rows.fnBlockedRow.func = some 3 := by kernel_rfl
set_option maxHeartbeats 4000000 in
theorem fnBlocked_closed : joinedFacts Try.pinned.checked.prog 3 Try.f3 Rows.fnBlockedSpec Rows.fnBlockedRow = true := by
  refine facts_of Try.prog 3 Try.f3 _ _ may_enter lifts_final make_cut laid_out maps_rowed stops_none stop_knobs stops_heard rfl rfl ?_
  repeat' (with_reducible refine and_t ?_ ?_)
  all_goals (as_aux_lemma => kernel_rfl)
theorem fnBlocked_instance : Try.f3.isInstance Try.pinned.checked.prog Rows.fnBlockedRow.origin Rows.fnBlockedRow.targs := of_decide_eq_true (by kernel_rfl)
theorem fnBlocked_wrapper : Try.f3.isWrapper Try.pinned.checked.prog Rows.fnBlockedRow.wrapper Rows.fnBlockedRow.mainSum := by unfold Func.isWrapper; first | (rw [if_pos (by decide +kernel)]; kernel_rfl) | (rw [if_neg (by decide +kernel)]; exact ⟨rfl, rfl⟩)
theorem fnBlocked_holds : Rows.FnBlockedSaid :=
  OpenClaim.holds_of_wide 3 Try.f3 rfl rfl rfl rfl rfl rfl rfl ⟨rfl, rfl, rfl, rfl, rfl⟩ rfl rfl rfl rfl rfl fnBlocked_named Try.func3 fnBlocked_closed fnBlocked_instance fnBlocked_wrapper
    (fun os started H enc _ => fnBlocked_lifted os started H enc)

end Go.Proofs.Ytcknpoeannbpbaa
