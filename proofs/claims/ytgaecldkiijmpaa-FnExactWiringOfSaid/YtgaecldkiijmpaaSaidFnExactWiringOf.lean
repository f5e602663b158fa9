/- Any list of paths handed to FnExactWiringOf: it returns true. No condition. -/
import Derived.Test.YtgaecldkiijmpaaPuWO
import Derived.Test.YtgaecldkiijmpaaWWo04
import Derived.Test.YtgaecldkiijmpaaOpn
import Derived.Test.YtgaecldkiijmpaaLift
import Derived.Test.YtgaecldkiijmpaaHead
set_option linter.unusedSimpArgs false
set_option linter.unusedVariables false
namespace Go.Proofs.Ytgaecldkiijmpaa
open Go.ChangeShapes Go.WideShapes Go.ChangeAt Go.RowKit Go.Joins

set_option maxRecDepth 100000 in
theorem fnExactWiringOf_lifted (os : Os) (started : os.Started) (H : Type) (enc : TypeId × Value → H) :
    ReturnsInHanded {} Try.checked os 10 .any (Rows.fnExactWiringOfSpec.pre6 enc Try.prog Try.f10 Rows.fnExactWiringOfRow.domain false) (Rows.fnExactWiringOfSpec.post enc Try.prog Try.f10 false true false false) := by
  refine returnsInHanded_of_change (C := Try.checked) own started (by kernel_rfl) Try.func10
    (ChangeSpec.witness6 (enc := enc) (C := Try.checked) false ⟨#[], #[.slice none 0 0], []⟩ 8 (by kernel_rfl) (by kernel_rfl) (by kernel_rfl) (by kernel_rfl)) ?_
  intro W base args ds gs before hval0 hW _ _
  have hval : ∀ (j : Nat) t v, Try.f10.params[j]? = some t → args[j]? = some v → Value.okWide Try.prog W .any base t v := hval0
  have hW' := hW
  obtain ⟨p, q, hA0, hV, hbf, _, _⟩ := hW
  have hA : DataW.TrodAll enc Try.prog W 0 (fun _ => true) true Try.f10.params.toList args.toList ds p := hA0
  rw [Try.params10] at hA hval
  obtain ⟨v0, d0, rfl, rfl, h0⟩ := trodAll_one hA
  obtain ⟨rfl, _⟩ := trodVars_none hV
  obtain ⟨_, _, _, rfl⟩ := okWide_slice Try.underlying80 (hval 0 80 v0 rfl rfl)
  obtain ⟨m0, hm0⟩ := h0
  obtain ⟨A0, cap0, l0, fp0, e0, F0, b0, r0⟩ := open_rowsG Try.underlying80 (by kernel_rfl) (Q := fun r : List (Int × Int) => r.length ≤ 9223372036854775807 ∧ ∀ p ∈ r, In64 p.1 ∧ In64 p.2) (fun n v x hx => open_ptsC Try.underlying51 Try.underlying58 (by kernel_rfl) rfl rfl (by kernel_rfl) (by kernel_rfl) Try.underlying2 Try.underlying2 hx) hm0
  cases e0
  refine (c_laws_FnExactWiringOf (r := true) (lawWiringOf_eq l0 b0 (fun r hr => (r0 r hr).1)) F0).mono fun e W' ⟨he, hb⟩ => ⟨_, he, ?_⟩
  exact law_post laidOut (by rw [Try.params10]; intro t ht; simp only [List.mem_cons, List.not_mem_nil, or_false] at ht; subst ht; exact ⟨by kernel_rfl, of_decide_eq_true (by kernel_rfl)⟩) rfl rfl Try.underlying4 hW' rfl hb.below

theorem fnExactWiringOf_named : Try.pinned.checked.prog.funcNamed Rows.fnExactWiringOfRow.func = some 10 := by kernel_rfl
set_option maxHeartbeats 4000000 in
theorem fnExactWiringOf_closed : joinedFacts Try.pinned.checked.prog 10 Try.f10 Rows.fnExactWiringOfSpec Rows.fnExactWiringOfRow = true := by
  refine facts_of Try.prog 10 Try.f10 _ _ may_enter lifts_final make_cut laid_out maps_rowed stops_none stop_knobs stops_heard rfl rfl ?_
  repeat' (with_reducible refine and_t ?_ ?_)
  all_goals (as_aux_lemma => kernel_rfl)
theorem fnExactWiringOf_instance : Try.f10.isInstance Try.pinned.checked.prog Rows.fnExactWiringOfRow.origin Rows.fnExactWiringOfRow.targs := of_decide_eq_true (by kernel_rfl)
theorem fnExactWiringOf_wrapper : Try.f10.isWrapper Try.pinned.checked.prog Rows.fnExactWiringOfRow.wrapper Rows.fnExactWiringOfRow.mainSum := by unfold Func.isWrapper; first | (rw [if_pos (by decide +kernel)]; kernel_rfl) | (rw [if_neg (by decide +kernel)]; exact ⟨rfl, rfl⟩)
theorem fnExactWiringOf_holds : Rows.FnExactWiringOfSaid :=
  OpenClaim.holds_of_wide 10 Try.f10 rfl rfl rfl rfl rfl rfl rfl ⟨rfl, rfl, rfl, rfl, rfl⟩ rfl rfl rfl rfl rfl fnExactWiringOf_named Try.func10 fnExactWiringOf_closed fnExactWiringOf_instance fnExactWiringOf_wrapper
    (fun os started H enc _ => fnExactWiringOf_lifted os started H enc)

end Go.Proofs.Ytgaecldkiijmpaa
