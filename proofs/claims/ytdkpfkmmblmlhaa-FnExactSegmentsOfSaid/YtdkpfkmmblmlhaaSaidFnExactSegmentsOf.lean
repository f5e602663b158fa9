/- Every list of paths handed to SegmentsOf: the program and the reference return the same. No condition. -/
import Derived.Test.YtdkpfkmmblmlhaaPuSeg
import Derived.Test.YtdkpfkmmblmlhaaWPs01
import Derived.Test.YtdkpfkmmblmlhaaOpn
import Derived.Test.YtdkpfkmmblmlhaaLift
import Derived.Test.YtdkpfkmmblmlhaaHead
set_option linter.unusedSimpArgs false
set_option linter.unusedVariables false
namespace Go.Proofs.Ytdkpfkmmblmlhaa
open Go.ChangeShapes Go.WideShapes Go.ChangeAt Go.RowKit Go.Joins

set_option maxRecDepth 100000 in
theorem fnExactSegmentsOf_lifted (os : Os) (started : os.Started) (H : Type) (enc : TypeId × Value → H) :
    ReturnsInHanded {} Try.checked os 17 .any (Rows.fnExactSegmentsOfSpec.pre6 enc Try.prog Try.f17 Rows.fnExactSegmentsOfRow.domain false) (Rows.fnExactSegmentsOfSpec.post enc Try.prog Try.f17 false true false false) := by
  refine returnsInHanded_of_change (C := Try.checked) own started (by kernel_rfl) Try.func17
    (ChangeSpec.witness6 (enc := enc) (C := Try.checked) false ⟨#[], #[.slice none 0 0], []⟩ 8 (by kernel_rfl) (by kernel_rfl) (by kernel_rfl) (by kernel_rfl)) ?_
  intro W base args ds gs before hval0 hW _ _
  have hval : ∀ (j : Nat) t v, Try.f17.params[j]? = some t → args[j]? = some v → Value.okWide Try.prog W .any base t v := hval0
  have hW' := hW
  obtain ⟨p, q, hA0, hV, hbf, _, _⟩ := hW
  have hA : DataW.TrodAll enc Try.prog W 0 (fun _ => true) true Try.f17.params.toList args.toList ds p := hA0
  rw [Try.params17] at hA hval
  obtain ⟨v0, d0, rfl, rfl, h0⟩ := trodAll_one hA
  obtain ⟨rfl, _⟩ := trodVars_none hV
  obtain ⟨_, _, _, rfl⟩ := okWide_slice Try.underlying52 (hval 0 52 v0 rfl rfl)
  obtain ⟨m0, hm0⟩ := h0
  obtain ⟨A0, cap0, l0, fp0, e0, F0, b0, r0⟩ := open_rowsG Try.underlying52 (by kernel_rfl) (Q := fun r : List (Int × Int) => r.length ≤ 9223372036854775807 ∧ ∀ p ∈ r, In64 p.1 ∧ In64 p.2) (fun n v x hx => open_ptsC Try.underlying22 Try.underlying32 (by kernel_rfl) rfl rfl (by kernel_rfl) (by kernel_rfl) Try.underlying2 Try.underlying2 hx) hm0
  cases e0
  refine (c_laws_FnExactSegmentsOf (r := true) (lawSegmentsOf_eq l0 b0 (fun r hr => (r0 r hr).1)) F0).mono fun e W' ⟨he, hb⟩ => ⟨_, he, ?_⟩
  exact law_post laidOut (by rw [Try.params17]; intro t ht; simp only [List.mem_cons, List.not_mem_nil, or_false] at ht; subst ht; exact ⟨by kernel_rfl, of_decide_eq_true (by kernel_rfl)⟩) rfl rfl Try.underlying4 hW' rfl hb.below

theorem fnExactSegmentsOf_named : Try.pinned.checked.prog.funcNamed Rows.fnExactSegmentsOfRow.func = some 17 := by kernel_rfl
theorem fnExactSegmentsOf_closed : joinedFacts Try.pinned.checked.prog 17 Try.f17 Rows.fnExactSegmentsOfSpec Rows.fnExactSegmentsOfRow = true := by
  refine facts_of Try.prog 17 Try.f17 _ _ may_enter lifts_final make_cut laid_out maps_rowed stops_none stop_knobs stops_heard rfl rfl ?_
  repeat' (with_reducible refine and_t ?_ ?_)
  all_goals (as_aux_lemma => kernel_rfl)
theorem fnExactSegmentsOf_instance : Try.f17.isInstance Try.pinned.checked.prog Rows.fnExactSegmentsOfRow.origin Rows.fnExactSegmentsOfRow.targs := of_decide_eq_true (by kernel_rfl)
theorem fnExactSegmentsOf_wrapper : Try.f17.isWrapper Try.pinned.checked.prog Rows.fnExactSegmentsOfRow.wrapper Rows.fnExactSegmentsOfRow.mainSum := by unfold Func.isWrapper; first | (rw [if_pos (by decide +kernel)]; kernel_rfl) | (rw [if_neg (by decide +kernel)]; exact ⟨rfl, rfl⟩)
theorem fnExactSegmentsOf_holds : Rows.FnExactSegmentsOfSaid :=
  OpenClaim.holds_of_wide 17 Try.f17 rfl rfl rfl rfl rfl rfl rfl ⟨rfl, rfl, rfl, rfl, rfl⟩ rfl rfl rfl rfl rfl fnExactSegmentsOf_named Try.func17 fnExactSegmentsOf_closed fnExactSegmentsOf_instance fnExactSegmentsOf_wrapper
    (fun os started H enc _ => fnExactSegmentsOf_lifted os started H enc)

end Go.Proofs.Ytdkpfkmmblmlhaa
