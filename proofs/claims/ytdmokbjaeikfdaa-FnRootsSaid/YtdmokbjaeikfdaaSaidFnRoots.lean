/- Any two texts of bytes handed to FnRoots: it returns true. No condition. -/
import Derived.Test.YtdmokbjaeikfdaaPuR0
import Derived.Test.YtdmokbjaeikfdaaWRt03
import Derived.Test.YtdmokbjaeikfdaaOpn
import Derived.Test.YtdmokbjaeikfdaaLift
import Derived.Test.YtdmokbjaeikfdaaHead
set_option linter.unusedSimpArgs false
set_option linter.unusedVariables false
namespace Go.Proofs.Ytdmokbjaeikfdaa
open Go.ChangeShapes Go.WideShapes Go.ChangeAt Go.RowKit Go.Joins

set_option maxRecDepth 100000 in
set_option maxHeartbeats 4000000 in
theorem fnRoots_lifted (os : Os) (started : os.Started) (H : Type) (enc : TypeId × Value → H) :
    ReturnsInHanded {} Try.checked os 4 .any (Rows.fnRootsSpec.pre6 enc Try.prog Try.f4 Rows.fnRootsRow.domain false) (Rows.fnRootsSpec.post enc Try.prog Try.f4 false true false false) := by
  refine returnsInHanded_of_change (C := Try.checked) own started (by kernel_rfl) Try.func4
    (ChangeSpec.witness6 (enc := enc) (C := Try.checked) false ⟨#[], #[.slice none 0 0, .slice none 0 0], []⟩ 8 (by kernel_rfl) (by kernel_rfl) (by kernel_rfl) (by kernel_rfl)) ?_
  intro W base args ds gs before hval0 hW _ _
  have hval : ∀ (j : Nat) t v, Try.f4.params[j]? = some t → args[j]? = some v → Value.okWide Try.prog W .any base t v := hval0
  have hW' := hW
  obtain ⟨p, q, hA0, hV, hbf, _, _⟩ := hW
  have hA : DataW.TrodAll enc Try.prog W 0 (fun _ => true) true Try.f4.params.toList args.toList ds p := hA0
  rw [Try.params4] at hA hval
  obtain ⟨v0, v1, d0, d1, p0, p1, rfl, rfl, _, h0, h1⟩ := trodAll_two hA
  obtain ⟨rfl, _⟩ := trodVars_none hV
  obtain ⟨_, _, _, rfl⟩ := okWide_slice Try.underlying30 (hval 0 30 v0 rfl rfl)
  obtain ⟨m0, hm0⟩ := h0
  obtain ⟨A0, cap0, l0, fp0, e0, F0, b0, r0⟩ := open_bytes Try.underlying30 Try.underlying5 (by kernel_rfl) hm0
  cases e0
  obtain ⟨_, _, _, rfl⟩ := okWide_slice Try.underlying30 (hval 1 30 v1 rfl rfl)
  obtain ⟨m1, hm1⟩ := h1
  obtain ⟨A1, cap1, l1, fp1, e1, F1, b1, r1⟩ := open_bytes Try.underlying30 Try.underlying5 (by kernel_rfl) hm1
  cases e1
  refine (c_laws_FnRoots (r := true) (lawRoots l0 l1 r0 r1) F0 F1).mono fun e W' ⟨he, hb⟩ => ⟨_, he, ?_⟩
  exact law_post laidOut (by rw [Try.params4]; intro t ht; simp only [List.mem_cons, List.not_mem_nil, or_false] at ht; rcases ht with rfl | rfl <;> exact ⟨by kernel_rfl, of_decide_eq_true (by kernel_rfl)⟩) rfl rfl Try.underlying4 hW' rfl hb.below

theorem fnRoots_named : Try.pinned.checked.prog.funcNamed Rows.fnRootsRow.func = some 4 := by kernel_rfl
set_option maxHeartbeats 4000000 in
theorem fnRoots_closed : joinedFacts Try.pinned.checked.prog 4 Try.f4 Rows.fnRootsSpec Rows.fnRootsRow = true := by
  refine facts_of Try.prog 4 Try.f4 _ _ may_enter lifts_final make_cut laid_out maps_rowed stops_none stop_knobs stops_heard rfl rfl ?_
  repeat' (with_reducible refine and_t ?_ ?_)
  all_goals (as_aux_lemma => kernel_rfl)
theorem fnRoots_instance : Try.f4.isInstance Try.pinned.checked.prog Rows.fnRootsRow.origin Rows.fnRootsRow.targs := of_decide_eq_true (by kernel_rfl)
theorem fnRoots_wrapper : Try.f4.isWrapper Try.pinned.checked.prog Rows.fnRootsRow.wrapper Rows.fnRootsRow.mainSum := by unfold Func.isWrapper; first | (rw [if_pos (by decide +kernel)]; kernel_rfl) | (rw [if_neg (by decide +kernel)]; exact ⟨rfl, rfl⟩)
theorem fnRoots_holds : Rows.FnRootsSaid :=
  OpenClaim.holds_of_wide 4 Try.f4 rfl rfl rfl rfl rfl rfl rfl ⟨rfl, rfl, rfl, rfl, rfl⟩ rfl rfl rfl rfl rfl fnRoots_named Try.func4 fnRoots_closed fnRoots_instance fnRoots_wrapper
    (fun os started H enc _ => fnRoots_lifted os started H enc)

end Go.Proofs.Ytdmokbjaeikfdaa
