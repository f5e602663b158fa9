/- slices.Clip of points. -/
import Derived.Test.YtooogkcoedampaaProg
import Derived.Test.YtooogkcoedampaaFull
set_option linter.unusedSimpArgs false
set_option linter.unusedVariables false
namespace Go.Proofs.Ytooogkcoedampaa
open Go.RowKit
attribute [local irreducible] wS cW eX wH
theorem clip_sl : SlTy Try.prog 24 35 2 := ⟨Try.underlying24, by kernel_rfl⟩
set_option maxRecDepth 100000 in
theorem c_slices_Clip_impl_Point_impl_Point {w0 : World} {n cap0 : Nat} {A0 : Option Addr} (K0 : n ≤ cap0) :
    Calls Try.prog 35 #[.slice A0 n cap0] w0 fun e w' => e = .returned (.slice A0 n n) ∧ Chg [] w0 w' := by
  have hB : Chg [] w0 w0 := Chg.refl _ _
  refine enterE (N := 9) Try.func35 (by rfl) Try.ntmps35 (by simp) [(0, .slice A0 n cap0)] (by rfl) (by kernel_rfl) (fun a => ?_)
  refine cW_seq ?_
  refine cW_region ?_
  refine wS_pure 1 [(2, .slice none 0 0)] (by kernel_rfl) ?_
  refine wS_end (by rfl) ?_
  refine eX_then ?_
  refine cW_seq ?_
  refine cW_region ?_
  refine wS_pure 5 [(7, .int .i64 (n : Int)), (6, .slice A0 n cap0), (5, .int .i64 (n : Int)), (4, .slice A0 n cap0), (3, .slice A0 n cap0)] (by kernel_rfl) ?_
  refine wS_slice3 (A := A0) (d := 8) (T := 24) (by kernel_rfl) clip_sl K0 ?_
  refine wS_pure 1 [(2, .slice A0 n n)] (by kernel_rfl) ?_
  refine wS_end (by rfl) ?_
  refine eX_then ?_
  refine cW_ret ?_
  refine eX_ret (vs := [.slice A0 n n]) [.tmp 2] (by rfl) ⟨by (show lkE _ _ _ = _); kernel_rfl, trivial⟩ ?_
  exact ⟨rfl, hB⟩
end Go.Proofs.Ytooogkcoedampaa
