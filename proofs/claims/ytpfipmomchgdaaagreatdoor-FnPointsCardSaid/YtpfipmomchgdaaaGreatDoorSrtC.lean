/- slices.SortFunc: the contracts that the walks use. -/
import Derived.Test.YtpfipmomchgdaaaGreatDoorSrtL
import Derived.Test.YtpfipmomchgdaaaGreatDoorPuSrt
import Derived.Test.YtpfipmomchgdaaaGreatDoorWCmp01
set_option linter.unusedSimpArgs false
set_option linter.unusedVariables false
namespace Go.Proofs.YtpfipmomchgdaaaGreatDoor
open Go.RowKit Go.Sort Go.Shelf
theorem sortPt_ent : Ent Tryz.prog 36 := fun _ => by kernel_rfl
theorem c_slices_SortFunc_impl_Point_impl_Point_impl_pointOrder {w0 : World} {l0 : List (Int × Int)} {A0 : Option Addr} {cap0 : Nat} {fp0 : List Nat} {r : List (Int × Int)} (hm : m_slices_SortFunc_impl_Point_impl_Point_impl_pointOrder l0 = some r) (F0 : Ow 2 encII 27 w0 fp0 A0 cap0 l0) :
    Calls Tryz.prog 35 #[.slice A0 (l0).length cap0, .func (.func 36) #[] #[]] w0 fun e w' => e = .returned (.tuple #[]) ∧ Ow 2 encII 27 w' fp0 A0 cap0 r ∧ (r).length = (l0).length ∧ Chg (fp0 ++ []) w0 w' := by
  unfold m_slices_SortFunc_impl_Point_impl_Point_impl_pointOrder at hm
  obtain ⟨_, hk, hm⟩ := bindE hm
  replace hk := apE hk
  replace hm := someE hm
  subst hm
  have h := sort_own (ρ := sortPt_ren) (T := 27) sortPt (fun w => pureRun_run (by kernel_rfl) w) (fun w => pureRun_run (by kernel_rfl) w) encII_ok cmpPt swoPt totPt 36 sortPt_ent
    (fun x y W => @c_impl_pointOrder ⟨true⟩ W _ _ _ _ _ (pointOrder_val x y)) F0 (by unfold lim at hk; simp at hk; omega)
  rw [lePt_eq] at h
  exact h
end Go.Proofs.YtpfipmomchgdaaaGreatDoor
