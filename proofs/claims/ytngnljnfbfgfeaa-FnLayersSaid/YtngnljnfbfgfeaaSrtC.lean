/- slices.SortFunc: the contracts that the walks use. -/
import Derived.Test.YtngnljnfbfgfeaaSrtL
set_option linter.unusedSimpArgs false
set_option linter.unusedVariables false
namespace Go.Proofs.Ytngnljnfbfgfeaa
open Go.RowKit Go.Sort Go.Shelf
theorem c_slices_Sort_int_int {w0 : World} {l0 : List Int} {A0 : Option Addr} {cap0 : Nat} {fp0 : List Nat} {r : List Int} (hm : m_slices_Sort_int_int l0 = some r) (F0 : Ow 1 encI 3 w0 fp0 A0 cap0 l0) :
    Calls Try.prog 95 #[.slice A0 (l0).length cap0] w0 fun e w' => e = .returned (.tuple #[]) ∧ Ow 1 encI 3 w' fp0 A0 cap0 r ∧ (r).length = (l0).length ∧ Chg (fp0 ++ []) w0 w' := by
  unfold m_slices_Sort_int_int at hm
  obtain ⟨_, hk, hm⟩ := bindE hm
  replace hk := apE hk
  replace hm := someE hm
  subst hm
  exact sort_ownI (ρ := sortIn_ren) sortIn F0 (by unfold lim at hk; simp at hk; omega)
end Go.Proofs.Ytngnljnfbfgfeaa
