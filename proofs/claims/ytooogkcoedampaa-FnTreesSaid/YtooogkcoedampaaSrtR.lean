/- slices.SortFunc over rows of the call's own: the contract that the walks use. -/
import Derived.Test.YtooogkcoedampaaSrtL
import Derived.Test.YtooogkcoedampaaSrtC
import Derived.Test.YtooogkcoedampaaSrt2
import Derived.Test.YtooogkcoedampaaPuCmp
import Derived.Test.YtooogkcoedampaaWCl01
set_option linter.unusedSimpArgs false
set_option linter.unusedVariables false
namespace Go.Proofs.Ytooogkcoedampaa
open Go.RowKit Go.Sort Go.Shelf
theorem sortRw_ent : Ent Try.prog 26 := fun _ => by kernel_rfl
theorem c_slices_SortFunc_int64_int64_slices_Compare_int64_int64 {w0 : World} {l0 : List (List Int)} {A0 : Option Addr} {cap0 : Nat} {fp0 fr0 : List Nat} {r : List (List Int)} (hm : m_slices_SortFunc_int64_int64_slices_Compare_int64_int64 l0 = some r) (F0 : OwR 1 encI 32 2 w0 fp0 fr0 A0 cap0 l0) :
    Calls Try.prog 25 #[.slice A0 (l0).length cap0, .func (.func 26) #[] #[]] w0 fun e w' => e = .returned (.tuple #[]) ∧ OwR 1 encI 32 2 w' fp0 fr0 A0 cap0 r ∧ (r).length = (l0).length ∧ Chg ((fp0 ++ fr0) ++ []) w0 w' := by
  unfold m_slices_SortFunc_int64_int64_slices_Compare_int64_int64 at hm
  obtain ⟨_, hk, hm⟩ := bindE hm
  replace hk := apE hk
  replace hm := someE hm
  subst hm
  have h := sort_ownR (ρ := sortRw_ren) sortRw encI_ok cmpL swoRow totRow 26 sortRw_ent
    (fun x y B B' c c' fp W hx hy h1 h2 => c_slices_Compare_int64_int64 (Compare_eq x y (by have := hx; unfold maxLen at this; omega)) h1 h2) F0 (by unfold lim at hk; simp at hk; omega)
  rw [sortRows_eq] at h
  exact h
end Go.Proofs.Ytooogkcoedampaa
