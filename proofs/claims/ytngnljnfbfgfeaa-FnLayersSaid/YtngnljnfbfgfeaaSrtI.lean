/- slices.Sort over numbers of the call's own: from the library's contract. -/
import Derived.Test.YtngnljnfbfgfeaaSrt
import Derived.Test.YtngnljnfbfgfeaaMan
import Derived.Shelf.Sort.Plain
import Derived.Shelf.Slices.In.SortNone
set_option linter.unusedSimpArgs false
set_option linter.unusedVariables false
set_option linter.unusedSectionVars false
namespace Go.Proofs.Ytngnljnfbfgfeaa
open Go.RowKit Go.Sort Go.Shelf

theorem flat_I (l : List Int) : l.flatMap encI = l.map (Value.int .i64) := by
  induction l with
  | nil => rfl
  | cons x l ih => simp [List.flatMap_cons, ih, encI]
theorem putRow_I (W : World) (b o : Nat) (l : List Int) : putRow (Value.int .i64) W b o l.toArray = putRowK encI 1 W b o l.toArray := by
  unfold putRowK
  rw [flatK_list encI_ok, flat_I]
  unfold putRow
  congr 1
  funext c
  unfold putCells
  congr 1
  funext k x
  simp only [List.size_toArray, List.length_map, id]
  split
  · rename_i h
    have hk : k - o < l.length := by omega
    simp [hk]
  · rfl
theorem holds_I {w : World} {b o : Nat} {l : List Int} (h : HoldsK encI 1 w b o l.toArray) : Go.Sort.Holds (Value.int .i64) w b o l.toArray := by
  unfold HoldsK at h
  rw [flatK_list encI_ok, flat_I] at h
  intro j hj
  have := h j (by simpa using hj)
  have hj' : j < l.length := by simpa using hj
  simpa [hj'] using this
theorem sort_ownI {P : Program} {ρ : Ren} {T : TypeId} (L : Lays.n189 P ρ) {w : World} {fp : List Nat} {A : Option Addr} {cap : Nat} {l : List Int} (F : Ow 1 encI T w fp A cap l) (hlen : l.length < 4611686018427387904) :
    Calls P (ρ.f 189) #[.slice A l.length cap] w fun e w' => e = .returned (.tuple #[]) ∧ Ow 1 encI T w' fp A cap (sortI l) ∧ (sortI l).length = l.length ∧ Chg (fp ++ []) w w' := by
  rcases F.is with ⟨rfl, rfl, rfl, rfl⟩ | ⟨g0, cs, rfl, rfl, hC, hcs, hlc, hm, ht⟩
  · refine (Any.slices_Sort_int_none L none 0 w).mono ?_
    rintro e w' ⟨rfl, rfl⟩
    exact ⟨rfl, by simpa [sortI] using F, by simp [sortI], Chg.refl _ _⟩
  · have hH : HoldsK encI 1 w g0 0 l.toArray := Ow.holdsK (fp := [g0]) (cap := cap) encI_ok hC (by rw [hcs]; exact Nat.mul_le_mul_right 1 hlc) ht
    refine (Any.slices_Sort_int L g0 0 cap l w (holds_I hH) hC.lt (by simpa using hlen)).mono ?_
    rintro e w' ⟨rfl, n, os, rfl⟩
    have hl : (sortI l).length = l.length := List.length_mergeSort _
    obtain ⟨h1, h2⟩ := Ow.sorted (n := n) (os := os) encI_ok hC hcs hlc hm hl
    refine ⟨rfl, ?_, hl, ?_⟩
    · rw [putRow_I]; exact h1
    · rw [putRow_I, List.append_nil]; exact h2
end Go.Proofs.Ytngnljnfbfgfeaa
