/- slices.SortFunc over slices of the call's own: from the library's contract. -/
import Derived.Test.YtbfjekmefcpkmaaDoorEqs
import Derived.Shelf.SlSortCmp.NoneTotal
set_option linter.unusedSimpArgs false
set_option linter.unusedVariables false
set_option linter.unusedSectionVars false
namespace Go.Proofs.YtbfjekmefcpkmaaDoor
open Go.RowKit Go.Sort Go.Shelf

section
variable {α : Type} [Inhabited α] {k : Nat} {enc : α → List Value}
theorem flatK_list (he : EncOk k enc) (l : List α) : flatK enc k l.toArray = (l.flatMap enc).toArray := by
 have hs : (flatK enc k l.toArray).size = (l.flatMap enc).toArray.size := by rw [size_flatK]; simp only [List.size_toArray]; rw [flatMap_length he]
 apply ext_get! hs
 intro t ht
 rw [size_flatK] at ht
 rw [get_flatK _ _ _ _ ht]
 simp only [List.size_toArray] at ht
 have hk := he.pos
 have hdiv : t / k < l.length := by rw [Nat.div_lt_iff_lt_mul hk]; exact ht
 have hmod : t % k < k := Nat.mod_lt _ hk
 have htt : t / k * k + t % k = t := by rw [Nat.mul_comm]; exact Nat.div_add_mod t k
 have hg := flatMap_get he hmod l (t / k) _ (List.getElem?_eq_getElem hdiv)
 rw [htt] at hg
 have h1 : l.toArray[t / k]! = l[t / k] := by simp [hdiv]
 rw [h1, List.getElem!_eq_getElem?_getD, ← hg, List.getElem!_toArray, List.getElem!_eq_getElem?_getD]
theorem Ow.holdsK {T : TypeId} {w : World} {fp : List Nat} {cap : Nat} {l : List α} {g : Nat} {cs : List Value} (he : EncOk k enc) (hC : Cl w g T cs) (hle : l.length * k ≤ cs.length) (ht : cs.take (l.length * k) = l.flatMap enc) : HoldsK enc k w g 0 l.toArray := by
 unfold HoldsK
 rw [flatK_list he]
 intro j hj
 simp only [List.size_toArray] at hj
 refine ⟨?_, by rw [Nat.zero_add]; exact hC.frozen j⟩
 rw [Nat.zero_add, hC.cell]
 have hj' : j < l.length * k := by rwa [flatMap_length he] at hj
 have : cs[j]? = (l.flatMap enc)[j]? := by rw [← ht, List.getElem?_take, if_pos hj']
 rw [this, List.getElem?_eq_getElem hj]
 simp [List.getElem?_eq_getElem hj]
theorem Ow.sorted {T : TypeId} {w : World} {cap n : Nat} {l l' : List α} {g : Nat} {cs : List Value} {os : Array Obj} (he : EncOk k enc) (hC : Cl w g T cs) (hcs : cs.length = cap * k) (hlc : l.length ≤ cap) (hm : cap ≤ maxLen) (hl : l'.length = l.length) :
  Ow k enc T (sortWorldK enc k w g 0 n l'.toArray os) [g] (some ⟨g, 0, none⟩) cap l' ∧ Chg [g] w (sortWorldK enc k w g 0 n l'.toArray os) := by
 have hlt := hC.lt
 have hle : l'.length * k ≤ cs.length := by rw [hcs, hl]; exact Nat.mul_le_mul_right k hlc
 have hblk : (sortWorldK enc k w g 0 n l'.toArray os).heap[g]? = some (.cells (putCells id 0 (flatK enc k l'.toArray) cs.toArray) T (0, 0)) := by
  unfold sortWorldK putRowK putRow
  rw [heap_grow_old _ _ (by simp [mapBlock]; exact hlt)]
  have : w.heap[g]? = some (.cells cs.toArray T (0, 0)) := hC
  simp [mapBlock, Array.getElem?_modify, Sort.ahead, this, onCells]
 refine ⟨⟨Or.inr ⟨g, (putCells id 0 (flatK enc k l'.toArray) cs.toArray).toList, rfl, rfl, by unfold Cl; simpa using hblk, by simp [putCells, hcs], by omega, hm, ?_⟩⟩, ?_⟩
 ·rw [flatK_list he]
  apply List.ext_getElem?
  intro j
  rw [List.getElem?_take]
  split
  ·rename_i hj
   have hj2 : j < cs.length := by omega
   have hj3 : j < (l'.flatMap enc).length := by rw [flatMap_length he]; exact hj
   rw [List.getElem?_eq_getElem hj3]
   simp only [putCells, Array.getElem?_toList, Array.getElem?_mapIdx, Nat.zero_le, true_and, Nat.zero_add, List.size_toArray, Nat.sub_zero, id]
   simp [hj2, List.getElem?_eq_getElem hj3]
   intro hx
   exfalso
   rw [List.length_flatMap] at hj3
   omega
  ·rename_i hj
   exact (List.getElem?_eq_none (by rw [flatMap_length he]; omega)).symm
 ·refine ⟨rfl, rfl, rfl, by unfold sortWorldK putRowK putRow; simp [mapBlock, Sort.ahead], fun i hi hn => ?_, by show w.drawn ≤ w.drawn + n; omega⟩
  unfold sortWorldK putRowK putRow
  rw [heap_grow_old _ _ (by simp [mapBlock]; exact hi)]
  simp only [List.mem_singleton] at hn
  simp [mapBlock, Array.getElem?_modify, Ne.symm hn, Sort.ahead]
end
end Go.Proofs.YtbfjekmefcpkmaaDoor
