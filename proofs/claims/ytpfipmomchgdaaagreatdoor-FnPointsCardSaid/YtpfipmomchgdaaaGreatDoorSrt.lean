/- slices.SortFunc over slices of the call's own: from the library's contract. -/
import Derived.Test.YtpfipmomchgdaaaGreatDoorEqs
import Derived.Shelf.SlSortCmp.NoneTotal
set_option linter.unusedSimpArgs false
set_option linter.unusedVariables false
set_option linter.unusedSectionVars false
set_option linter.unusedSectionVars false
namespace Go.Proofs.YtpfipmomchgdaaaGreatDoor
open Go.RowKit Go.Sort Go.Shelf
variable [Flag]

/-- What turns no elder block is a growth. -/
theorem Chg.grow_form {w w' : World} (h : @Chg ⟨true⟩ [] w w') : ∃ (q : Nat) (os' : Array Obj), w' = Go.Sort.grow (w.drewN q) os' := by
  obtain ⟨q1, q2, q3, q4, q5, q6⟩ := h
  refine ⟨w'.drawn - w.drawn, w'.heap.extract w.heap.size w'.heap.size, ?_⟩
  have hd : w.drawn ≤ w'.drawn := q6
  have hh : w'.heap = w.heap ++ w'.heap.extract w.heap.size w'.heap.size := by
    apply Array.ext_getElem?
    intro i
    by_cases hi : i < w.heap.size
    · rw [q5 i hi (by simp), Array.getElem?_append_left hi]
    · rw [Array.getElem?_append_right (by omega), Array.getElem?_extract]
      split
      · congr 1; omega
      · exact Array.getElem?_eq_none (by omega)
  cases w' with
  | mk hp tp dr o ou =>
    cases w with
    | mk hp0 tp0 dr0 o0 ou0 =>
      have h1 := q1; have h2 := q2; have h3 := q3
      simp only at h1 h2 h3 hh hd
      unfold Go.Sort.grow World.drewN
      simp only [World.mk.injEq]
      exact ⟨hh, h2, by omega, h1, h3⟩
section
variable {α : Type} [Inhabited α] {k : Nat} {enc : α → List Value}
theorem flatK_list (he : EncOk k enc) (l : List α) : flatK enc k l.toArray = (l.flatMap enc).toArray := by
  have hs : (flatK enc k l.toArray).size = (l.flatMap enc).toArray.size := by rw [size_flatK]; simp only [List.size_toArray]; rw [flatMap_length he]
  apply ext_get! hs
  intro t ht
  rw [size_flatK] at ht
  rw [get_flatK _ _ _ _ ht]
  simp only [List.size_toArray] at ht
  have hk := he.pos
  have hdiv : t / k < l.length := by rw [Nat.div_lt_iff_lt_mul hk]; exact ht
  have hmod : t % k < k := Nat.mod_lt _ hk
  have htt : t / k * k + t % k = t := by rw [Nat.mul_comm]; exact Nat.div_add_mod t k
  have hg := flatMap_get he hmod l (t / k) _ (List.getElem?_eq_getElem hdiv)
  rw [htt] at hg
  have h1 : l.toArray[t / k]! = l[t / k] := by simp [hdiv]
  rw [h1, List.getElem!_eq_getElem?_getD, ← hg, List.getElem!_toArray, List.getElem!_eq_getElem?_getD]
theorem Ow.holdsK {T : TypeId} {w : World} {fp : List Nat} {cap : Nat} {l : List α} {g : Nat} {cs : List Value} (he : EncOk k enc) (hC : Cl w g T cs) (hle : l.length * k ≤ cs.length) (ht : cs.take (l.length * k) = l.flatMap enc) : HoldsK enc k w g 0 l.toArray := by
  unfold HoldsK
  rw [flatK_list he]
  intro j hj
  simp only [List.size_toArray] at hj
  refine ⟨?_, by rw [Nat.zero_add]; exact hC.frozen j⟩
  rw [Nat.zero_add, hC.cell]
  have hj' : j < l.length * k := by rwa [flatMap_length he] at hj
  have : cs[j]? = (l.flatMap enc)[j]? := by rw [← ht, List.getElem?_take, if_pos hj']
  rw [this, List.getElem?_eq_getElem hj]
  simp [List.getElem?_eq_getElem hj]
/-- What a sort leaves. -/
theorem Ow.sorted {T : TypeId} {w : World} {cap n : Nat} {l l' : List α} {g : Nat} {cs : List Value} {os : Array Obj} (he : EncOk k enc) (hC : Cl w g T cs) (hcs : cs.length = cap * k) (hlc : l.length ≤ cap) (hm : cap ≤ maxLen) (hl : l'.length = l.length) :
    Ow k enc T (sortWorldK enc k w g 0 n l'.toArray os) [g] (some ⟨g, 0, none⟩) cap l' ∧ Chg [g] w (sortWorldK enc k w g 0 n l'.toArray os) := by
  have hlt := hC.lt
  have hle : l'.length * k ≤ cs.length := by rw [hcs, hl]; exact Nat.mul_le_mul_right k hlc
  have hblk : (sortWorldK enc k w g 0 n l'.toArray os).heap[g]? = some (.cells (putCells id 0 (flatK enc k l'.toArray) cs.toArray) T (0, 0)) := by
    unfold sortWorldK putRowK putRow
    rw [heap_grow_old _ _ (by simp [mapBlock]; exact hlt)]
    have : w.heap[g]? = some (.cells cs.toArray T (0, 0)) := hC
    simp [mapBlock, Array.getElem?_modify, Sort.ahead, this, onCells]
  refine ⟨⟨Or.inr ⟨g, (putCells id 0 (flatK enc k l'.toArray) cs.toArray).toList, rfl, rfl, by unfold Cl; simpa using hblk, by simp [putCells, hcs], by omega, hm, ?_⟩⟩, ?_⟩
  · rw [flatK_list he]
    apply List.ext_getElem?
    intro j
    rw [List.getElem?_take]
    split
    · rename_i hj
      have hj2 : j < cs.length := by omega
      have hj3 : j < (l'.flatMap enc).length := by rw [flatMap_length he]; exact hj
      rw [List.getElem?_eq_getElem hj3]
      simp only [putCells, Array.getElem?_toList, Array.getElem?_mapIdx, Nat.zero_le, true_and, Nat.zero_add, List.size_toArray, Nat.sub_zero, id]
      simp [hj2, List.getElem?_eq_getElem hj3]
      intro hx
      exfalso
      rw [List.length_flatMap] at hj3
      omega
    · rename_i hj
      exact (List.getElem?_eq_none (by rw [flatMap_length he]; omega)).symm
  · refine ⟨rfl, rfl, rfl, by unfold sortWorldK putRowK putRow; simp [mapBlock, Sort.ahead], fun i hi hn => ?_, drOf (by show w.drawn ≤ w.drawn + n; omega)⟩
    unfold sortWorldK putRowK putRow
    rw [heap_grow_old _ _ (by simp [mapBlock]; exact hi)]
    simp only [List.mem_singleton] at hn
    simp [mapBlock, Array.getElem?_modify, Ne.symm hn, Sort.ahead]
theorem sort_own {P : Program} {ρ : Ren} {T : TypeId} (L : SlLaysF0.n6 P ρ) (aE : ∀ w, (isAgg (ρ.t 24)).run P w = .ok true w) (zE : ∀ w, (Go.sizeOf (ρ.t 24)).run P w = .ok k w) (he : EncOk k enc) (cf : α → α → Int) (hO : SWO (ltOf cf)) (hT : ∀ x y, (ltOf cf) x y = false → (ltOf cf) y x = false → x = y) (g : Nat)
    (eg : Ent P g) (hcmp : ∀ x y W, Calls P g #[.agg (enc x).toArray, .agg (enc y).toArray] W fun e w' => e = .returned (.int .i64 (cf x y)) ∧ @Chg ⟨true⟩ [] W w')
    {w : World} {fp : List Nat} {A : Option Addr} {cap : Nat} {l : List α} (F : Ow k enc T w fp A cap l) (hlen : l.length < 4611686018427387904) :
    Calls P (ρ.f 6) #[.slice A l.length cap, .func (.func g) #[] #[]] w fun e w' => e = .returned (.tuple #[]) ∧ Ow k enc T w' fp A cap (l.mergeSort fun x y => !(ltOf cf) y x) ∧ (l.mergeSort fun x y => !(ltOf cf) y x).length = l.length ∧ Chg (fp ++ []) w w' := by
  rcases F.is with ⟨rfl, rfl, rfl, rfl⟩ | ⟨g0, cs, rfl, rfl, hC, hcs, hlc, hm, ht⟩
  · refine (AnyF.slices_SortFunc_none { L with } none 0 _ w).mono ?_
    rintro e w' ⟨rfl, rfl⟩
    exact ⟨rfl, by simpa using F, by simp, Chg.refl _ _⟩
  · have hH : HoldsK enc k w g0 0 l.toArray := Ow.holdsK (fp := [g0]) (cap := cap) he hC (by rw [hcs]; exact Nat.mul_le_mul_right k hlc) ht
    have hcl : CmpLays P g #[] enc k cf g0 0 l.toArray.size w := fun m os dk _ x y => (hcmp x y _).mono fun e w' ⟨h1, h2⟩ => ⟨h1, h2.grow_form⟩
    refine (AnyQ.slices_SortFunc_total L k aE zE enc he.len he.one cf hO g #[] g0 0 cap l.toArray w (fun args w => pureRun_run (eg args) w) hcl hH hC.lt (by simpa using hlen) hT).mono ?_
    rintro e w' ⟨rfl, n, os, rfl⟩
    have hl : (l.mergeSort fun x y => !(ltOf cf) y x).length = l.length := List.length_mergeSort _
    obtain ⟨h1, h2⟩ := Ow.sorted (n := n) (os := os) he hC hcs hlc hm hl
    exact ⟨rfl, h1, hl, h2⟩
end
end Go.Proofs.YtpfipmomchgdaaaGreatDoor
