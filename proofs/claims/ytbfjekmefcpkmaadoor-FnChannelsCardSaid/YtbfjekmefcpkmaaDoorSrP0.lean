/- slices.Sort over numbers of the call's own: from the library's contract. The library sort laid at this program. slices.SortFunc: the contracts that the walks use. -/
import Derived.Test.YtbfjekmefcpkmaaDoorSrt
import Derived.Test.YtbfjekmefcpkmaaDoorMan
import Derived.Shelf.SortM.Plain
import Derived.Shelf.SortM.SortNone
import Derived.Ground.SlgmProg
import Derived.Shelf.SlGeneric
import Derived.Test.YtbfjekmefcpkmaaDoorProg
set_option linter.unusedSimpArgs false
set_option linter.unusedVariables false
set_option linter.unusedSectionVars false
namespace Go.Proofs.YtbfjekmefcpkmaaDoor
open Go.RowKit Go.Sort Go.Shelf

theorem flat_I (l : List Int) : l.flatMap encI = l.map (Value.int .i64) := by
 induction l with
 | nil => rfl
 | cons x l ih => simp [List.flatMap_cons, ih, encI]
theorem putRow_I (W : World) (b o : Nat) (l : List Int) : putRow (Value.int .i64) W b o l.toArray = putRowK encI 1 W b o l.toArray := by
 unfold putRowK
 rw [flatK_list encI_ok, flat_I]
 unfold putRow
 congr 1
 funext c
 unfold putCells
 congr 1
 funext k x
 simp only [List.size_toArray, List.length_map, id]
 split
 ·rename_i h
  have hk : k - o < l.length := by omega
  simp [hk]
 ·rfl
theorem holds_I {w : World} {b o : Nat} {l : List Int} (h : HoldsK encI 1 w b o l.toArray) : Go.Sort.Holds (Value.int .i64) w b o l.toArray := by
 unfold HoldsK at h
 rw [flatK_list encI_ok, flat_I] at h
 intro j hj
 have := h j (by simpa using hj)
 have hj' : j < l.length := by simpa using hj
 simpa [hj'] using this
theorem sort_ownM {P : Program} {ρ : Ren} {T : TypeId} (L : SlLaysM.n5 P ρ) {w : World} {fp : List Nat} {A : Option Addr} {cap : Nat} {l : List Int} (F : Ow 1 encI T w fp A cap l) (hlen : l.length < 4611686018427387904) :
  Calls P (ρ.f 5) #[.slice A l.length cap] w fun e w' => e = .returned (.tuple #[]) ∧ Ow 1 encI T w' fp A cap (sortI l) ∧ (sortI l).length = l.length ∧ Chg (fp ++ []) w w' := by
 rcases F.is with ⟨rfl, rfl, rfl, rfl⟩ | ⟨g0, cs, rfl, rfl, hC, hcs, hlc, hm, ht⟩
 ·refine (AnyM.slices_Sort_int_none L none 0 w).mono ?_
  rintro e w' ⟨rfl, rfl⟩
  exact ⟨rfl, by simpa [sortI] using F, by simp [sortI], Chg.refl _ _⟩
 ·have hH : HoldsK encI 1 w g0 0 l.toArray := Ow.holdsK (fp := [g0]) (cap := cap) encI_ok hC (by rw [hcs]; exact Nat.mul_le_mul_right 1 hlc) ht
  refine (AnyM.slices_Sort_int L g0 0 cap l w (holds_I hH) hC.lt (by simpa using hlen)).mono ?_
  rintro e w' ⟨rfl, n, os, rfl⟩
  have hl : (sortI l).length = l.length := List.length_mergeSort _
  obtain ⟨h1, h2⟩ := Ow.sorted (n := n) (os := os) encI_ok hC hcs hlc hm hl
  refine ⟨rfl, ?_, hl, ?_⟩
  ·rw [putRow_I]; exact h1
  ·rw [putRow_I, List.append_nil]; exact h2
end Go.Proofs.YtbfjekmefcpkmaaDoor

set_option linter.unusedSimpArgs false
namespace Go.Proofs.YtbfjekmefcpkmaaDoor
open Go.Shelf
def sortI6_ren : Go.Shelf.Ren := ⟨fun | 5 => 54 | 8 => 91 | 7 => 90 | 19 => 119 | 20 => 120 | 10 => 110 | 11 => 111 | 12 => 112 | 13 => 113 | 14 => 114 | 15 => 115 | 16 => 116 | 17 => 117 | 18 => 118 | 30 => 124 | 31 => 125 | 32 => 126 | 33 => 127 | 34 => 128 | 35 => 88 | 40 => 132 | n => n, fun | 23 => 24 | 25 => 2 | 3 => 3 | 32 => 110 | 22 => 24 | 0 => 0 | 44 => 129 | 46 => 97 | 4 => 4 | 36 => 137 | 35 => 136 | 41 => 126 | 5 => 5 | 9 => 9 | 53 => 147 | 57 => 151 | 63 => 157 | 64 => 158 | n => n, fun | n => n⟩
theorem sortI6 : Go.Proofs.SlLaysM.n5 Tryd.prog sortI6_ren := {
 mixed := by kernel_rfl
 f5 := ⟨Tryd.f54.name, by decide, Tryd.func54.trans (congrArg some (by kernel_rfl))⟩
 f7 := ⟨Tryd.f90.name, by decide, Tryd.func90.trans (congrArg some (by kernel_rfl))⟩
 f8 := Tryd.func91.trans (congrArg some (by kernel_rfl))
 f10 := ⟨Tryd.f110.name, by decide, Tryd.func110.trans (congrArg some (by kernel_rfl))⟩
 f11 := ⟨Tryd.f111.name, by decide, Tryd.func111.trans (congrArg some (by kernel_rfl))⟩
 f12 := ⟨Tryd.f112.name, by decide, Tryd.func112.trans (congrArg some (by kernel_rfl))⟩
 f13 := ⟨Tryd.f113.name, by decide, Tryd.func113.trans (congrArg some (by kernel_rfl))⟩
 f14 := ⟨Tryd.f114.name, by decide, Tryd.func114.trans (congrArg some (by kernel_rfl))⟩
 f15 := ⟨Tryd.f115.name, by decide, Tryd.func115.trans (congrArg some (by kernel_rfl))⟩
 f16 := ⟨Tryd.f116.name, by decide, Tryd.func116.trans (congrArg some (by kernel_rfl))⟩
 f17 := ⟨Tryd.f117.name, by decide, Tryd.func117.trans (congrArg some (by kernel_rfl))⟩
 f18 := ⟨Tryd.f118.name, by decide, Tryd.func118.trans (congrArg some (by kernel_rfl))⟩
 f19 := Tryd.func119.trans (congrArg some (by kernel_rfl))
 f20 := Tryd.func120.trans (congrArg some (by kernel_rfl))
 f30 := ⟨Tryd.f124.name, by decide, Tryd.func124.trans (congrArg some (by kernel_rfl))⟩
 f31 := Tryd.func125.trans (congrArg some (by kernel_rfl))
 f32 := Tryd.func126.trans (congrArg some (by kernel_rfl))
 f33 := ⟨Tryd.f127.name, by decide, Tryd.func127.trans (congrArg some (by kernel_rfl))⟩
 f34 := ⟨Tryd.f128.name, by decide, Tryd.func128.trans (congrArg some (by kernel_rfl))⟩
 f35 := ⟨Tryd.f88.name, by decide, Tryd.func88.trans (congrArg some (by kernel_rfl))⟩
 f40 := ⟨Tryd.f132.name, by decide, Tryd.func132.trans (congrArg some (by kernel_rfl))⟩
 t0 := Tryd.underlying0
 a0 := Tryd.isAgg0
 z0 := Tryd.sizeOf0
 v0 := Tryd.zeroValue0
 t3 := Tryd.underlying3
 a3 := Tryd.isAgg3
 z3 := Tryd.sizeOf3
 v3 := Tryd.zeroValue3
 t4 := Tryd.underlying4
 a4 := Tryd.isAgg4
 z4 := Tryd.sizeOf4
 v4 := Tryd.zeroValue4
 t5 := Tryd.underlying5
 a5 := Tryd.isAgg5
 z5 := Tryd.sizeOf5
 v5 := Tryd.zeroValue5
 t9 := Tryd.underlying9
 a9 := Tryd.isAgg9
 z9 := Tryd.sizeOf9
 v9 := Tryd.zeroValue9
 t22 := Tryd.underlying24
 a22 := Tryd.isAgg24
 z22 := Tryd.sizeOf24
 v22 := Tryd.zeroValue24
 t23 := Tryd.underlying24
 a23 := Tryd.isAgg24
 z23 := Tryd.sizeOf24
 v23 := Tryd.zeroValue24
 t25 := Tryd.underlying2
 a25 := Tryd.isAgg2
 z25 := Tryd.sizeOf2
 v25 := Tryd.zeroValue2
 t32 := Tryd.underlying110
 a32 := Tryd.isAgg110
 z32 := Tryd.sizeOf110
 v32 := Tryd.zeroValue110
 t35 := Tryd.underlying136
 a35 := Tryd.isAgg136
 z35 := Tryd.sizeOf136
 v35 := Tryd.zeroValue136
 t36 := Tryd.underlying137
 a36 := Tryd.isAgg137
 z36 := Tryd.sizeOf137
 v36 := Tryd.zeroValue137
 t41 := Tryd.underlying126
 a41 := Tryd.isAgg126
 z41 := Tryd.sizeOf126
 v41 := Tryd.zeroValue126
 t44 := Tryd.underlying129
 a44 := Tryd.isAgg129
 z44 := Tryd.sizeOf129
 v44 := Tryd.zeroValue129
 t46 := Tryd.underlying97
 a46 := Tryd.isAgg97
 z46 := Tryd.sizeOf97
 v46 := Tryd.zeroValue97
 t53 := Tryd.underlying147
 a53 := Tryd.isAgg147
 z53 := Tryd.sizeOf147
 v53 := Tryd.zeroValue147
 t57 := Tryd.underlying151
 a57 := Tryd.isAgg151
 z57 := Tryd.sizeOf151
 v57 := Tryd.zeroValue151
 t63 := Tryd.underlying157
 a63 := Tryd.isAgg157
 z63 := Tryd.sizeOf157
 v63 := Tryd.zeroValue157
 t64 := Tryd.underlying158
 a64 := Tryd.isAgg158
 z64 := Tryd.sizeOf158
 v64 := Tryd.zeroValue158 }
end Go.Proofs.YtbfjekmefcpkmaaDoor

set_option linter.unusedSimpArgs false
set_option linter.unusedVariables false
namespace Go.Proofs.YtbfjekmefcpkmaaDoor
open Go.RowKit Go.Sort Go.Shelf
theorem c_sSort {w0 : World} {l0 : List Int} {A0 : Option Addr} {cap0 : Nat} {fp0 : List Nat} {r : List Int} (hm : m_sSort l0 = some r) (F0 : Ow 1 encI 2 w0 fp0 A0 cap0 l0) :
  Calls Tryd.prog 54 #[.slice A0 (l0).length cap0] w0 fun e w' => e = .returned (.tuple #[]) ∧ Ow 1 encI 2 w' fp0 A0 cap0 r ∧ (r).length = (l0).length ∧ Chg (fp0 ++ []) w0 w' := by
 unfold m_sSort at hm
 obtain ⟨_, hk, hm⟩ := bindE hm
 replace hk := apE hk
 replace hm := someE hm
 subst hm
 exact sort_ownM (ρ := sortI6_ren) sortI6 F0 (by unfold lim at hk; simp at hk; omega)
end Go.Proofs.YtbfjekmefcpkmaaDoor
