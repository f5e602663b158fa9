/- The lowest bit: the contract that the walks use. -/
import Derived.Test.YtbfjekmefcpkmaaDoorCtz
import Derived.Test.YtbfjekmefcpkmaaDoorProg
set_option linter.unusedSimpArgs false
set_option linter.unusedVariables false
namespace Go.Proofs.YtbfjekmefcpkmaaDoor
open Go.Shelf
def ctzL_ren : Go.Shelf.Ren := ⟨fun | 29 => 105 | n => n, fun | 22 => 97 | 3 => 3 | 4 => 4 | 25 => 110 | 54 => 144 | 0 => 0 | 5 => 5 | n => n, fun | 1 => 1 | n => n⟩
theorem ctzL : Go.Proofs.Lays7.n29 Tryd.prog ctzL_ren := {
 mixed := by kernel_rfl
 f29 := Tryd.func105.trans (congrArg some (by kernel_rfl))
 t0 := Tryd.underlying0
 a0 := Tryd.isAgg0
 z0 := Tryd.sizeOf0
 v0 := Tryd.zeroValue0
 i0 := by kernel_rfl
 t3 := Tryd.underlying3
 a3 := Tryd.isAgg3
 z3 := Tryd.sizeOf3
 v3 := Tryd.zeroValue3
 i3 := by kernel_rfl
 t4 := Tryd.underlying4
 a4 := Tryd.isAgg4
 z4 := Tryd.sizeOf4
 v4 := Tryd.zeroValue4
 i4 := by kernel_rfl
 t5 := Tryd.underlying5
 a5 := Tryd.isAgg5
 z5 := Tryd.sizeOf5
 v5 := Tryd.zeroValue5
 i5 := by kernel_rfl
 t22 := Tryd.underlying97
 a22 := Tryd.isAgg97
 z22 := Tryd.sizeOf97
 v22 := Tryd.zeroValue97
 i22 := by kernel_rfl
 t25 := Tryd.underlying110
 a25 := Tryd.isAgg110
 z25 := Tryd.sizeOf110
 v25 := Tryd.zeroValue110
 i25 := by kernel_rfl
 t54 := Tryd.underlying144
 a54 := Tryd.isAgg144
 z54 := Tryd.sizeOf144
 g1 := by kernel_rfl }
open Go.RowKit in
theorem c_mTrail1 {w0 : World} {p0 : Int} {r : Int} (hm : m_mTrail1 p0 = some r) (FG : Sl 1 encU w0 [1] (some ⟨1, 0, none⟩) tab64) :
  Calls Tryd.prog 105 #[.int .u64 (p0)] w0 fun e w' => e = .returned (.int .i64 (r)) ∧ Chg [] w0 w' := by
 unfold m_mTrail1 at hm
 split at hm
 ·rename_i h
  obtain ⟨h0, h1⟩ := h
  cases hm
  obtain ⟨n, rfl⟩ := Int.eq_ofNat_of_zero_le h0
  have hlen : tab64.length = Lib.deBruijn64tab.length := by unfold tab64; simp
  refine (Any7.bits_TrailingZeros64 ctzL n (by omega) w0 (fun _ j hj => ?_)).mono ?_
  ·obtain ⟨ad, hA, _, hc⟩ := FG.cells (by rw [hlen]; omega)
   cases hA
   have hx : tab64[j]? = some ((Lib.deBruijn64tab.getD j 0 : Nat) : Int) := by
    unfold tab64
    rw [List.getElem?_map, List.getD, List.getElem?_eq_getElem hj]; rfl
   have := hc j _ hx 0 _ rfl
   have e : ((⟨1, 0, none⟩ : Addr).add (j * 1)).add 0 = ⟨1, j, none⟩ := by
    by_cases h0 : j = 0
    ·subst h0; simp [Addr.add]
    ·simp [Addr.add, h0]
   rw [e] at this
   exact this
  ·rintro e w' ⟨rfl, rfl⟩
   exact ⟨rfl, Chg.refl _ _⟩
 ·cases hm
end Go.Proofs.YtbfjekmefcpkmaaDoor
