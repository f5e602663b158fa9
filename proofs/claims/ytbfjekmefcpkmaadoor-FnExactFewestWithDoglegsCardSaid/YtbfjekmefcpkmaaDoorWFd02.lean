/- Printed walks: math/bits.TrailingZeros, (impl.order).best, (*impl.Channel).columns, (*impl.Channel).nets, spec.l03Span, spec.l03Nets, spec.l00In, spec.l03Is, laws.szInt64S, laws.szChannel, spec.l03Less, spec.l03Fits. -/
import Derived.Test.YtbfjekmefcpkmaaDoorProg
import Derived.Test.YtbfjekmefcpkmaaDoorWFd01
set_option linter.unusedSimpArgs false
set_option linter.unusedVariables false
namespace Go.Proofs.YtbfjekmefcpkmaaDoor
open Go.RowKit
attribute [local irreducible] wS cW eX wH

theorem ent63 : Ent Tryd.prog 63 := fun _ => by kernel_rfl
theorem ent73 : Ent Tryd.prog 73 := fun _ => by kernel_rfl
theorem ent81 : Ent Tryd.prog 81 := fun _ => by kernel_rfl
theorem ent92 : Ent Tryd.prog 92 := fun _ => by kernel_rfl
theorem ent94 : Ent Tryd.prog 94 := fun _ => by kernel_rfl
theorem ent105 : Ent Tryd.prog 105 := fun _ => by kernel_rfl
theorem vt4 : VarTy Tryd.prog 4 1 false := ⟨by kernel_rfl, by kernel_rfl⟩
theorem vt92 : VarTy Tryd.prog 92 1 false := ⟨by kernel_rfl, by kernel_rfl⟩
theorem vt120 : VarTy Tryd.prog 120 1 false := ⟨by kernel_rfl, by kernel_rfl⟩
theorem sl92 : SlTy Tryd.prog 92 120 1 := ⟨Tryd.underlying92, by kernel_rfl⟩
theorem sl120 : SlTy Tryd.prog 120 4 1 := ⟨Tryd.underlying120, by kernel_rfl⟩
theorem el54 : ElTy Tryd.prog 54 56 1 (.slice none 0 0) := ElTy.mk' Tryd.underlying54 (by kernel_rfl) (by rfl)
theorem sz2 : pureRun Tryd.prog (sizeOf 2) = some 1 := by kernel_rfl
theorem sz105 : pureRun Tryd.prog (sizeOf 105) = some 1 := by kernel_rfl

set_option maxRecDepth 100000 in
/-- bits.TrailingZeros -/
theorem c_math_bits_TrailingZeros {w0 : World} {p0 : Int} {r : (Int)} (hm : m_math_bits_TrailingZeros p0 = some r) (FG : Sl 1 encU w0 [1] (some ⟨1, 0, none⟩) tab64) :
  Calls Tryd.prog 81 #[.int .u64 (p0)] w0 fun e w' => e = .returned (.int .i64 (r)) ∧ Chg [] w0 w' := by
 have Lg := FG.low
 have hB : Chg [] w0 w0 := Chg.refl _ _
 have hZ := Nat.le_refl w0.heap.size
 unfold m_math_bits_TrailingZeros at hm
 refine enterE (N := 8) Tryd.func81 (by rfl) Tryd.ntmps81 (by simp) [(0, .int .u64 (p0))] (by rfl) (by kernel_rfl) (fun a => ?_)
 refine cW_seq ?_
 refine cW_region ?_
 refine wS_pure 1 [(2, .int .i64 (0))] (by kernel_rfl) ?_
 refine wS_end (by rfl) ?_
 refine eX_then ?_
 refine cW_seq ?_
 refine cW_cond_f (by kernel_rfl) ?_
 refine cW_skip ?_
 refine eX_then ?_
 refine cW_seq ?_
 refine cW_region ?_
 refine wS_pure 1 [(6, .int .u64 (p0))] (by kernel_rfl) ?_
 obtain ⟨y1, hy1, hm⟩ := bindE hm
 refine wS_calls (d := 7) (f := 105) (vs := [.int .u64 (p0)]) (by kernel_rfl) ent105 (c_math_bits_TrailingZeros64 hy1 FG) ?_
 rintro _ w1 ⟨rfl, hc1⟩
 replace FG := FG.chg hc1 Dj.nil
 replace hB := hB.inS hc1 inNil
 replace hZ := Nat.le_trans hZ hc1.size
 refine ⟨.int .i64 (y1), rfl, ?_⟩
 refine wS_pure 1 [(2, .int .i64 (y1))] (by kernel_rfl) ?_
 refine wS_end (by rfl) ?_
 refine eX_then ?_
 refine cW_ret ?_
 have hq : (some y1 : Option ((Int))) = some _ := hm
 replace hq := someE hq
 subst hq
 refine eX_ret (vs := [.int .i64 (y1)]) [.tmp 2] (by rfl) ⟨by (show lkE _ _ _ = _); kernel_rfl, trivial⟩ ?_
 exact ⟨rfl, hB⟩

set_option maxRecDepth 100000 in
/-- impl.order).best -/
theorem c_impl_order_best {w0 : World} {l0_0 : List (Int)} {A0_0 : Option Addr} {cap0_0 : Nat} {fp0_0 : List Nat} {l0_1 : List (Int)} {A0_1 : Option Addr} {cap0_1 : Nat} {fp0_1 : List Nat} {r : (List (List (Int))) × (Bool)} (hm : m_impl_order_best l0_0 l0_1 = some r) (F0_0 : Sl 1 encI w0 fp0_0 A0_0 l0_0) (F0_1 : Sl 1 encI w0 fp0_1 A0_1 l0_1) (FG : Sl 1 encU w0 [1] (some ⟨1, 0, none⟩) tab64) :
  Calls Tryd.prog 38 #[.agg #[.slice A0_0 (l0_0).length cap0_0, .slice A0_1 (l0_1).length cap0_1]] w0 fun e w' => ∃ A100 cap100 fp100 fr100, e = .returned (.tuple #[.slice A100 (r.1).length cap100, .bool (r.2)]) ∧ OwR 1 encI 56 3 w' fp100 fr100 A100 cap100 r.1 ∧ (∀ x ∈ fp100 ++ fr100, w0.heap.size ≤ x) ∧ Chg [] w0 w' := by
 have L0_0 := F0_0.low
 have L0_1 := F0_1.low
 have Lg := FG.low
 have hB : Chg [] w0 w0 := Chg.refl _ _
 have hZ := Nat.le_refl w0.heap.size
 unfold m_impl_order_best at hm
 refine enterE (N := 59) Tryd.func38 (by rfl) Tryd.ntmps38 (by simp) [(0, .agg #[.slice A0_0 (l0_0).length cap0_0, .slice A0_1 (l0_1).length cap0_1])] (by rfl) (by kernel_rfl) (fun a => ?_)
 refine cW_seq ?_
 refine cW_region ?_
 refine wS_box (d := 1) (T := 58) (x := .agg #[.slice A0_0 (l0_0).length cap0_0, .slice A0_1 (l0_1).length cap0_1]) (by kernel_rfl) ?_
 intro b1 w1 G1 F1 hc1
 replace F1 : Cl w1 b1 58 [.slice A0_0 (l0_0).length cap0_0, .slice A0_1 (l0_1).length cap0_1] := F1
 replace F0_0 := F0_0.chg hc1 Dj.nil
 replace F0_1 := F0_1.chg hc1 Dj.nil
 replace FG := FG.chg hc1 Dj.nil
 replace hB := hB.inS hc1 inNil
 replace G1 := Nat.le_trans hZ G1
 replace hZ := Nat.le_trans hZ hc1.size
 refine wS_pure 2 [(3, .bool (false)), (2, .slice none 0 0)] (by kernel_rfl) ?_
 refine wS_end (by rfl) ?_
 refine eX_then ?_
 refine cW_seq ?_
 obtain ⟨s1, hs1, hm⟩ := bindE hm
 refine cW_cut (fun a' w' => ∃ b2 : Nat, ∃ l1 : List (Int × Int), ∃ b3 : Nat, ∃ b4 : Nat, ∃ x1 : Int, (l1, x1) = s1 ∧ Fr 59 [(1, .pointer (some ⟨b1, 0, none⟩)), (4, .pointer (some ⟨b2, 0, none⟩)), (5, .pointer (some ⟨b4, 0, none⟩))] a' ∧ Sl 1 encI w' fp0_0 A0_0 l0_0 ∧ Sl 1 encI w' fp0_1 A0_1 l0_1 ∧ Sl 1 encU w' [1] (some ⟨1, 0, none⟩) tab64 ∧ Cl w' b1 58 [.slice A0_0 (l0_0).length cap0_0, .slice A0_1 (l0_1).length cap0_1] ∧ Cl w' b2 105 [.map (some b3)] ∧ Mp okI kI kI w' b3 l1 ∧ Cl w' b4 3 [.int .i64 (x1)] ∧ w0.heap.size ≤ b2 ∧ (∀ x ∈ [b3], w0.heap.size ≤ x) ∧ w0.heap.size ≤ b4 ∧ Dj [b1] [b2] ∧ Dj [b3] [b2] ∧ Dj [b4] [b2] ∧ Dj [b1] [b3] ∧ Dj [b4] [b3] ∧ Dj [b1] [b4] ∧ Chg [] w0 w' ∧ w0.heap.size ≤ w'.heap.size) ?_ ?_
 ·have hm := hs1
  refine cW_drawnTail [] 9 (by kernel_rfl) (by kernel_rfl) (fun w2 hc2 => ?_)
  replace F0_0 := F0_0.chg hc2 Dj.nil
  replace F0_1 := F0_1.chg hc2 Dj.nil
  replace FG := FG.chg hc2 Dj.nil
  replace F1 := F1.chg hc2 notNil
  replace hB := hB.inS hc2 inNil
  replace hZ := Nat.le_trans hZ hc2.size
  have hS := Chg.refl [] w2
  have Z1 := F0_0
  have Z2 := F0_1
  have Z3 := FG
  have Z4 := F1
  refine wH_take [1] [1] [(12, .pointer (some ⟨b1, 0, none⟩))] (by kernel_rfl) (qT (qT (qT qZ))) (by kernel_rfl) ?_
  refine wH_load1 (i := 2) (d := 13) (T := 56) (ad := ⟨b1, 0, none⟩) (v := .slice A0_0 (l0_0).length cap0_0) (by kernel_rfl) (qT (qT (qT qZ))) (by kernel_rfl) (by kernel_rfl) vt56 (fun W hW => (Z4.chg hW notNil).cell 0) ?_
  refine wH_take [3] [3, 2, 1] [(14, .int .i64 (((l0_0).length : Int)))] (by kernel_rfl) (qT (qT (qT qZ))) (by kernel_rfl) ?_
  obtain ⟨u1, hu1, hm⟩ := bindE hm
  refine wH_shl (i := 4) (d := 15) (x := 1) (y := ((l0_0).length : Int)) (yk := .i64) (by kernel_rfl) (qT (qT (qT qZ))) (by kernel_rfl) (by kernel_rfl) (p0E hu1) ?_
  refine wH_take [5] [5, 4, 3, 2, 1] [(16, .int .i64 (wr ((shlI 1 (((l0_0).length : Int))) - 1)))] (by kernel_rfl) (qT (qT (qT qZ))) (by kernel_rfl) ?_
  refine wH_all [0, 6, 7] (by rfl) (by kernel_rfl) (by simp) ⟨⟨by kernel_rfl, ?_⟩, ⟨by kernel_rfl, ?_⟩, ⟨by kernel_rfl, ?_⟩, trivial⟩
  ·skip
   refine wS_makeMap (V := Int) (d := 11) (T := 105) (by kernel_rfl) okI kI kI ?_
   intro b5 w3 G2 F2 hc3
   have D1 : Dj [b1] [b5] := Dj.of (lt1 F1.lt) (low1 G2)
   replace F0_0 := F0_0.chg hc3 Dj.nil
   replace F0_1 := F0_1.chg hc3 Dj.nil
   replace FG := FG.chg hc3 Dj.nil
   replace F1 := F1.chg hc3 notNil
   replace hB := hB.inS hc3 inNil
   have hSz := hS
   replace hS := hS.inS hc3 inNil
   have Gz1 := low1 (Nat.le_trans hSz.size G2)
   replace G2 := Nat.le_trans hZ G2
   replace G2 := low1 G2
   replace hZ := Nat.le_trans hZ hc3.size
   refine wS_end (by kernel_rfl) ?_
   refine eX_KH hS ?_
   refine wH_all [6, 7] (by rfl) (by kernel_rfl) (by simp) ⟨⟨by kernel_rfl, ?_⟩, ⟨by kernel_rfl, ?_⟩, trivial⟩
   ·skip
    refine wS_alloc (d := 4) (T := 105) (z := .map none) (by kernel_rfl) (by kernel_rfl) ?_
    intro b6 w4 G3 F3 hc4
    replace F3 : Cl w4 b6 105 [.map none] := F3
    have D2 : Dj [b1] [b6] := Dj.of (lt1 F1.lt) (low1 G3)
    have D3 : Dj [b5] [b6] := Dj.of F2.low (low1 G3)
    replace F0_0 := F0_0.chg hc4 Dj.nil
    replace F0_1 := F0_1.chg hc4 Dj.nil
    replace FG := FG.chg hc4 Dj.nil
    replace F1 := F1.chg hc4 notNil
    replace F2 := F2.chg hc4 Dj.nil
    replace hB := hB.inS hc4 inNil
    have hSz := hS
    replace hS := hS.inS hc4 inNil
    have Gz2 := low1 (Nat.le_trans hSz.size G3)
    replace G3 := Nat.le_trans hZ G3
    replace hZ := Nat.le_trans hZ hc4.size
    refine wS_end (by kernel_rfl) ?_
    refine eX_KH hS ?_
    refine wH_all [7] (by rfl) (by kernel_rfl) (by simp) ⟨⟨by kernel_rfl, ?_⟩, trivial⟩
    refine wS_alloc (d := 5) (T := 3) (z := .int .i64 (0)) (by kernel_rfl) (by kernel_rfl) ?_
    intro b7 w5 G4 F4 hc5
    replace F4 : Cl w5 b7 3 [.int .i64 (0)] := F4
    have D4 : Dj [b1] [b7] := Dj.of (lt1 F1.lt) (low1 G4)
    have D5 : Dj [b5] [b7] := Dj.of F2.low (low1 G4)
    have D6 : Dj [b6] [b7] := Dj.of (lt1 F3.lt) (low1 G4)
    replace F0_0 := F0_0.chg hc5 Dj.nil
    replace F0_1 := F0_1.chg hc5 Dj.nil
    replace FG := FG.chg hc5 Dj.nil
    replace F1 := F1.chg hc5 notNil
    replace F2 := F2.chg hc5 Dj.nil
    replace F3 := F3.chg hc5 notNil
    replace hB := hB.inS hc5 inNil
    have hSz := hS
    replace hS := hS.inS hc5 inNil
    have Gz3 := low1 (Nat.le_trans hSz.size G4)
    replace G4 := Nat.le_trans hZ G4
    replace hZ := Nat.le_trans hZ hc5.size
    refine wS_end (by kernel_rfl) ?_
    refine eX_KH hS ?_
    refine wH_all [8] (by rfl) (by kernel_rfl) (by simp) ⟨⟨by kernel_rfl, ?_⟩, trivial⟩
    refine wS_store (T := 105) (g := b6) (o := 0) (ad := ⟨b6, 0, none⟩) (v := .map (some b5)) (vs := [.map (some b5)]) (by kernel_rfl) (by rfl) sz105 (by rfl) (by rfl) F3 (by simp only [List.length_cons, List.length_nil]; omega) ?_
    intro w6 F5 hc6
    replace F0_0 := F0_0.chg hc6 (Dj.of L0_0 (low1 G3))
    replace F0_1 := F0_1.chg hc6 (Dj.of L0_1 (low1 G3))
    replace FG := FG.chg hc6 (Dj.of Lg (low1 G3))
    replace F1 := F1.chg hc6 (dj1 D2)
    replace F2 := F2.chg hc6 D3
    replace F4 := F4.chg hc6 (dj1 (D6).symm)
    replace hB := hB.inS hc6 (inLow (low1 G3))
    have hSz := hS
    replace hS := hS.inS hc6 (inLow Gz2)
    replace hZ := Nat.le_trans hZ hc6.size
    replace F5 : Cl w6 b6 105 [.map (some b5)] := F5
    clear F3
    refine wS_end (by kernel_rfl) ?_
    refine eX_KH hS ?_
    refine wH_done (by kernel_rfl) ?_
    refine eX_tail ?_
    refine wS_store (T := 3) (g := b7) (o := 0) (ad := ⟨b7, 0, none⟩) (v := .int .i64 (wr ((shlI 1 (((l0_0).length : Int))) - 1))) (vs := [.int .i64 (wr ((shlI 1 (((l0_0).length : Int))) - 1))]) (by kernel_rfl) (by rfl) sz3 (by rfl) (by rfl) F4 (by simp only [List.length_cons, List.length_nil]; omega) ?_
    intro w7 F6 hc7
    replace F0_0 := F0_0.chg hc7 (Dj.of L0_0 (low1 G4))
    replace F0_1 := F0_1.chg hc7 (Dj.of L0_1 (low1 G4))
    replace FG := FG.chg hc7 (Dj.of Lg (low1 G4))
    replace F1 := F1.chg hc7 (dj1 D4)
    replace F2 := F2.chg hc7 D5
    replace F5 := F5.chg hc7 (dj1 D6)
    replace hB := hB.inS hc7 (inLow (low1 G4))
    replace hZ := Nat.le_trans hZ hc7.size
    replace F6 : Cl w7 b7 3 [.int .i64 (wr ((shlI 1 (((l0_0).length : Int))) - 1))] := F6
    clear F4
    refine wS_end (by rfl) ?_
    have hq : (some ((([] : List (Int × Int)), wr ((shlI 1 (((l0_0).length : Int))) - 1))) : Option ((List (Int × Int)) × Int)) = some _ := hm
    replace hq := someE hq
    subst hq
    exact eX_J (fun hst => ⟨b6, ([] : List (Int × Int)), b5, b7, wr ((shlI 1 (((l0_0).length : Int))) - 1), rfl, Fr.of hst (by kernel_rfl), F0_0, F0_1, FG, F1, F5, F2, F6, G3, G2, G4, D2, D3, (D6).symm, D1, (D5).symm, D4, hB, hZ⟩)
   ·skip
    refine wS_alloc (d := 5) (T := 3) (z := .int .i64 (0)) (by kernel_rfl) (by kernel_rfl) ?_
    intro b8 w8 G5 F7 hc8
    replace F7 : Cl w8 b8 3 [.int .i64 (0)] := F7
    have D7 : Dj [b1] [b8] := Dj.of (lt1 F1.lt) (low1 G5)
    have D8 : Dj [b5] [b8] := Dj.of F2.low (low1 G5)
    replace F0_0 := F0_0.chg hc8 Dj.nil
    replace F0_1 := F0_1.chg hc8 Dj.nil
    replace FG := FG.chg hc8 Dj.nil
    replace F1 := F1.chg hc8 notNil
    replace F2 := F2.chg hc8 Dj.nil
    replace hB := hB.inS hc8 inNil
    have hSz := hS
    replace hS := hS.inS hc8 inNil
    have Gz4 := low1 (Nat.le_trans hSz.size G5)
    replace G5 := Nat.le_trans hZ G5
    replace hZ := Nat.le_trans hZ hc8.size
    refine wS_end (by kernel_rfl) ?_
    refine eX_KH hS ?_
    refine wH_all [6] (by rfl) (by kernel_rfl) (by simp) ⟨⟨by kernel_rfl, ?_⟩, trivial⟩
    refine wS_alloc (d := 4) (T := 105) (z := .map none) (by kernel_rfl) (by kernel_rfl) ?_
    intro b9 w9 G6 F8 hc9
    replace F8 : Cl w9 b9 105 [.map none] := F8
    have D9 : Dj [b1] [b9] := Dj.of (lt1 F1.lt) (low1 G6)
    have D10 : Dj [b5] [b9] := Dj.of F2.low (low1 G6)
    have D11 : Dj [b8] [b9] := Dj.of (lt1 F7.lt) (low1 G6)
    replace F0_0 := F0_0.chg hc9 Dj.nil
    replace F0_1 := F0_1.chg hc9 Dj.nil
    replace FG := FG.chg hc9 Dj.nil
    replace F1 := F1.chg hc9 notNil
    replace F2 := F2.chg hc9 Dj.nil
    replace F7 := F7.chg hc9 notNil
    replace hB := hB.inS hc9 inNil
    have hSz := hS
    replace hS := hS.inS hc9 inNil
    have Gz5 := low1 (Nat.le_trans hSz.size G6)
    replace G6 := Nat.le_trans hZ G6
    replace hZ := Nat.le_trans hZ hc9.size
    refine wS_end (by kernel_rfl) ?_
    refine eX_KH hS ?_
    refine wH_all [8] (by rfl) (by kernel_rfl) (by simp) ⟨⟨by kernel_rfl, ?_⟩, trivial⟩
    refine wS_store (T := 105) (g := b9) (o := 0) (ad := ⟨b9, 0, none⟩) (v := .map (some b5)) (vs := [.map (some b5)]) (by kernel_rfl) (by rfl) sz105 (by rfl) (by rfl) F8 (by simp only [List.length_cons, List.length_nil]; omega) ?_
    intro w10 F9 hc10
    replace F0_0 := F0_0.chg hc10 (Dj.of L0_0 (low1 G6))
    replace F0_1 := F0_1.chg hc10 (Dj.of L0_1 (low1 G6))
    replace FG := FG.chg hc10 (Dj.of Lg (low1 G6))
    replace F1 := F1.chg hc10 (dj1 D9)
    replace F2 := F2.chg hc10 D10
    replace F7 := F7.chg hc10 (dj1 D11)
    replace hB := hB.inS hc10 (inLow (low1 G6))
    have hSz := hS
    replace hS := hS.inS hc10 (inLow Gz5)
    replace hZ := Nat.le_trans hZ hc10.size
    replace F9 : Cl w10 b9 105 [.map (some b5)] := F9
    clear F8
    refine wS_end (by kernel_rfl) ?_
    refine eX_KH hS ?_
    refine wH_done (by kernel_rfl) ?_
    refine eX_tail ?_
    refine wS_store (T := 3) (g := b8) (o := 0) (ad := ⟨b8, 0, none⟩) (v := .int .i64 (wr ((shlI 1 (((l0_0).length : Int))) - 1))) (vs := [.int .i64 (wr ((shlI 1 (((l0_0).length : Int))) - 1))]) (by kernel_rfl) (by rfl) sz3 (by rfl) (by rfl) F7 (by simp only [List.length_cons, List.length_nil]; omega) ?_
    intro w11 F10 hc11
    replace F0_0 := F0_0.chg hc11 (Dj.of L0_0 (low1 G5))
    replace F0_1 := F0_1.chg hc11 (Dj.of L0_1 (low1 G5))
    replace FG := FG.chg hc11 (Dj.of Lg (low1 G5))
    replace F1 := F1.chg hc11 (dj1 D7)
    replace F2 := F2.chg hc11 D8
    replace F9 := F9.chg hc11 (dj1 (D11).symm)
    replace hB := hB.inS hc11 (inLow (low1 G5))
    replace hZ := Nat.le_trans hZ hc11.size
    replace F10 : Cl w11 b8 3 [.int .i64 (wr ((shlI 1 (((l0_0).length : Int))) - 1))] := F10
    clear F7
    refine wS_end (by rfl) ?_
    have hq : (some ((([] : List (Int × Int)), wr ((shlI 1 (((l0_0).length : Int))) - 1))) : Option ((List (Int × Int)) × Int)) = some _ := hm
    replace hq := someE hq
    subst hq
    exact eX_J (fun hst => ⟨b9, ([] : List (Int × Int)), b5, b8, wr ((shlI 1 (((l0_0).length : Int))) - 1), rfl, Fr.of hst (by kernel_rfl), F0_0, F0_1, FG, F1, F9, F2, F10, G6, G2, G5, D9, D10, D11, D1, (D8).symm, D7, hB, hZ⟩)
  ·skip
   refine wS_alloc (d := 4) (T := 105) (z := .map none) (by kernel_rfl) (by kernel_rfl) ?_
   intro b10 w12 G7 F11 hc12
   replace F11 : Cl w12 b10 105 [.map none] := F11
   have D12 : Dj [b1] [b10] := Dj.of (lt1 F1.lt) (low1 G7)
   replace F0_0 := F0_0.chg hc12 Dj.nil
   replace F0_1 := F0_1.chg hc12 Dj.nil
   replace FG := FG.chg hc12 Dj.nil
   replace F1 := F1.chg hc12 notNil
   replace hB := hB.inS hc12 inNil
   have hSz := hS
   replace hS := hS.inS hc12 inNil
   have Gz6 := low1 (Nat.le_trans hSz.size G7)
   replace G7 := Nat.le_trans hZ G7
   replace hZ := Nat.le_trans hZ hc12.size
   refine wS_end (by kernel_rfl) ?_
   refine eX_KH hS ?_
   refine wH_all [0, 7] (by rfl) (by kernel_rfl) (by simp) ⟨⟨by kernel_rfl, ?_⟩, ⟨by kernel_rfl, ?_⟩, trivial⟩
   ·skip
    refine wS_makeMap (V := Int) (d := 11) (T := 105) (by kernel_rfl) okI kI kI ?_
    intro b11 w13 G8 F12 hc13
    have D13 : Dj [b1] [b11] := Dj.of (lt1 F1.lt) (low1 G8)
    have D14 : Dj [b10] [b11] := Dj.of (lt1 F11.lt) (low1 G8)
    replace F0_0 := F0_0.chg hc13 Dj.nil
    replace F0_1 := F0_1.chg hc13 Dj.nil
    replace FG := FG.chg hc13 Dj.nil
    replace F1 := F1.chg hc13 notNil
    replace F11 := F11.chg hc13 notNil
    replace hB := hB.inS hc13 inNil
    have hSz := hS
    replace hS := hS.inS hc13 inNil
    have Gz7 := low1 (Nat.le_trans hSz.size G8)
    replace G8 := Nat.le_trans hZ G8
    replace G8 := low1 G8
    replace hZ := Nat.le_trans hZ hc13.size
    refine wS_end (by kernel_rfl) ?_
    refine eX_KH hS ?_
    refine wH_all [7] (by rfl) (by kernel_rfl) (by simp) ⟨⟨by kernel_rfl, ?_⟩, trivial⟩
    refine wS_alloc (d := 5) (T := 3) (z := .int .i64 (0)) (by kernel_rfl) (by kernel_rfl) ?_
    intro b12 w14 G9 F13 hc14
    replace F13 : Cl w14 b12 3 [.int .i64 (0)] := F13
    have D15 : Dj [b1] [b12] := Dj.of (lt1 F1.lt) (low1 G9)
    have D16 : Dj [b10] [b12] := Dj.of (lt1 F11.lt) (low1 G9)
    have D17 : Dj [b11] [b12] := Dj.of F12.low (low1 G9)
    replace F0_0 := F0_0.chg hc14 Dj.nil
    replace F0_1 := F0_1.chg hc14 Dj.nil
    replace FG := FG.chg hc14 Dj.nil
    replace F1 := F1.chg hc14 notNil
    replace F11 := F11.chg hc14 notNil
    replace F12 := F12.chg hc14 Dj.nil
    replace hB := hB.inS hc14 inNil
    have hSz := hS
    replace hS := hS.inS hc14 inNil
    have Gz8 := low1 (Nat.le_trans hSz.size G9)
    replace G9 := Nat.le_trans hZ G9
    replace hZ := Nat.le_trans hZ hc14.size
    refine wS_end (by kernel_rfl) ?_
    refine eX_KH hS ?_
    refine wH_all [8] (by rfl) (by kernel_rfl) (by simp) ⟨⟨by kernel_rfl, ?_⟩, trivial⟩
    refine wS_store (T := 105) (g := b10) (o := 0) (ad := ⟨b10, 0, none⟩) (v := .map (some b11)) (vs := [.map (some b11)]) (by kernel_rfl) (by rfl) sz105 (by rfl) (by rfl) F11 (by simp only [List.length_cons, List.length_nil]; omega) ?_
    intro w15 F14 hc15
    replace F0_0 := F0_0.chg hc15 (Dj.of L0_0 (low1 G7))
    replace F0_1 := F0_1.chg hc15 (Dj.of L0_1 (low1 G7))
    replace FG := FG.chg hc15 (Dj.of Lg (low1 G7))
    replace F1 := F1.chg hc15 (dj1 D12)
    replace F12 := F12.chg hc15 (D14).symm
    replace F13 := F13.chg hc15 (dj1 (D16).symm)
    replace hB := hB.inS hc15 (inLow (low1 G7))
    have hSz := hS
    replace hS := hS.inS hc15 (inLow Gz6)
    replace hZ := Nat.le_trans hZ hc15.size
    replace F14 : Cl w15 b10 105 [.map (some b11)] := F14
    clear F11
    refine wS_end (by kernel_rfl) ?_
    refine eX_KH hS ?_
    refine wH_done (by kernel_rfl) ?_
    refine eX_tail ?_
    refine wS_store (T := 3) (g := b12) (o := 0) (ad := ⟨b12, 0, none⟩) (v := .int .i64 (wr ((shlI 1 (((l0_0).length : Int))) - 1))) (vs := [.int .i64 (wr ((shlI 1 (((l0_0).length : Int))) - 1))]) (by kernel_rfl) (by rfl) sz3 (by rfl) (by rfl) F13 (by simp only [List.length_cons, List.length_nil]; omega) ?_
    intro w16 F15 hc16
    replace F0_0 := F0_0.chg hc16 (Dj.of L0_0 (low1 G9))
    replace F0_1 := F0_1.chg hc16 (Dj.of L0_1 (low1 G9))
    replace FG := FG.chg hc16 (Dj.of Lg (low1 G9))
    replace F1 := F1.chg hc16 (dj1 D15)
    replace F14 := F14.chg hc16 (dj1 D16)
    replace F12 := F12.chg hc16 D17
    replace hB := hB.inS hc16 (inLow (low1 G9))
    replace hZ := Nat.le_trans hZ hc16.size
    replace F15 : Cl w16 b12 3 [.int .i64 (wr ((shlI 1 (((l0_0).length : Int))) - 1))] := F15
    clear F13
    refine wS_end (by rfl) ?_
    have hq : (some ((([] : List (Int × Int)), wr ((shlI 1 (((l0_0).length : Int))) - 1))) : Option ((List (Int × Int)) × Int)) = some _ := hm
    replace hq := someE hq
    subst hq
    exact eX_J (fun hst => ⟨b10, ([] : List (Int × Int)), b11, b12, wr ((shlI 1 (((l0_0).length : Int))) - 1), rfl, Fr.of hst (by kernel_rfl), F0_0, F0_1, FG, F1, F14, F12, F15, G7, G8, G9, D12, (D14).symm, (D16).symm, D13, (D17).symm, D15, hB, hZ⟩)
   ·skip
    refine wS_alloc (d := 5) (T := 3) (z := .int .i64 (0)) (by kernel_rfl) (by kernel_rfl) ?_
    intro b13 w17 G10 F16 hc17
    replace F16 : Cl w17 b13 3 [.int .i64 (0)] := F16
    have D18 : Dj [b1] [b13] := Dj.of (lt1 F1.lt) (low1 G10)
    have D19 : Dj [b10] [b13] := Dj.of (lt1 F11.lt) (low1 G10)
    replace F0_0 := F0_0.chg hc17 Dj.nil
    replace F0_1 := F0_1.chg hc17 Dj.nil
    replace FG := FG.chg hc17 Dj.nil
    replace F1 := F1.chg hc17 notNil
    replace F11 := F11.chg hc17 notNil
    replace hB := hB.inS hc17 inNil
    have hSz := hS
    replace hS := hS.inS hc17 inNil
    have Gz9 := low1 (Nat.le_trans hSz.size G10)
    replace G10 := Nat.le_trans hZ G10
    replace hZ := Nat.le_trans hZ hc17.size
    refine wS_end (by kernel_rfl) ?_
    refine eX_KH hS ?_
    refine wH_all [0] (by rfl) (by kernel_rfl) (by simp) ⟨⟨by kernel_rfl, ?_⟩, trivial⟩
    refine wS_makeMap (V := Int) (d := 11) (T := 105) (by kernel_rfl) okI kI kI ?_
    intro b14 w18 G11 F17 hc18
    have D20 : Dj [b1] [b14] := Dj.of (lt1 F1.lt) (low1 G11)
    have D21 : Dj [b10] [b14] := Dj.of (lt1 F11.lt) (low1 G11)
    have D22 : Dj [b13] [b14] := Dj.of (lt1 F16.lt) (low1 G11)
    replace F0_0 := F0_0.chg hc18 Dj.nil
    replace F0_1 := F0_1.chg hc18 Dj.nil
    replace FG := FG.chg hc18 Dj.nil
    replace F1 := F1.chg hc18 notNil
    replace F11 := F11.chg hc18 notNil
    replace F16 := F16.chg hc18 notNil
    replace hB := hB.inS hc18 inNil
    have hSz := hS
    replace hS := hS.inS hc18 inNil
    have Gz10 := low1 (Nat.le_trans hSz.size G11)
    replace G11 := Nat.le_trans hZ G11
    replace G11 := low1 G11
    replace hZ := Nat.le_trans hZ hc18.size
    refine wS_end (by kernel_rfl) ?_
    refine eX_KH hS ?_
    refine wH_all [8] (by rfl) (by kernel_rfl) (by simp) ⟨⟨by kernel_rfl, ?_⟩, trivial⟩
    refine wS_store (T := 105) (g := b10) (o := 0) (ad := ⟨b10, 0, none⟩) (v := .map (some b14)) (vs := [.map (some b14)]) (by kernel_rfl) (by rfl) sz105 (by rfl) (by rfl) F11 (by simp only [List.length_cons, List.length_nil]; omega) ?_
    intro w19 F18 hc19
    replace F0_0 := F0_0.chg hc19 (Dj.of L0_0 (low1 G7))
    replace F0_1 := F0_1.chg hc19 (Dj.of L0_1 (low1 G7))
    replace FG := FG.chg hc19 (Dj.of Lg (low1 G7))
    replace F1 := F1.chg hc19 (dj1 D12)
    replace F16 := F16.chg hc19 (dj1 (D19).symm)
    replace F17 := F17.chg hc19 (D21).symm
    replace hB := hB.inS hc19 (inLow (low1 G7))
    have hSz := hS
    replace hS := hS.inS hc19 (inLow Gz6)
    replace hZ := Nat.le_trans hZ hc19.size
    replace F18 : Cl w19 b10 105 [.map (some b14)] := F18
    clear F11
    refine wS_end (by kernel_rfl) ?_
    refine eX_KH hS ?_
    refine wH_done (by kernel_rfl) ?_
    refine eX_tail ?_
    refine wS_store (T := 3) (g := b13) (o := 0) (ad := ⟨b13, 0, none⟩) (v := .int .i64 (wr ((shlI 1 (((l0_0).length : Int))) - 1))) (vs := [.int .i64 (wr ((shlI 1 (((l0_0).length : Int))) - 1))]) (by kernel_rfl) (by rfl) sz3 (by rfl) (by rfl) F16 (by simp only [List.length_cons, List.length_nil]; omega) ?_
    intro w20 F19 hc20
    replace F0_0 := F0_0.chg hc20 (Dj.of L0_0 (low1 G10))
    replace F0_1 := F0_1.chg hc20 (Dj.of L0_1 (low1 G10))
    replace FG := FG.chg hc20 (Dj.of Lg (low1 G10))
    replace F1 := F1.chg hc20 (dj1 D18)
    replace F18 := F18.chg hc20 (dj1 D19)
    replace F17 := F17.chg hc20 (D22).symm
    replace hB := hB.inS hc20 (inLow (low1 G10))
    replace hZ := Nat.le_trans hZ hc20.size
    replace F19 : Cl w20 b13 3 [.int .i64 (wr ((shlI 1 (((l0_0).length : Int))) - 1))] := F19
    clear F16
    refine wS_end (by rfl) ?_
    have hq : (some ((([] : List (Int × Int)), wr ((shlI 1 (((l0_0).length : Int))) - 1))) : Option ((List (Int × Int)) × Int)) = some _ := hm
    replace hq := someE hq
    subst hq
    exact eX_J (fun hst => ⟨b10, ([] : List (Int × Int)), b14, b13, wr ((shlI 1 (((l0_0).length : Int))) - 1), rfl, Fr.of hst (by kernel_rfl), F0_0, F0_1, FG, F1, F18, F17, F19, G7, G11, G10, D12, (D21).symm, (D19).symm, D20, D22, D18, hB, hZ⟩)
  ·skip
   refine wS_alloc (d := 5) (T := 3) (z := .int .i64 (0)) (by kernel_rfl) (by kernel_rfl) ?_
   intro b15 w21 G12 F20 hc21
   replace F20 : Cl w21 b15 3 [.int .i64 (0)] := F20
   have D23 : Dj [b1] [b15] := Dj.of (lt1 F1.lt) (low1 G12)
   replace F0_0 := F0_0.chg hc21 Dj.nil
   replace F0_1 := F0_1.chg hc21 Dj.nil
   replace FG := FG.chg hc21 Dj.nil
   replace F1 := F1.chg hc21 notNil
   replace hB := hB.inS hc21 inNil
   have hSz := hS
   replace hS := hS.inS hc21 inNil
   have Gz11 := low1 (Nat.le_trans hSz.size G12)
   replace G12 := Nat.le_trans hZ G12
   replace hZ := Nat.le_trans hZ hc21.size
   refine wS_end (by kernel_rfl) ?_
   refine eX_KH hS ?_
   refine wH_all [0, 6] (by rfl) (by kernel_rfl) (by simp) ⟨⟨by kernel_rfl, ?_⟩, ⟨by kernel_rfl, ?_⟩, trivial⟩
   ·skip
    refine wS_makeMap (V := Int) (d := 11) (T := 105) (by kernel_rfl) okI kI kI ?_
    intro b16 w22 G13 F21 hc22
    have D24 : Dj [b1] [b16] := Dj.of (lt1 F1.lt) (low1 G13)
    have D25 : Dj [b15] [b16] := Dj.of (lt1 F20.lt) (low1 G13)
    replace F0_0 := F0_0.chg hc22 Dj.nil
    replace F0_1 := F0_1.chg hc22 Dj.nil
    replace FG := FG.chg hc22 Dj.nil
    replace F1 := F1.chg hc22 notNil
    replace F20 := F20.chg hc22 notNil
    replace hB := hB.inS hc22 inNil
    have hSz := hS
    replace hS := hS.inS hc22 inNil
    have Gz12 := low1 (Nat.le_trans hSz.size G13)
    replace G13 := Nat.le_trans hZ G13
    replace G13 := low1 G13
    replace hZ := Nat.le_trans hZ hc22.size
    refine wS_end (by kernel_rfl) ?_
    refine eX_KH hS ?_
    refine wH_all [6] (by rfl) (by kernel_rfl) (by simp) ⟨⟨by kernel_rfl, ?_⟩, trivial⟩
    refine wS_alloc (d := 4) (T := 105) (z := .map none) (by kernel_rfl) (by kernel_rfl) ?_
    intro b17 w23 G14 F22 hc23
    replace F22 : Cl w23 b17 105 [.map none] := F22
    have D26 : Dj [b1] [b17] := Dj.of (lt1 F1.lt) (low1 G14)
    have D27 : Dj [b15] [b17] := Dj.of (lt1 F20.lt) (low1 G14)
    have D28 : Dj [b16] [b17] := Dj.of F21.low (low1 G14)
    replace F0_0 := F0_0.chg hc23 Dj.nil
    replace F0_1 := F0_1.chg hc23 Dj.nil
    replace FG := FG.chg hc23 Dj.nil
    replace F1 := F1.chg hc23 notNil
    replace F20 := F20.chg hc23 notNil
    replace F21 := F21.chg hc23 Dj.nil
    replace hB := hB.inS hc23 inNil
    have hSz := hS
    replace hS := hS.inS hc23 inNil
    have Gz13 := low1 (Nat.le_trans hSz.size G14)
    replace G14 := Nat.le_trans hZ G14
    replace hZ := Nat.le_trans hZ hc23.size
    refine wS_end (by kernel_rfl) ?_
    refine eX_KH hS ?_
    refine wH_all [8] (by rfl) (by kernel_rfl) (by simp) ⟨⟨by kernel_rfl, ?_⟩, trivial⟩
    refine wS_store (T := 105) (g := b17) (o := 0) (ad := ⟨b17, 0, none⟩) (v := .map (some b16)) (vs := [.map (some b16)]) (by kernel_rfl) (by rfl) sz105 (by rfl) (by rfl) F22 (by simp only [List.length_cons, List.length_nil]; omega) ?_
    intro w24 F23 hc24
    replace F0_0 := F0_0.chg hc24 (Dj.of L0_0 (low1 G14))
    replace F0_1 := F0_1.chg hc24 (Dj.of L0_1 (low1 G14))
    replace FG := FG.chg hc24 (Dj.of Lg (low1 G14))
    replace F1 := F1.chg hc24 (dj1 D26)
    replace F20 := F20.chg hc24 (dj1 D27)
    replace F21 := F21.chg hc24 D28
    replace hB := hB.inS hc24 (inLow (low1 G14))
    have hSz := hS
    replace hS := hS.inS hc24 (inLow Gz13)
    replace hZ := Nat.le_trans hZ hc24.size
    replace F23 : Cl w24 b17 105 [.map (some b16)] := F23
    clear F22
    refine wS_end (by kernel_rfl) ?_
    refine eX_KH hS ?_
    refine wH_done (by kernel_rfl) ?_
    refine eX_tail ?_
    refine wS_store (T := 3) (g := b15) (o := 0) (ad := ⟨b15, 0, none⟩) (v := .int .i64 (wr ((shlI 1 (((l0_0).length : Int))) - 1))) (vs := [.int .i64 (wr ((shlI 1 (((l0_0).length : Int))) - 1))]) (by kernel_rfl) (by rfl) sz3 (by rfl) (by rfl) F20 (by simp only [List.length_cons, List.length_nil]; omega) ?_
    intro w25 F24 hc25
    replace F0_0 := F0_0.chg hc25 (Dj.of L0_0 (low1 G12))
    replace F0_1 := F0_1.chg hc25 (Dj.of L0_1 (low1 G12))
    replace FG := FG.chg hc25 (Dj.of Lg (low1 G12))
    replace F1 := F1.chg hc25 (dj1 D23)
    replace F21 := F21.chg hc25 (D25).symm
    replace F23 := F23.chg hc25 (dj1 (D27).symm)
    replace hB := hB.inS hc25 (inLow (low1 G12))
    replace hZ := Nat.le_trans hZ hc25.size
    replace F24 : Cl w25 b15 3 [.int .i64 (wr ((shlI 1 (((l0_0).length : Int))) - 1))] := F24
    clear F20
    refine wS_end (by rfl) ?_
    have hq : (some ((([] : List (Int × Int)), wr ((shlI 1 (((l0_0).length : Int))) - 1))) : Option ((List (Int × Int)) × Int)) = some _ := hm
    replace hq := someE hq
    subst hq
    exact eX_J (fun hst => ⟨b17, ([] : List (Int × Int)), b16, b15, wr ((shlI 1 (((l0_0).length : Int))) - 1), rfl, Fr.of hst (by kernel_rfl), F0_0, F0_1, FG, F1, F23, F21, F24, G14, G13, G12, D26, D28, D27, D24, D25, D23, hB, hZ⟩)
   ·skip
    refine wS_alloc (d := 4) (T := 105) (z := .map none) (by kernel_rfl) (by kernel_rfl) ?_
    intro b18 w26 G15 F25 hc26
    replace F25 : Cl w26 b18 105 [.map none] := F25
    have D29 : Dj [b1] [b18] := Dj.of (lt1 F1.lt) (low1 G15)
    have D30 : Dj [b15] [b18] := Dj.of (lt1 F20.lt) (low1 G15)
    replace F0_0 := F0_0.chg hc26 Dj.nil
    replace F0_1 := F0_1.chg hc26 Dj.nil
    replace FG := FG.chg hc26 Dj.nil
    replace F1 := F1.chg hc26 notNil
    replace F20 := F20.chg hc26 notNil
    replace hB := hB.inS hc26 inNil
    have hSz := hS
    replace hS := hS.inS hc26 inNil
    have Gz14 := low1 (Nat.le_trans hSz.size G15)
    replace G15 := Nat.le_trans hZ G15
    replace hZ := Nat.le_trans hZ hc26.size
    refine wS_end (by kernel_rfl) ?_
    refine eX_KH hS ?_
    refine wH_all [0] (by rfl) (by kernel_rfl) (by simp) ⟨⟨by kernel_rfl, ?_⟩, trivial⟩
    refine wS_makeMap (V := Int) (d := 11) (T := 105) (by kernel_rfl) okI kI kI ?_
    intro b19 w27 G16 F26 hc27
    have D31 : Dj [b1] [b19] := Dj.of (lt1 F1.lt) (low1 G16)
    have D32 : Dj [b15] [b19] := Dj.of (lt1 F20.lt) (low1 G16)
    have D33 : Dj [b18] [b19] := Dj.of (lt1 F25.lt) (low1 G16)
    replace F0_0 := F0_0.chg hc27 Dj.nil
    replace F0_1 := F0_1.chg hc27 Dj.nil
    replace FG := FG.chg hc27 Dj.nil
    replace F1 := F1.chg hc27 notNil
    replace F20 := F20.chg hc27 notNil
    replace F25 := F25.chg hc27 notNil
    replace hB := hB.inS hc27 inNil
    have hSz := hS
    replace hS := hS.inS hc27 inNil
    have Gz15 := low1 (Nat.le_trans hSz.size G16)
    replace G16 := Nat.le_trans hZ G16
    replace G16 := low1 G16
    replace hZ := Nat.le_trans hZ hc27.size
    refine wS_end (by kernel_rfl) ?_
    refine eX_KH hS ?_
    refine wH_all [8] (by rfl) (by kernel_rfl) (by simp) ⟨⟨by kernel_rfl, ?_⟩, trivial⟩
    refine wS_store (T := 105) (g := b18) (o := 0) (ad := ⟨b18, 0, none⟩) (v := .map (some b19)) (vs := [.map (some b19)]) (by kernel_rfl) (by rfl) sz105 (by rfl) (by rfl) F25 (by simp only [List.length_cons, List.length_nil]; omega) ?_
    intro w28 F27 hc28
    replace F0_0 := F0_0.chg hc28 (Dj.of L0_0 (low1 G15))
    replace F0_1 := F0_1.chg hc28 (Dj.of L0_1 (low1 G15))
    replace FG := FG.chg hc28 (Dj.of Lg (low1 G15))
    replace F1 := F1.chg hc28 (dj1 D29)
    replace F20 := F20.chg hc28 (dj1 D30)
    replace F26 := F26.chg hc28 (D33).symm
    replace hB := hB.inS hc28 (inLow (low1 G15))
    have hSz := hS
    replace hS := hS.inS hc28 (inLow Gz14)
    replace hZ := Nat.le_trans hZ hc28.size
    replace F27 : Cl w28 b18 105 [.map (some b19)] := F27
    clear F25
    refine wS_end (by kernel_rfl) ?_
    refine eX_KH hS ?_
    refine wH_done (by kernel_rfl) ?_
    refine eX_tail ?_
    refine wS_store (T := 3) (g := b15) (o := 0) (ad := ⟨b15, 0, none⟩) (v := .int .i64 (wr ((shlI 1 (((l0_0).length : Int))) - 1))) (vs := [.int .i64 (wr ((shlI 1 (((l0_0).length : Int))) - 1))]) (by kernel_rfl) (by rfl) sz3 (by rfl) (by rfl) F20 (by simp only [List.length_cons, List.length_nil]; omega) ?_
    intro w29 F28 hc29
    replace F0_0 := F0_0.chg hc29 (Dj.of L0_0 (low1 G12))
    replace F0_1 := F0_1.chg hc29 (Dj.of L0_1 (low1 G12))
    replace FG := FG.chg hc29 (Dj.of Lg (low1 G12))
    replace F1 := F1.chg hc29 (dj1 D23)
    replace F27 := F27.chg hc29 (dj1 (D30).symm)
    replace F26 := F26.chg hc29 (D32).symm
    replace hB := hB.inS hc29 (inLow (low1 G12))
    replace hZ := Nat.le_trans hZ hc29.size
    replace F28 : Cl w29 b15 3 [.int .i64 (wr ((shlI 1 (((l0_0).length : Int))) - 1))] := F28
    clear F20
    refine wS_end (by rfl) ?_
    have hq : (some ((([] : List (Int × Int)), wr ((shlI 1 (((l0_0).length : Int))) - 1))) : Option ((List (Int × Int)) × Int)) = some _ := hm
    replace hq := someE hq
    subst hq
    exact eX_J (fun hst => ⟨b18, ([] : List (Int × Int)), b19, b15, wr ((shlI 1 (((l0_0).length : Int))) - 1), rfl, Fr.of hst (by kernel_rfl), F0_0, F0_1, FG, F1, F27, F26, F28, G15, G16, G12, D29, (D33).symm, D30, D31, D32, D23, hB, hZ⟩)
 ·rintro a' w30 ⟨b2, l1, b3, b4, x1, hJ, hF1, F29, F30, F31, F32, F33, F34, F35, G17, G18, G19, D34, D35, D36, D37, D38, D39, hB, hZ⟩
  subst hJ
  refine Fr.goX hF1 (by kernel_rfl) ?_
  refine eX_then ?_
  refine cW_seq ?_
  refine cW_region ?_
  refine wS_rows0 (k := 1) (enc := encI) (d := 17) (t := 54) (T := 56) (T2 := 3) (by kernel_rfl) el54 ?_
  intro b20 w31 G20 F36 hc30
  have D40 : Dj [b1] ([b20] ++ []) := Dj.of (lt1 F32.lt) (lowApp (low1 G20) lowNil)
  have D41 : Dj [b2] ([b20] ++ []) := Dj.of (lt1 F33.lt) (lowApp (low1 G20) lowNil)
  have D42 : Dj [b3] ([b20] ++ []) := Dj.of F34.low (lowApp (low1 G20) lowNil)
  have D43 : Dj [b4] ([b20] ++ []) := Dj.of (lt1 F35.lt) (lowApp (low1 G20) lowNil)
  replace F29 := F29.chg hc30 Dj.nil
  replace F30 := F30.chg hc30 Dj.nil
  replace F31 := F31.chg hc30 Dj.nil
  replace F32 := F32.chg hc30 notNil
  replace F33 := F33.chg hc30 notNil
  replace F34 := F34.chg hc30 Dj.nil
  replace F35 := F35.chg hc30 notNil
  replace hB := hB.inS hc30 inNil
  replace G20 := Nat.le_trans hZ G20
  replace G20 := low1 G20
  replace hZ := Nat.le_trans hZ hc30.size
  replace G20 := lowApp G20 lowNil
  refine wS_pure 1 [(6, .slice (some ⟨b20, 0, none⟩) (([] : List (List (Int)))).length 0)] (by kernel_rfl) ?_
  refine wS_end (by rfl) ?_
  refine eX_then ?_
  refine cW_seq ?_
  refine cW_seq ?_
  refine cW_drawnTail [b3] 7 (by kernel_rfl) (by kernel_rfl) (fun w32 hc31 => ?_)
  replace F29 := F29.chg hc31 Dj.nil
  replace F30 := F30.chg hc31 Dj.nil
  replace F31 := F31.chg hc31 Dj.nil
  replace F32 := F32.chg hc31 notNil
  replace F33 := F33.chg hc31 notNil
  replace F34 := F34.chg hc31 Dj.nil
  replace F35 := F35.chg hc31 notNil
  replace F36 := F36.chg hc31 Dj.nil
  replace hB := hB.inS hc31 inNil
  replace hZ := Nat.le_trans hZ hc31.size
  have hS := Chg.refl [b3] w32
  have Z5 := F29
  have Z6 := F30
  have Z7 := F31
  have Z8 := F32
  have Z9 := F33
  have Z10 := F34
  have Z11 := F35
  have Z12 := F36
  refine wH_loadA (i := 0) (d := 18) (T := 58) (ad := ⟨b1, 0, none⟩) (vs := [.slice A0_0 (l0_0).length cap0_0, .slice A0_1 (l0_1).length cap0_1]) (by kernel_rfl) (qT (qT (qT qZ))) (by kernel_rfl) (by kernel_rfl) vt58 (fun W hW i u hu => box_cells (Z8.chg hW (dj1 D37)) 0 hu (by rfl)) ?_
  refine wH_load1 (i := 1) (d := 19) (T := 3) (ad := ⟨b4, 0, none⟩) (v := .int .i64 (x1)) (by kernel_rfl) (qT (qT (qT qZ))) (by kernel_rfl) (by kernel_rfl) vt3 (fun W hW => (Z11.chg hW (dj1 D38)).cell 0) ?_
  refine wH_load1 (i := 2) (d := 20) (T := 105) (ad := ⟨b2, 0, none⟩) (v := .map (some b3)) (by kernel_rfl) (qT (qT (qT qZ))) (by kernel_rfl) (by kernel_rfl) vt105 (fun W hW => (Z9.chg hW (dj1 (D35).symm)).cell 0) ?_
  refine wH_take [4] [4, 2, 1, 0] [(22, .pointer (some ⟨b1, 0, none⟩))] (by kernel_rfl) (qT (qT (qT qZ))) (by kernel_rfl) ?_
  refine wH_load1 (i := 5) (d := 23) (T := 56) (ad := ⟨b1, 0, none⟩) (v := .slice A0_0 (l0_0).length cap0_0) (by kernel_rfl) (qT (qT (qT qZ))) (by kernel_rfl) (by kernel_rfl) vt56 (fun W hW => (Z8.chg hW (dj1 D37)).cell 0) ?_
  refine wH_take [6] [6, 5, 4, 2, 1, 0] [(24, .int .i64 (((l0_0).length : Int)))] (by kernel_rfl) (qT (qT (qT qZ))) (by kernel_rfl) ?_
  refine wH_all [3] (by rfl) (by kernel_rfl) (by simp) ⟨⟨by kernel_rfl, ?_⟩, trivial⟩
  obtain ⟨y1, hy1, hm⟩ := bindE hm
  refine wS_calls (d := 21) (f := 78) (vs := [.agg #[.slice A0_0 (l0_0).length cap0_0, .slice A0_1 (l0_1).length cap0_1], .int .i64 (x1), .map (some b3)]) (by kernel_rfl) ent78 (c_impl_order_fewest 64 hy1 F29 F30 F34 (Dj.of L0_0 G18).symm (Dj.of L0_1 G18).symm) ?_
  rintro _ w33 ⟨rfl, F37, hc32⟩
  replace F29 := F29.chg hc32 (Dj.app (Dj.of L0_0 G18) Dj.nil)
  replace F30 := F30.chg hc32 (Dj.app (Dj.of L0_1 G18) Dj.nil)
  replace F31 := F31.chg hc32 (Dj.app (Dj.of Lg G18) Dj.nil)
  replace F32 := F32.chg hc32 (dj1 (Dj.app D37 Dj.nil))
  replace F33 := F33.chg hc32 (dj1 (Dj.app (D35).symm Dj.nil))
  replace F35 := F35.chg hc32 (dj1 (Dj.app D38 Dj.nil))
  replace F36 := F36.chg hc32 (Dj.app (D42).symm Dj.nil)
  replace hB := hB.inS hc32 (inApp (inLow G18) inNil)
  have hSz := hS
  replace hS := hS.trans (hc32.more (fun x hx => by simpa using hx))
  replace hZ := Nat.le_trans hZ hc32.size
  clear F34
  refine ⟨.int .i64 (y1.1), rfl, ?_⟩
  refine wS_end (by kernel_rfl) ?_
  refine eX_KH hS ?_
  refine wH_done (by kernel_rfl) ?_
  refine eX_tail ?_
  refine wS_pure 1 [(25, .bool (decide (y1.1 > (((l0_0).length : Int)))))] (by kernel_rfl) ?_
  refine wS_end (by rfl) ?_
  refine eX_then ?_
  refine cW_cond (t := decide (y1.1 > (((l0_0).length : Int)))) (by kernel_rfl) (fun hb1 => ?_) (fun hb1 => ?_)
  ·have hm := condT hb1 hm
   refine cW_seq ?_
   refine cW_region ?_
   refine wS_pure 2 [(3, .bool (false)), (2, .slice none 0 0)] (by kernel_rfl) ?_
   refine wS_end (by rfl) ?_
   refine eX_then ?_
   refine cW_ret ?_
   refine eX_then_ret ?_
   have hq : (some (([], false)) : Option ((List (List (Int))) × (Bool))) = some _ := hm
   replace hq := someE hq
   subst hq
   refine eX_ret (vs := [.slice none 0 0, .bool (false)]) [.tmp 2, .tmp 3] (by rfl) ⟨by (show lkE _ _ _ = _); kernel_rfl, ⟨by (show lkE _ _ _ = _); kernel_rfl, trivial⟩⟩ ?_
   exact ⟨none, 0, [], [], rfl, OwR.nil _, (lowApp lowNil lowNil), hB⟩
  ·have hm := condF hb1 hm
   refine cW_skip ?_
   refine eX_then ?_
   refine cW_seq ?_
   obtain ⟨r1, hr1, hm⟩ := bindE hm
   have hm1 := hm
   refine cW_cut (fun a' w' => ∃ l3 : List (List (Int)), ∃ A1 : Option Addr, ∃ cap1 : Nat, ∃ fp1 : List Nat, ∃ fr1 : List Nat, l3 = r1 ∧ Fr 59 [(6, .slice A1 (l3).length cap1)] a' ∧ Sl 1 encU w' [1] (some ⟨1, 0, none⟩) tab64 ∧ OwR 1 encI 56 3 w' fp1 fr1 A1 cap1 l3 ∧ (∀ x ∈ (fp1 ++ fr1), w0.heap.size ≤ x) ∧ Chg [] w0 w' ∧ w0.heap.size ≤ w'.heap.size) ?_ ?_
   ·refine cW_block ?_
    refine cW_loop _ (fun (s2 : (List (List (Int))) × (List (Int × Int)) × Int) a' w' => ∃ l4 : List (List (Int)), ∃ A3 : Option Addr, ∃ cap3 : Nat, ∃ fp2 : List Nat, ∃ fr2 : List Nat, ∃ l5 : List (Int × Int), ∃ x2 : Int, (l4, l5, x2) = s2 ∧ Fr 59 [(1, .pointer (some ⟨b1, 0, none⟩)), (4, .pointer (some ⟨b2, 0, none⟩)), (5, .pointer (some ⟨b4, 0, none⟩)), (6, .slice A3 (l4).length cap3)] a' ∧ Sl 1 encI w' fp0_0 A0_0 l0_0 ∧ Sl 1 encI w' fp0_1 A0_1 l0_1 ∧ Sl 1 encU w' [1] (some ⟨1, 0, none⟩) tab64 ∧ Cl w' b1 58 [.slice A0_0 (l0_0).length cap0_0, .slice A0_1 (l0_1).length cap0_1] ∧ Cl w' b2 105 [.map (some b3)] ∧ Mp okI kI kI w' b3 l5 ∧ Cl w' b4 3 [.int .i64 (x2)] ∧ OwR 1 encI 56 3 w' fp2 fr2 A3 cap3 l4 ∧ (∀ x ∈ (fp2 ++ fr2), w0.heap.size ≤ x) ∧ Dj [b1] (fp2 ++ fr2) ∧ Dj [b2] (fp2 ++ fr2) ∧ Dj [b3] (fp2 ++ fr2) ∧ Dj [b4] (fp2 ++ fr2) ∧ Chg [] w0 w' ∧ w0.heap.size ≤ w'.heap.size) hr1 (fun hst => ⟨([] : List (List (Int))), (some ⟨b20, 0, none⟩), 0, [b20], [], y1.2, x1, rfl, Fr.of hst (by kernel_rfl), F29, F30, F31, F32, F33, F37, F35, F36, G20, D40, D41, D42, D43, hB, hZ⟩) ?_
    rintro _ c1 a' w34 ⟨l4, A3, cap3, fp2, fr2, l5, x2, rfl, hF2, F38, F39, F40, F41, F42, F43, F44, F45, G21, D44, D45, D46, D47, hB, hZ⟩ hx1
    refine Fr.goOn hF2 (by kernel_rfl) ?_
    have hm := hx1
    unfold m_impl_order_best_s3 at hm
    refine cW_seq ?_
    refine cW_seq ?_
    refine cW_region ?_
    refine wS_load1 (d := 26) (T := 3) (ad := ⟨b4, 0, none⟩) (v := .int .i64 (x2)) (by kernel_rfl) vt3 ((F44).cell 0) ?_
    refine wS_pure 1 [(27, .bool (x2 != 0))] (by kernel_rfl) ?_
    refine wS_end (by rfl) ?_
    refine eX_then ?_
    refine cW_cond (t := x2 != 0) (by kernel_rfl) (fun hb2 => ?_) (fun hb2 => ?_)
    ·have hm := condT hb2 hm
     refine cW_skip ?_
     refine eX_then ?_
     refine cW_block ?_
     refine cW_seq ?_
     refine cW_region ?_
     refine wS_alloc (d := 7) (T := 3) (z := .int .i64 (0)) (by kernel_rfl) (by kernel_rfl) ?_
     intro b21 w35 G22 F46 hc33
     replace F46 : Cl w35 b21 3 [.int .i64 (0)] := F46
     have D48 : Dj [b1] [b21] := Dj.of (lt1 F41.lt) (low1 G22)
     have D49 : Dj [b2] [b21] := Dj.of (lt1 F42.lt) (low1 G22)
     have D50 : Dj [b3] [b21] := Dj.of F43.low (low1 G22)
     have D51 : Dj [b4] [b21] := Dj.of (lt1 F44.lt) (low1 G22)
     have D52 : Dj (fp2 ++ fr2) [b21] := Dj.of F45.low (low1 G22)
     replace F38 := F38.chg hc33 Dj.nil
     replace F39 := F39.chg hc33 Dj.nil
     replace F40 := F40.chg hc33 Dj.nil
     replace F41 := F41.chg hc33 notNil
     replace F42 := F42.chg hc33 notNil
     replace F43 := F43.chg hc33 Dj.nil
     replace F44 := F44.chg hc33 notNil
     replace F45 := F45.chg hc33 Dj.nil
     replace hB := hB.inS hc33 inNil
     replace G22 := Nat.le_trans hZ G22
     replace hZ := Nat.le_trans hZ hc33.size
     refine wS_store (T := 3) (g := b21) (o := 0) (ad := ⟨b21, 0, none⟩) (v := .int .i64 (0)) (vs := [.int .i64 (0)]) (by kernel_rfl) (by rfl) sz3 (by rfl) (by rfl) F46 (by simp only [List.length_cons, List.length_nil]; omega) ?_
     intro w36 F47 hc34
     replace F38 := F38.chg hc34 (Dj.of L0_0 (low1 G22))
     replace F39 := F39.chg hc34 (Dj.of L0_1 (low1 G22))
     replace F40 := F40.chg hc34 (Dj.of Lg (low1 G22))
     replace F41 := F41.chg hc34 (dj1 D48)
     replace F42 := F42.chg hc34 (dj1 D49)
     replace F43 := F43.chg hc34 D50
     replace F44 := F44.chg hc34 (dj1 D51)
     replace F45 := F45.chg hc34 D52
     replace hB := hB.inS hc34 (inLow (low1 G22))
     replace hZ := Nat.le_trans hZ hc34.size
     replace F47 : Cl w36 b21 3 [.int .i64 (0)] := F47
     clear F46
     refine wS_end (by rfl) ?_
     refine eX_then ?_
     refine cW_seq ?_
     refine cW_region ?_
     refine wS_loadA (d := 28) (T := 58) (ad := ⟨b1, 0, none⟩) (vs := [.slice A0_0 (l0_0).length cap0_0, .slice A0_1 (l0_1).length cap0_1]) (by kernel_rfl) vt58 (fun i u hu => box_cells F41 0 hu (by rfl)) ?_
     refine wS_load1 (d := 29) (T := 3) (ad := ⟨b4, 0, none⟩) (v := .int .i64 (x2)) (by kernel_rfl) vt3 ((F44).cell 0) ?_
     refine wS_load1 (d := 30) (T := 105) (ad := ⟨b2, 0, none⟩) (v := .map (some b3)) (by kernel_rfl) vt105 ((F42).cell 0) ?_
     obtain ⟨y2, hy2, hm⟩ := bindE hm
     refine wS_calls (d := 31) (f := 78) (vs := [.agg #[.slice A0_0 (l0_0).length cap0_0, .slice A0_1 (l0_1).length cap0_1], .int .i64 (x2), .map (some b3)]) (by kernel_rfl) ent78 (c_impl_order_fewest 64 hy2 F38 F39 F43 (Dj.of L0_0 G18).symm (Dj.of L0_1 G18).symm) ?_
     rintro _ w37 ⟨rfl, F48, hc35⟩
     replace F38 := F38.chg hc35 (Dj.app (Dj.of L0_0 G18) Dj.nil)
     replace F39 := F39.chg hc35 (Dj.app (Dj.of L0_1 G18) Dj.nil)
     replace F40 := F40.chg hc35 (Dj.app (Dj.of Lg G18) Dj.nil)
     replace F41 := F41.chg hc35 (dj1 (Dj.app D37 Dj.nil))
     replace F42 := F42.chg hc35 (dj1 (Dj.app (D35).symm Dj.nil))
     replace F44 := F44.chg hc35 (dj1 (Dj.app D38 Dj.nil))
     replace F45 := F45.chg hc35 (Dj.app (D46).symm Dj.nil)
     replace F47 := F47.chg hc35 (dj1 (Dj.app (D50).symm Dj.nil))
     replace hB := hB.inS hc35 (inApp (inLow G18) inNil)
     replace hZ := Nat.le_trans hZ hc35.size
     clear F43
     refine ⟨.int .i64 (y2.1), rfl, ?_⟩
     refine wS_pure 1 [(32, .int .i64 (wr (y2.1 - 1)))] (by kernel_rfl) ?_
     refine wS_alloc (d := 8) (T := 3) (z := .int .i64 (0)) (by kernel_rfl) (by kernel_rfl) ?_
     intro b22 w38 G23 F49 hc36
     replace F49 : Cl w38 b22 3 [.int .i64 (0)] := F49
     have D53 : Dj [b1] [b22] := Dj.of (lt1 F41.lt) (low1 G23)
     have D54 : Dj [b2] [b22] := Dj.of (lt1 F42.lt) (low1 G23)
     have D55 : Dj [b3] [b22] := Dj.of F48.low (low1 G23)
     have D56 : Dj [b4] [b22] := Dj.of (lt1 F44.lt) (low1 G23)
     have D57 : Dj (fp2 ++ fr2) [b22] := Dj.of F45.low (low1 G23)
     have D58 : Dj [b21] [b22] := Dj.of (lt1 F47.lt) (low1 G23)
     replace F38 := F38.chg hc36 Dj.nil
     replace F39 := F39.chg hc36 Dj.nil
     replace F40 := F40.chg hc36 Dj.nil
     replace F41 := F41.chg hc36 notNil
     replace F42 := F42.chg hc36 notNil
     replace F48 := F48.chg hc36 Dj.nil
     replace F44 := F44.chg hc36 notNil
     replace F45 := F45.chg hc36 Dj.nil
     replace F47 := F47.chg hc36 notNil
     replace hB := hB.inS hc36 inNil
     replace G23 := Nat.le_trans hZ G23
     replace hZ := Nat.le_trans hZ hc36.size
     refine wS_store (T := 3) (g := b22) (o := 0) (ad := ⟨b22, 0, none⟩) (v := .int .i64 (wr (y2.1 - 1))) (vs := [.int .i64 (wr (y2.1 - 1))]) (by kernel_rfl) (by rfl) sz3 (by rfl) (by rfl) F49 (by simp only [List.length_cons, List.length_nil]; omega) ?_
     intro w39 F50 hc37
     replace F38 := F38.chg hc37 (Dj.of L0_0 (low1 G23))
     replace F39 := F39.chg hc37 (Dj.of L0_1 (low1 G23))
     replace F40 := F40.chg hc37 (Dj.of Lg (low1 G23))
     replace F41 := F41.chg hc37 (dj1 D53)
     replace F42 := F42.chg hc37 (dj1 D54)
     replace F48 := F48.chg hc37 D55
     replace F44 := F44.chg hc37 (dj1 D56)
     replace F45 := F45.chg hc37 D57
     replace F47 := F47.chg hc37 (dj1 D58)
     replace hB := hB.inS hc37 (inLow (low1 G23))
     replace hZ := Nat.le_trans hZ hc37.size
     replace F50 : Cl w39 b22 3 [.int .i64 (wr (y2.1 - 1))] := F50
     clear F49
     refine wS_end (by rfl) ?_
     refine eX_then ?_
     refine cW_seq ?_
     refine cW_region ?_
     refine wS_loadA (d := 33) (T := 58) (ad := ⟨b1, 0, none⟩) (vs := [.slice A0_0 (l0_0).length cap0_0, .slice A0_1 (l0_1).length cap0_1]) (by kernel_rfl) vt58 (fun i u hu => box_cells F41 0 hu (by rfl)) ?_
     refine wS_load1 (d := 34) (T := 3) (ad := ⟨b4, 0, none⟩) (v := .int .i64 (x2)) (by kernel_rfl) vt3 ((F44).cell 0) ?_
     refine wS_pure 1 [(35, .func (.func 80) #[] #[.pointer (some ⟨b21, 0, none⟩), .pointer (some ⟨b1, 0, none⟩), .pointer (some ⟨b4, 0, none⟩), .pointer (some ⟨b2, 0, none⟩), .pointer (some ⟨b22, 0, none⟩)])] (by kernel_rfl) ?_
     obtain ⟨y3, hy3, hm⟩ := bindE hm
     refine wS_calls (d := 36) (f := 79) (vs := [.agg #[.slice A0_0 (l0_0).length cap0_0, .slice A0_1 (l0_1).length cap0_1], .int .i64 (x2), .func (.func 80) #[] #[.pointer (some ⟨b21, 0, none⟩), .pointer (some ⟨b1, 0, none⟩), .pointer (some ⟨b4, 0, none⟩), .pointer (some ⟨b2, 0, none⟩), .pointer (some ⟨b22, 0, none⟩)]]) (by kernel_rfl) ent79 (c_impl_order_first_impl_order_best_1_bint_bimplorder_bint_bmapintint_bint hy3 F38 F39 F47 F38 F39 F41 F44 F48 F42 F50 (Dj.of L0_0 (low1 G22)).symm (Dj.of L0_1 (low1 G22)).symm (Dj.of L0_0 (low1 G22)).symm (Dj.of L0_1 (low1 G22)).symm (D48).symm (D51).symm (D50).symm (D49).symm D58 (Dj.of L0_0 G18).symm (Dj.of L0_1 G18).symm (Dj.of L0_0 G18).symm (Dj.of L0_1 G18).symm (D37).symm (D38).symm D35 D55) ?_
     rintro _ w40 ⟨rfl, F51, F52, hc38⟩
     replace F38 := F38.chg hc38 (Dj.app (Dj.of L0_0 (low1 G22)) (Dj.app (Dj.of L0_0 G18) Dj.nil))
     replace F39 := F39.chg hc38 (Dj.app (Dj.of L0_1 (low1 G22)) (Dj.app (Dj.of L0_1 G18) Dj.nil))
     replace F40 := F40.chg hc38 (Dj.app (Dj.of Lg (low1 G22)) (Dj.app (Dj.of Lg G18) Dj.nil))
     replace F41 := F41.chg hc38 (dj1 (Dj.app D48 (Dj.app D37 Dj.nil)))
     replace F42 := F42.chg hc38 (dj1 (Dj.app D49 (Dj.app (D35).symm Dj.nil)))
     replace F44 := F44.chg hc38 (dj1 (Dj.app D51 (Dj.app D38 Dj.nil)))
     replace F45 := F45.chg hc38 (Dj.app D52 (Dj.app (D46).symm Dj.nil))
     replace F50 := F50.chg hc38 (dj1 (Dj.app (D58).symm (Dj.app (D55).symm Dj.nil)))
     replace hB := hB.inS hc38 (inApp (inLow (low1 G22)) (inApp (inLow G18) inNil))
     replace hZ := Nat.le_trans hZ hc38.size
     clear F47
     clear F48
     refine ⟨.tuple #[], rfl, ?_⟩
     refine wS_end (by rfl) ?_
     refine eX_then ?_
     refine cW_seq ?_
     refine cW_region ?_
     refine wS_bs0 (α := Int) (enc := encI) (d := 37) (t := 56) (T := 3) (by kernel_rfl) el56 ?_
     intro b23 w41 G24 F53 hc39
     have D59 : Dj [b1] [b23] := Dj.of (lt1 F41.lt) (low1 G24)
     have D60 : Dj [b2] [b23] := Dj.of (lt1 F42.lt) (low1 G24)
     have D61 : Dj [b3] [b23] := Dj.of F52.low (low1 G24)
     have D62 : Dj [b4] [b23] := Dj.of (lt1 F44.lt) (low1 G24)
     have D63 : Dj (fp2 ++ fr2) [b23] := Dj.of F45.low (low1 G24)
     have D64 : Dj [b21] [b23] := Dj.of (lt1 F51.lt) (low1 G24)
     have D65 : Dj [b22] [b23] := Dj.of (lt1 F50.lt) (low1 G24)
     replace F38 := F38.chg hc39 Dj.nil
     replace F39 := F39.chg hc39 Dj.nil
     replace F40 := F40.chg hc39 Dj.nil
     replace F41 := F41.chg hc39 notNil
     replace F42 := F42.chg hc39 notNil
     replace F52 := F52.chg hc39 Dj.nil
     replace F44 := F44.chg hc39 notNil
     replace F45 := F45.chg hc39 Dj.nil
     replace F51 := F51.chg hc39 notNil
     replace F50 := F50.chg hc39 notNil
     replace hB := hB.inS hc39 inNil
     replace G24 := Nat.le_trans hZ G24
     replace G24 := low1 G24
     replace hZ := Nat.le_trans hZ hc39.size
     refine wS_pure 1 [(9, .slice (some ⟨b23, 0, none⟩) (([] : List (Int))).length 0)] (by kernel_rfl) ?_
     refine wS_end (by rfl) ?_
     refine eX_then ?_
     refine cW_seq ?_
     refine cW_seq ?_
     refine cW_region ?_
     refine wS_load1 (d := 38) (T := 3) (ad := ⟨b21, 0, none⟩) (v := .int .i64 (y3.1)) (by kernel_rfl) vt3 ((F51).cell 0) ?_
     refine wS_pure 1 [(10, .int .i64 (y3.1))] (by kernel_rfl) ?_
     refine wS_end (by rfl) ?_
     refine eX_then ?_
     obtain ⟨r2, hr2, hm⟩ := bindE hm
     have hm2 := hm
     refine cW_cut (fun a' w' => ∃ l6 : List (Int), ∃ A4 : Option Addr, ∃ cap4 : Nat, ∃ fp3 : List Nat, l6 = r2 ∧ Fr 59 [(1, .pointer (some ⟨b1, 0, none⟩)), (4, .pointer (some ⟨b2, 0, none⟩)), (5, .pointer (some ⟨b4, 0, none⟩)), (6, .slice A3 (l4).length cap3), (7, .pointer (some ⟨b21, 0, none⟩)), (9, .slice A4 (l6).length cap4)] a' ∧ Sl 1 encI w' fp0_0 A0_0 l0_0 ∧ Sl 1 encI w' fp0_1 A0_1 l0_1 ∧ Sl 1 encU w' [1] (some ⟨1, 0, none⟩) tab64 ∧ Cl w' b1 58 [.slice A0_0 (l0_0).length cap0_0, .slice A0_1 (l0_1).length cap0_1] ∧ Cl w' b2 105 [.map (some b3)] ∧ Mp okI kI kI w' b3 y3.2 ∧ Cl w' b4 3 [.int .i64 (x2)] ∧ OwR 1 encI 56 3 w' fp2 fr2 A3 cap3 l4 ∧ Cl w' b21 3 [.int .i64 (y3.1)] ∧ Ow 1 encI 3 w' fp3 A4 cap4 l6 ∧ (∀ x ∈ fp3, w0.heap.size ≤ x) ∧ Dj [b1] fp3 ∧ Dj [b2] fp3 ∧ Dj [b3] fp3 ∧ Dj [b4] fp3 ∧ Dj (fp2 ++ fr2) fp3 ∧ Dj [b21] fp3 ∧ Chg [] w0 w' ∧ w0.heap.size ≤ w'.heap.size) ?_ ?_
     ·refine cW_block ?_
      refine cW_loop _ (fun (s3 : (List (Int)) × Int) a' w' => ∃ l7 : List (Int), ∃ A5 : Option Addr, ∃ cap5 : Nat, ∃ fp4 : List Nat, ∃ x3 : Int, (l7, x3) = s3 ∧ Fr 59 [(1, .pointer (some ⟨b1, 0, none⟩)), (4, .pointer (some ⟨b2, 0, none⟩)), (5, .pointer (some ⟨b4, 0, none⟩)), (6, .slice A3 (l4).length cap3), (7, .pointer (some ⟨b21, 0, none⟩)), (9, .slice A5 (l7).length cap5), (10, .int .i64 (x3))] a' ∧ Sl 1 encI w' fp0_0 A0_0 l0_0 ∧ Sl 1 encI w' fp0_1 A0_1 l0_1 ∧ Sl 1 encU w' [1] (some ⟨1, 0, none⟩) tab64 ∧ Cl w' b1 58 [.slice A0_0 (l0_0).length cap0_0, .slice A0_1 (l0_1).length cap0_1] ∧ Cl w' b2 105 [.map (some b3)] ∧ Mp okI kI kI w' b3 y3.2 ∧ Cl w' b4 3 [.int .i64 (x2)] ∧ OwR 1 encI 56 3 w' fp2 fr2 A3 cap3 l4 ∧ Cl w' b21 3 [.int .i64 (y3.1)] ∧ Ow 1 encI 3 w' fp4 A5 cap5 l7 ∧ (∀ x ∈ fp4, w0.heap.size ≤ x) ∧ Dj [b1] fp4 ∧ Dj [b2] fp4 ∧ Dj [b3] fp4 ∧ Dj [b4] fp4 ∧ Dj (fp2 ++ fr2) fp4 ∧ Dj [b21] fp4 ∧ Chg [] w0 w' ∧ w0.heap.size ≤ w'.heap.size) hr2 (fun hst => ⟨([] : List (Int)), (some ⟨b23, 0, none⟩), 0, [b23], y3.1, rfl, Fr.of hst (by kernel_rfl), F38, F39, F40, F41, F42, F52, F44, F45, F51, F53, G24, D59, D60, D61, D62, D63, D64, hB, hZ⟩) ?_
      rintro _ c2 a' w42 ⟨l7, A5, cap5, fp4, x3, rfl, hF3, F54, F55, F56, F57, F58, F59, F60, F61, F62, F63, G25, D66, D67, D68, D69, D70, D71, hB, hZ⟩ hx2
      refine Fr.goOn hF3 (by kernel_rfl) ?_
      have hm := hx2
      unfold m_impl_order_best_s4 at hm
      refine cW_seq ?_
      refine cW_seq ?_
      refine cW_region ?_
      refine wS_pure 2 [(40, .bool (x3 != 0)), (39, .int .i64 (x3))] (by kernel_rfl) ?_
      refine wS_end (by rfl) ?_
      refine eX_then ?_
      refine cW_cond (t := x3 != 0) (by kernel_rfl) (fun hb3 => ?_) (fun hb3 => ?_)
      ·have hm := condT hb3 hm
       refine cW_skip ?_
       refine eX_then ?_
       refine cW_seq ?_
       refine cW_block ?_
       refine cW_region ?_
       refine wS_pure 3 [(47, .int .u64 (wu x3)), (46, .int .i64 (x3)), (45, .slice A5 (l7).length cap5)] (by kernel_rfl) ?_
       obtain ⟨y4, hy4, hm⟩ := bindE hm
       refine wS_calls (d := 48) (f := 81) (vs := [.int .u64 (wu x3)]) (by kernel_rfl) ent81 (c_math_bits_TrailingZeros hy4 F56) ?_
       rintro _ w43 ⟨rfl, hc40⟩
       replace F54 := F54.chg hc40 Dj.nil
       replace F55 := F55.chg hc40 Dj.nil
       replace F56 := F56.chg hc40 Dj.nil
       replace F57 := F57.chg hc40 notNil
       replace F58 := F58.chg hc40 notNil
       replace F59 := F59.chg hc40 Dj.nil
       replace F60 := F60.chg hc40 notNil
       replace F61 := F61.chg hc40 Dj.nil
       replace F62 := F62.chg hc40 notNil
       replace F63 := F63.chg hc40 Dj.nil
       replace hB := hB.inS hc40 inNil
       replace hZ := Nat.le_trans hZ hc40.size
       refine ⟨.int .i64 (y4), rfl, ?_⟩
       refine wS_bs (enc := encI) ([y4] : List (Int)) [.int .i64 (y4)] (d := 49) (t := 56) (T := 3) (n := 1) (ps := [(0, .int .i64 (y4))]) (by kernel_rfl) el56 encI_ok (by rfl) (by omega) (by omega) (by kernel_rfl) (by rfl) ?_
       intro b24 w44 G26 F64 hc41
       have D72 : Dj [b1] [b24] := Dj.of (lt1 F57.lt) (low1 G26)
       have D73 : Dj [b2] [b24] := Dj.of (lt1 F58.lt) (low1 G26)
       have D74 : Dj [b3] [b24] := Dj.of F59.low (low1 G26)
       have D75 : Dj [b4] [b24] := Dj.of (lt1 F60.lt) (low1 G26)
       have D76 : Dj (fp2 ++ fr2) [b24] := Dj.of F61.low (low1 G26)
       have D77 : Dj [b21] [b24] := Dj.of (lt1 F62.lt) (low1 G26)
       have D78 : Dj fp4 [b24] := Dj.of F63.low (low1 G26)
       replace F54 := F54.chg hc41 Dj.nil
       replace F55 := F55.chg hc41 Dj.nil
       replace F56 := F56.chg hc41 Dj.nil
       replace F57 := F57.chg hc41 notNil
       replace F58 := F58.chg hc41 notNil
       replace F59 := F59.chg hc41 Dj.nil
       replace F60 := F60.chg hc41 notNil
       replace F61 := F61.chg hc41 Dj.nil
       replace F62 := F62.chg hc41 notNil
       replace F63 := F63.chg hc41 Dj.nil
       replace hB := hB.inS hc41 inNil
       replace G26 := Nat.le_trans hZ G26
       replace G26 := low1 G26
       replace hZ := Nat.le_trans hZ hc41.size
       obtain ⟨_, hk1, hm⟩ := bindE hm
       replace hk1 := apE hk1
       refine wS_append (enc := encI) (l := (l7 : List (Int))) (l2 := (([y4] : List (Int)) : List (Int))) (d := 50) (t := 56) (T := 3) (A := A5) (A2 := (some ⟨b24, 0, none⟩)) (cap := cap5) (cap2 := 1) (by kernel_rfl) el56 encI_ok F63 (F64.sl encI_ok) (by rfl) hk1 ?_
       intro w45 fp5 A6 cap6 F65 hc42 hp1
       have G27 := low_ap G25 hZ hp1
       have D79 : Dj [b1] fp5 := Dj.ap D66 (lt1 F57.lt) hp1
       have D80 : Dj [b2] fp5 := Dj.ap D67 (lt1 F58.lt) hp1
       have D81 : Dj [b3] fp5 := Dj.ap D68 F59.low hp1
       have D82 : Dj [b4] fp5 := Dj.ap D69 (lt1 F60.lt) hp1
       have D83 : Dj (fp2 ++ fr2) fp5 := Dj.ap D70 F61.low hp1
       have D84 : Dj [b21] fp5 := Dj.ap D71 (lt1 F62.lt) hp1
       have D85 : Dj [b24] fp5 := Dj.ap (D78).symm F64.low hp1
       replace F54 := F54.chg hc42 (Dj.of L0_0 G25)
       replace F55 := F55.chg hc42 (Dj.of L0_1 G25)
       replace F56 := F56.chg hc42 (Dj.of Lg G25)
       replace F57 := F57.chg hc42 (dj1 D66)
       replace F58 := F58.chg hc42 (dj1 D67)
       replace F59 := F59.chg hc42 D68
       replace F60 := F60.chg hc42 (dj1 D69)
       replace F61 := F61.chg hc42 D70
       replace F62 := F62.chg hc42 (dj1 D71)
       replace F64 := F64.chg hc42 (D78).symm
       replace hB := hB.inS hc42 (inLow G25)
       replace hZ := Nat.le_trans hZ hc42.size
       refine wS_pure 1 [(9, .slice A6 (l7 ++ (([y4] : List (Int)))).length cap6)] (by kernel_rfl) ?_
       refine wS_end (by rfl) ?_
       refine eX_block ?_
       refine eX_then ?_
       refine cW_region ?_
       refine wS_pure 5 [(10, .int .i64 (andI x3 (wr (x3 - 1)))), (44, .int .i64 (andI x3 (wr (x3 - 1)))), (43, .int .i64 (wr (x3 - 1))), (42, .int .i64 (x3)), (41, .int .i64 (x3))] (by kernel_rfl) ?_
       refine wS_end (by rfl) ?_
       have hq : (some (Ctl.next ((l7 ++ (([y4] : List (Int))), andI x3 (wr (x3 - 1))))) : Option (Ctl ((List (Int)) × Int) ((List (Int))))) = some _ := hm
       replace hq := someE hq
       subst hq
       exact eX_next hx2 (fun hst => ⟨l7 ++ (([y4] : List (Int))), A6, cap6, fp5, andI x3 (wr (x3 - 1)), rfl, Fr.of hst (by kernel_rfl), F54, F55, F56, F57, F58, F59, F60, F61, F62, F65, G27, D79, D80, D81, D82, D83, D84, hB, hZ⟩)
      ·have hm := condF hb3 hm
       refine cW_exit ?_
       refine eX_then_exit ?_
       have hq : (some (Ctl.out l7) : Option (Ctl ((List (Int)) × Int) ((List (Int))))) = some _ := hm
       replace hq := someE hq
       subst hq
       refine eX_outX hx2 (fun hr3 => ?_)
       replace hr3 := hr3.symm
       subst hr3
       refine eX_block_hit ?_
       exact eX_J (fun hst => ⟨l7, A5, cap5, fp4, rfl, Fr.of hst (by kernel_rfl), F54, F55, F56, F57, F58, F59, F60, F61, F62, F63, G25, D66, D67, D68, D69, D70, D71, hB, hZ⟩)
     ·rintro a' w46 ⟨l6, A4, cap4, fp3, hJ, hF4, F66, F67, F68, F69, F70, F71, F72, F73, F74, F75, G28, D86, D87, D88, D89, D90, D91, hB, hZ⟩
      subst hJ
      refine Fr.goX hF4 (by kernel_rfl) ?_
      refine eX_then ?_
      refine cW_drawnTail (fp2 ++ fr2) 8 (by kernel_rfl) (by kernel_rfl) (fun w47 hc43 => ?_)
      replace F66 := F66.chg hc43 Dj.nil
      replace F67 := F67.chg hc43 Dj.nil
      replace F68 := F68.chg hc43 Dj.nil
      replace F69 := F69.chg hc43 notNil
      replace F70 := F70.chg hc43 notNil
      replace F71 := F71.chg hc43 Dj.nil
      replace F72 := F72.chg hc43 notNil
      replace F73 := F73.chg hc43 Dj.nil
      replace F74 := F74.chg hc43 notNil
      replace F75 := F75.chg hc43 Dj.nil
      replace hB := hB.inS hc43 inNil
      replace hZ := Nat.le_trans hZ hc43.size
      have hS := Chg.refl (fp2 ++ fr2) w47
      have Z13 := F66
      have Z14 := F67
      have Z15 := F68
      have Z16 := F69
      have Z17 := F70
      have Z18 := F71
      have Z19 := F72
      have Z20 := F73
      have Z21 := F74
      have Z22 := F75
      refine wH_take [0, 1] [1, 0] [(52, .slice A4 (l6).length cap4), (51, .slice A3 (l4).length cap3)] (by kernel_rfl) (qT (qB (qL (qB (qT (qT qZ)))))) (by kernel_rfl) ?_
      refine wH_load1 (i := 4) (d := 55) (T := 3) (ad := ⟨b4, 0, none⟩) (v := .int .i64 (x2)) (by kernel_rfl) (qT (qB (qL (qB (qT (qT qZ)))))) (by kernel_rfl) (by kernel_rfl) vt3 (fun W hW => (Z19.chg hW (dj1 D47)).cell 0) ?_
      refine wH_load1 (i := 5) (d := 56) (T := 3) (ad := ⟨b21, 0, none⟩) (v := .int .i64 (y3.1)) (by kernel_rfl) (qT (qB (qL (qB (qT (qT qZ)))))) (by kernel_rfl) (by kernel_rfl) vt3 (fun W hW => (Z21.chg hW (dj1 (D52).symm)).cell 0) ?_
      refine wH_take [6] [6, 5, 4, 1, 0] [(57, .int .i64 (andNI x2 y3.1))] (by kernel_rfl) (qT (qB (qL (qB (qT (qT qZ)))))) (by kernel_rfl) ?_
      refine wH_all [2] (by rfl) (by kernel_rfl) (by simp) ⟨⟨by kernel_rfl, ?_⟩, trivial⟩
      refine wS_row1 (k := 1) (enc := encI) (l := l6) (d := 53) (t := 54) (T := 56) (B := A4) (c := cap4) (by kernel_rfl) el54 F75 ?_
      intro b25 w48 G29 F76 hc44
      have D92 : Dj [b1] ([b25] ++ fp3) := Dj.app (Dj.of (lt1 F69.lt) (low1 G29)) D86
      have D93 : Dj [b2] ([b25] ++ fp3) := Dj.app (Dj.of (lt1 F70.lt) (low1 G29)) D87
      have D94 : Dj [b3] ([b25] ++ fp3) := Dj.app (Dj.of F71.low (low1 G29)) D88
      have D95 : Dj [b4] ([b25] ++ fp3) := Dj.app (Dj.of (lt1 F72.lt) (low1 G29)) D89
      have D96 : Dj (fp2 ++ fr2) ([b25] ++ fp3) := Dj.app (Dj.of F73.low (low1 G29)) D90
      have D97 : Dj [b21] ([b25] ++ fp3) := Dj.app (Dj.of (lt1 F74.lt) (low1 G29)) D91
      replace F66 := F66.chg hc44 Dj.nil
      replace F67 := F67.chg hc44 Dj.nil
      replace F68 := F68.chg hc44 Dj.nil
      replace F69 := F69.chg hc44 notNil
      replace F70 := F70.chg hc44 notNil
      replace F71 := F71.chg hc44 Dj.nil
      replace F72 := F72.chg hc44 notNil
      replace F73 := F73.chg hc44 Dj.nil
      replace F74 := F74.chg hc44 notNil
      replace F75 := F75.chg hc44 Dj.nil
      replace hB := hB.inS hc44 inNil
      have hSz := hS
      replace hS := hS.inS hc44 inNil
      replace G29 := Nat.le_trans hZ G29
      replace G29 := lowApp (low1 G29) G28
      replace hZ := Nat.le_trans hZ hc44.size
      replace F75 := (F75.sl encI_ok)
      refine wS_end (by kernel_rfl) ?_
      refine eX_KH hS ?_
      refine wH_all [3] (by rfl) (by kernel_rfl) (by simp) ⟨⟨by kernel_rfl, ?_⟩, trivial⟩
      obtain ⟨_, hk2, hm⟩ := bindE hm
      replace hk2 := apE hk2
      refine wS_appendR (k := 1) (enc := encI) (ll := (l4 : List (List (Int)))) (ll2 := (([l6] : List (List (Int))) : List (List (Int)))) (d := 54) (t := 54) (T := 56) (A := A3) (A2 := (some ⟨b25, 0, none⟩)) (cap := cap3) (cap2 := 1) (by kernel_rfl) el54 F73 F76 (by rfl) D96 hk2 ?_
      intro w49 fp6 A7 cap7 F77 hc45 hp2
      have G30 := lowApp (low_ap (low_inl G21) hZ hp2) (lowApp (low_inr G21) (low_inr G29))
      have D98 : Dj [b1] (fp6 ++ (fr2 ++ fp3)) := Dj.app (Dj.ap (Dj.inl D44) (lt1 F69.lt) hp2) (Dj.app (Dj.inr D44) (Dj.inr D92))
      have D99 : Dj [b2] (fp6 ++ (fr2 ++ fp3)) := Dj.app (Dj.ap (Dj.inl D45) (lt1 F70.lt) hp2) (Dj.app (Dj.inr D45) (Dj.inr D93))
      have D100 : Dj [b3] (fp6 ++ (fr2 ++ fp3)) := Dj.app (Dj.ap (Dj.inl D46) F71.low hp2) (Dj.app (Dj.inr D46) (Dj.inr D94))
      have D101 : Dj [b4] (fp6 ++ (fr2 ++ fp3)) := Dj.app (Dj.ap (Dj.inl D47) (lt1 F72.lt) hp2) (Dj.app (Dj.inr D47) (Dj.inr D95))
      have D102 : Dj [b21] (fp6 ++ (fr2 ++ fp3)) := Dj.app (Dj.ap (Dj.inl (D52).symm) (lt1 F74.lt) hp2) (Dj.app (Dj.inr (D52).symm) (Dj.inr D97))
      replace F66 := F66.chg hc45 (Dj.inl (Dj.of L0_0 G21))
      replace F67 := F67.chg hc45 (Dj.inl (Dj.of L0_1 G21))
      replace F68 := F68.chg hc45 (Dj.inl (Dj.of Lg G21))
      replace F69 := F69.chg hc45 (dj1 (Dj.inl D44))
      replace F70 := F70.chg hc45 (dj1 (Dj.inl D45))
      replace F71 := F71.chg hc45 (Dj.inl D46)
      replace F72 := F72.chg hc45 (dj1 (Dj.inl D47))
      replace F74 := F74.chg hc45 (dj1 (Dj.inl (D52).symm))
      replace hB := hB.inS hc45 (memS_inl (inLow G21))
      have hSz := hS
      replace hS := hS.trans (hc45.more (fun x hx => List.mem_append_left _ hx))
      replace hZ := Nat.le_trans hZ hc45.size
      refine wS_end (by kernel_rfl) ?_
      refine eX_KH hS ?_
      refine wH_take [7] [7, 3, 2, 6, 5, 4, 1, 0] [(6, .slice A7 (l4 ++ (([l6] : List (List (Int))))).length cap7)] (by kernel_rfl) (qT (qB (qL (qB (qT (qT qZ)))))) (by kernel_rfl) ?_
      refine wH_done (by kernel_rfl) ?_
      refine eX_tail ?_
      refine wS_store (T := 3) (g := b4) (o := 0) (ad := ⟨b4, 0, none⟩) (v := .int .i64 (andNI x2 y3.1)) (vs := [.int .i64 (andNI x2 y3.1)]) (by kernel_rfl) (by rfl) sz3 (by rfl) (by rfl) F72 (by simp only [List.length_cons, List.length_nil]; omega) ?_
      intro w50 F78 hc46
      replace F66 := F66.chg hc46 (Dj.of L0_0 (low1 G19))
      replace F67 := F67.chg hc46 (Dj.of L0_1 (low1 G19))
      replace F68 := F68.chg hc46 (Dj.of Lg (low1 G19))
      replace F69 := F69.chg hc46 (dj1 D39)
      replace F70 := F70.chg hc46 (dj1 (D36).symm)
      replace F71 := F71.chg hc46 (D38).symm
      replace F74 := F74.chg hc46 (dj1 (D51).symm)
      replace F77 := F77.chg hc46 (D101).symm
      replace hB := hB.inS hc46 (inLow (low1 G19))
      replace hZ := Nat.le_trans hZ hc46.size
      replace F78 : Cl w50 b4 3 [.int .i64 (andNI x2 y3.1)] := F78
      clear F72
      refine wS_end (by rfl) ?_
      refine eX_block ?_
      have hq : (some (Ctl.next ((l4 ++ (([l6] : List (List (Int)))), y3.2, andNI x2 y3.1))) : Option (Ctl ((List (List (Int))) × (List (Int × Int)) × Int) ((List (List (Int)))))) = some _ := hm
      replace hq := someE hq
      subst hq
      exact eX_next hx1 (fun hst => ⟨l4 ++ (([l6] : List (List (Int)))), A7, cap7, fp6, (fr2 ++ fp3), y3.2, andNI x2 y3.1, rfl, Fr.of hst (by kernel_rfl), F66, F67, F68, F69, F70, F71, F78, F77, G30, D98, D99, D100, D101, hB, hZ⟩)
    ·have hm := condF hb2 hm
     refine cW_exit ?_
     refine eX_then_exit ?_
     have hq : (some (Ctl.out l4) : Option (Ctl ((List (List (Int))) × (List (Int × Int)) × Int) ((List (List (Int)))))) = some _ := hm
     replace hq := someE hq
     subst hq
     refine eX_outX hx1 (fun hr4 => ?_)
     replace hr4 := hr4.symm
     subst hr4
     refine eX_block_hit ?_
     exact eX_J (fun hst => ⟨l4, A3, cap3, fp2, fr2, rfl, Fr.of hst (by kernel_rfl), F40, F45, G21, hB, hZ⟩)
   ·rintro a' w51 ⟨l3, A1, cap1, fp1, fr1, hJ, hF5, F79, F80, G31, hB, hZ⟩
    subst hJ
    refine Fr.goX hF5 (by kernel_rfl) ?_
    refine eX_then ?_
    refine cW_seq ?_
    refine cW_region ?_
    refine wS_pure 3 [(3, .bool (true)), (2, .slice A1 (l3).length cap1), (58, .slice A1 (l3).length cap1)] (by kernel_rfl) ?_
    refine wS_end (by rfl) ?_
    refine eX_then ?_
    refine cW_ret ?_
    have hq : (some ((l3, true)) : Option ((List (List (Int))) × (Bool))) = some _ := hm
    replace hq := someE hq
    subst hq
    refine eX_ret (vs := [.slice A1 (l3).length cap1, .bool (true)]) [.tmp 2, .tmp 3] (by rfl) ⟨by (show lkE _ _ _ = _); kernel_rfl, ⟨by (show lkE _ _ _ = _); kernel_rfl, trivial⟩⟩ ?_
    exact ⟨A1, cap1, fp1, fr1, rfl, F80, G31, hB⟩

set_option maxRecDepth 100000 in
/-- impl.Channel).columns -/
theorem c_impl_Channel_columns_bimplChannel {w0 : World} {l0_0 : List (Int)} {A0_0 : Option Addr} {cap0_0 : Nat} {fp0_0 : List Nat} {l0_1 : List (Int)} {A0_1 : Option Addr} {cap0_1 : Nat} {fp0_1 : List Nat} {b0 : Nat} {p1 : Int} {r : (List (Int))} (hm : m_impl_Channel_columns_bimplChannel l0_0 l0_1 p1 = some r) (F0_0 : Sl 1 encI w0 fp0_0 A0_0 l0_0) (F0_1 : Sl 1 encI w0 fp0_1 A0_1 l0_1) (F0 : Cl w0 b0 26 [.slice A0_0 (l0_0).length cap0_0, .slice A0_1 (l0_1).length cap0_1]) :
  Calls Tryd.prog 73 #[.pointer (some ⟨b0, 0, none⟩), .int .i64 (p1)] w0 fun e w' => ∃ A100 cap100 fp100, e = .returned (.slice A100 (r).length cap100) ∧ Ow 1 encI 2 w' fp100 A100 cap100 r ∧ (∀ x ∈ fp100, w0.heap.size ≤ x) ∧ Chg [] w0 w' := by
 have L0_0 := F0_0.low
 have L0_1 := F0_1.low
 have L0 := lt1 F0.lt
 have hB : Chg [] w0 w0 := Chg.refl _ _
 have hZ := Nat.le_refl w0.heap.size
 unfold m_impl_Channel_columns_bimplChannel at hm
 refine enterE (N := 42) Tryd.func73 (by rfl) Tryd.ntmps73 (by simp) [(0, .pointer (some ⟨b0, 0, none⟩)), (1, .int .i64 (p1))] (by rfl) (by kernel_rfl) (fun a => ?_)
 refine cW_seq ?_
 refine cW_region ?_
 refine wS_pure 1 [(4, .slice none 0 0)] (by kernel_rfl) ?_
 refine wS_end (by rfl) ?_
 refine eX_then ?_
 refine cW_seq ?_
 refine cW_region ?_
 refine wS_bs0 (α := Int) (enc := encI) (d := 7) (t := 24) (T := 2) (by kernel_rfl) el24 ?_
 intro b1 w1 G1 F1 hc1
 replace F0_0 := F0_0.chg hc1 Dj.nil
 replace F0_1 := F0_1.chg hc1 Dj.nil
 replace F0 := F0.chg hc1 notNil
 replace hB := hB.inS hc1 inNil
 replace G1 := Nat.le_trans hZ G1
 replace G1 := low1 G1
 replace hZ := Nat.le_trans hZ hc1.size
 refine wS_pure 1 [(5, .slice (some ⟨b1, 0, none⟩) (([] : List (Int))).length 0)] (by kernel_rfl) ?_
 refine wS_end (by rfl) ?_
 refine eX_then ?_
 refine cW_seq ?_
 refine cW_seq ?_
 refine cW_region ?_
 refine wS_pure 3 [(10, .pointer (some ⟨b0, 0, none⟩)), (9, .pointer (some ⟨b0, 0, none⟩)), (8, .pointer (some ⟨b0, 0, none⟩))] (by kernel_rfl) ?_
 refine wS_load1 (d := 11) (T := 24) (ad := ⟨b0, 0, none⟩) (v := .slice A0_0 (l0_0).length cap0_0) (by kernel_rfl) vt24 ((F0).cell 0) ?_
 refine wS_pure 2 [(13, .int .i64 (0)), (12, .int .i64 (((l0_0).length : Int)))] (by kernel_rfl) ?_
 refine wS_end (by rfl) ?_
 refine eX_then ?_
 obtain ⟨r1, hr1, hm⟩ := bindE hm
 have hm1 := hm
 refine cW_cut (fun a' w' => ∃ l1 : List (Int), ∃ A1 : Option Addr, ∃ cap1 : Nat, ∃ fp1 : List Nat, l1 = r1 ∧ Fr 42 [(5, .slice A1 (l1).length cap1)] a' ∧ Ow 1 encI 2 w' fp1 A1 cap1 l1 ∧ (∀ x ∈ fp1, w0.heap.size ≤ x) ∧ Chg [] w0 w' ∧ w0.heap.size ≤ w'.heap.size) ?_ ?_
 ·refine cW_block ?_
  refine cW_loop _ (fun (s1 : (List (Int)) × Int) a' w' => ∃ l3 : List (Int), ∃ A3 : Option Addr, ∃ cap3 : Nat, ∃ fp2 : List Nat, ∃ x1 : Int, (l3, x1) = s1 ∧ Fr 42 [(0, .pointer (some ⟨b0, 0, none⟩)), (1, .int .i64 (p1)), (5, .slice A3 (l3).length cap3), (12, .int .i64 (((l0_0).length : Int))), (13, .int .i64 (x1))] a' ∧ Sl 1 encI w' fp0_0 A0_0 l0_0 ∧ Sl 1 encI w' fp0_1 A0_1 l0_1 ∧ Cl w' b0 26 [.slice A0_0 (l0_0).length cap0_0, .slice A0_1 (l0_1).length cap0_1] ∧ Ow 1 encI 2 w' fp2 A3 cap3 l3 ∧ (∀ x ∈ fp2, w0.heap.size ≤ x) ∧ Chg [] w0 w' ∧ w0.heap.size ≤ w'.heap.size) hr1 (fun hst => ⟨([] : List (Int)), (some ⟨b1, 0, none⟩), 0, [b1], 0, rfl, Fr.of hst (by kernel_rfl), F0_0, F0_1, F0, F1, G1, hB, hZ⟩) ?_
  rintro _ c1 a' w2 ⟨l3, A3, cap3, fp2, x1, rfl, hF1, F2, F3, F4, F5, G2, hB, hZ⟩ hx1
  refine Fr.goOn hF1 (by kernel_rfl) ?_
  have hm := hx1
  unfold m_impl_Channel_columns_bimplChannel_s1 at hm
  refine cW_seq ?_
  refine cW_region ?_
  refine wS_pure 1 [(14, .bool (decide (x1 < (((l0_0).length : Int)))))] (by kernel_rfl) ?_
  refine wS_end (by rfl) ?_
  refine eX_then ?_
  refine cW_seq ?_
  refine cW_cond (t := decide (x1 < (((l0_0).length : Int)))) (by kernel_rfl) (fun hb1 => ?_) (fun hb1 => ?_)
  ·have hm := condT hb1 hm
   refine cW_skip ?_
   refine eX_then ?_
   refine cW_seq ?_
   refine cW_block ?_
   obtain ⟨s2, hs1, hm⟩ := bindE hm
   refine cW_cut (fun a' w' => ∃ l4 : List (Int), ∃ A4 : Option Addr, ∃ cap4 : Nat, ∃ fp3 : List Nat, l4 = s2 ∧ Fr 42 [(0, .pointer (some ⟨b0, 0, none⟩)), (1, .int .i64 (p1)), (5, .slice A4 (l4).length cap4), (12, .int .i64 (((l0_0).length : Int))), (13, .int .i64 (x1))] a' ∧ Sl 1 encI w' fp0_0 A0_0 l0_0 ∧ Sl 1 encI w' fp0_1 A0_1 l0_1 ∧ Cl w' b0 26 [.slice A0_0 (l0_0).length cap0_0, .slice A0_1 (l0_1).length cap0_1] ∧ Ow 1 encI 2 w' fp3 A4 cap4 l4 ∧ (∀ x ∈ fp3, w0.heap.size ≤ x) ∧ Chg [] w0 w' ∧ w0.heap.size ≤ w'.heap.size) ?_ ?_
   ·have hm := hs1
    refine cW_seq ?_
    refine cW_region ?_
    refine wS_pure 2 [(6, .int .i64 (x1)), (15, .int .i64 (x1))] (by kernel_rfl) ?_
    refine wS_end (by rfl) ?_
    refine eX_then ?_
    refine cW_seq ?_
    refine cW_region ?_
    refine wS_pure 3 [(18, .pointer (some ⟨b0, 0, none⟩)), (17, .pointer (some ⟨b0, 0, none⟩)), (16, .pointer (some ⟨b0, 0, none⟩))] (by kernel_rfl) ?_
    refine wS_load1 (d := 19) (T := 24) (ad := ⟨b0, 0, none⟩) (v := .slice A0_0 (l0_0).length cap0_0) (by kernel_rfl) vt24 ((F4).cell 0) ?_
    refine wS_pure 1 [(20, .int .i64 (x1))] (by kernel_rfl) ?_
    obtain ⟨x2, hx2, hm⟩ := bindE hm
    refine wS_idx (d := 21) (T := 24) (A := A0_0) (n := (l0_0).length) (cap := cap0_0) (kd := .i64) (m := x1) (by kernel_rfl) sl24 (F2.is hx2) ?_
    refine wS_load1 (d := 22) (T := 2) (ad := (elA A0_0 1 (x1) 0)) (v := .int .i64 (x2)) (by kernel_rfl) vt2 (Sl.cell F2 hx2 0 (by rfl)) ?_
    refine wS_pure 3 [(25, .bool (x2 == p1)), (24, .bool (x2 == p1)), (23, .int .i64 (p1))] (by kernel_rfl) ?_
    refine wS_bool (x2 == p1) (fun hb2 => ?_) (fun hb2 => ?_)
    ·have hm := condT hb2 hm
     rewrite [hb2]
     refine wS_pure 10 [(35, .bool (true)), (34, undef), (33, undef), (32, undef), (31, undef), (30, undef), (29, undef), (28, undef), (27, undef), (26, undef)] (by kernel_rfl) ?_
     refine wS_end (by rfl) ?_
     refine eX_then ?_
     refine cW_prune [(0, .pointer (some ⟨b0, 0, none⟩)), (1, .int .i64 (p1)), (5, .slice A3 (l3).length cap3), (6, .int .i64 (x1)), (12, .int .i64 (((l0_0).length : Int))), (13, .int .i64 (x1)), (35, .bool (true))] (by kernel_rfl) (by kernel_rfl) (fun a1 => ?_)
     refine cW_cond_t (by kernel_rfl) ?_
     refine cW_region ?_
     refine wS_pure 2 [(37, .int .i64 (x1)), (36, .slice A3 (l3).length cap3)] (by kernel_rfl) ?_
     refine wS_bs (enc := encI) ([x1] : List (Int)) [.int .i64 (x1)] (d := 38) (t := 24) (T := 2) (n := 1) (ps := [(0, .int .i64 (x1))]) (by kernel_rfl) el24 encI_ok (by rfl) (by omega) (by omega) (by kernel_rfl) (by rfl) ?_
     intro b2 w3 G3 F6 hc2
     have D1 : Dj fp2 [b2] := Dj.of F5.low (low1 G3)
     replace F2 := F2.chg hc2 Dj.nil
     replace F3 := F3.chg hc2 Dj.nil
     replace F4 := F4.chg hc2 notNil
     replace F5 := F5.chg hc2 Dj.nil
     replace hB := hB.inS hc2 inNil
     replace G3 := Nat.le_trans hZ G3
     replace G3 := low1 G3
     replace hZ := Nat.le_trans hZ hc2.size
     obtain ⟨_, hk1, hm⟩ := bindE hm
     replace hk1 := apE hk1
     refine wS_append (enc := encI) (l := (l3 : List (Int))) (l2 := (([x1] : List (Int)) : List (Int))) (d := 39) (t := 24) (T := 2) (A := A3) (A2 := (some ⟨b2, 0, none⟩)) (cap := cap3) (cap2 := 1) (by kernel_rfl) el24 encI_ok F5 (F6.sl encI_ok) (by rfl) hk1 ?_
     intro w4 fp4 A5 cap5 F7 hc3 hp1
     have G4 := low_ap G2 hZ hp1
     have D2 : Dj [b2] fp4 := Dj.ap (D1).symm F6.low hp1
     replace F2 := F2.chg hc3 (Dj.of L0_0 G2)
     replace F3 := F3.chg hc3 (Dj.of L0_1 G2)
     replace F4 := F4.chg hc3 (dj1 (Dj.of L0 G2))
     replace F6 := F6.chg hc3 (D1).symm
     replace hB := hB.inS hc3 (inLow G2)
     replace hZ := Nat.le_trans hZ hc3.size
     refine wS_pure 1 [(5, .slice A5 (l3 ++ (([x1] : List (Int)))).length cap5)] (by kernel_rfl) ?_
     refine wS_end (by rfl) ?_
     have hq : (some (l3 ++ (([x1] : List (Int)))) : Option ((List (Int)))) = some _ := hm
     replace hq := someE hq
     subst hq
     exact eX_J (fun hst => ⟨l3 ++ (([x1] : List (Int))), A5, cap5, fp4, rfl, Fr.of hst (by kernel_rfl), F2, F3, F4, F7, G4, hB, hZ⟩)
    ·have hm := condF hb2 hm
     rewrite [hb2]
     refine wS_pure 3 [(28, .pointer (some ⟨b0, 1, none⟩)), (27, .pointer (some ⟨b0, 0, none⟩)), (26, .pointer (some ⟨b0, 0, none⟩))] (by kernel_rfl) ?_
     refine wS_load1 (d := 29) (T := 24) (ad := ⟨b0, 1, none⟩) (v := .slice A0_1 (l0_1).length cap0_1) (by kernel_rfl) vt24 ((F4).cell 1) ?_
     refine wS_pure 1 [(30, .int .i64 (x1))] (by kernel_rfl) ?_
     obtain ⟨x3, hx3, hm⟩ := bindE hm
     refine wS_idx (d := 31) (T := 24) (A := A0_1) (n := (l0_1).length) (cap := cap0_1) (kd := .i64) (m := x1) (by kernel_rfl) sl24 (F3.is hx3) ?_
     refine wS_load1 (d := 32) (T := 2) (ad := (elA A0_1 1 (x1) 0)) (v := .int .i64 (x3)) (by kernel_rfl) vt2 (Sl.cell F3 hx3 0 (by rfl)) ?_
     refine wS_pure 3 [(35, .bool (x3 == p1)), (34, .bool (x3 == p1)), (33, .int .i64 (p1))] (by kernel_rfl) ?_
     refine wS_end (by rfl) ?_
     refine eX_then ?_
     refine cW_prune [(0, .pointer (some ⟨b0, 0, none⟩)), (1, .int .i64 (p1)), (5, .slice A3 (l3).length cap3), (6, .int .i64 (x1)), (12, .int .i64 (((l0_0).length : Int))), (13, .int .i64 (x1)), (35, .bool (x3 == p1))] (by kernel_rfl) (by kernel_rfl) (fun a2 => ?_)
     refine cW_cond (t := x3 == p1) (by kernel_rfl) (fun hb3 => ?_) (fun hb3 => ?_)
     ·have hm := condT hb3 hm
      refine cW_region ?_
      refine wS_pure 2 [(37, .int .i64 (x1)), (36, .slice A3 (l3).length cap3)] (by kernel_rfl) ?_
      refine wS_bs (enc := encI) ([x1] : List (Int)) [.int .i64 (x1)] (d := 38) (t := 24) (T := 2) (n := 1) (ps := [(0, .int .i64 (x1))]) (by kernel_rfl) el24 encI_ok (by rfl) (by omega) (by omega) (by kernel_rfl) (by rfl) ?_
      intro b3 w5 G5 F8 hc4
      have D3 : Dj fp2 [b3] := Dj.of F5.low (low1 G5)
      replace F2 := F2.chg hc4 Dj.nil
      replace F3 := F3.chg hc4 Dj.nil
      replace F4 := F4.chg hc4 notNil
      replace F5 := F5.chg hc4 Dj.nil
      replace hB := hB.inS hc4 inNil
      replace G5 := Nat.le_trans hZ G5
      replace G5 := low1 G5
      replace hZ := Nat.le_trans hZ hc4.size
      obtain ⟨_, hk2, hm⟩ := bindE hm
      replace hk2 := apE hk2
      refine wS_append (enc := encI) (l := (l3 : List (Int))) (l2 := (([x1] : List (Int)) : List (Int))) (d := 39) (t := 24) (T := 2) (A := A3) (A2 := (some ⟨b3, 0, none⟩)) (cap := cap3) (cap2 := 1) (by kernel_rfl) el24 encI_ok F5 (F8.sl encI_ok) (by rfl) hk2 ?_
      intro w6 fp5 A6 cap6 F9 hc5 hp2
      have G6 := low_ap G2 hZ hp2
      have D4 : Dj [b3] fp5 := Dj.ap (D3).symm F8.low hp2
      replace F2 := F2.chg hc5 (Dj.of L0_0 G2)
      replace F3 := F3.chg hc5 (Dj.of L0_1 G2)
      replace F4 := F4.chg hc5 (dj1 (Dj.of L0 G2))
      replace F8 := F8.chg hc5 (D3).symm
      replace hB := hB.inS hc5 (inLow G2)
      replace hZ := Nat.le_trans hZ hc5.size
      refine wS_pure 1 [(5, .slice A6 (l3 ++ (([x1] : List (Int)))).length cap6)] (by kernel_rfl) ?_
      refine wS_end (by rfl) ?_
      have hq : (some (l3 ++ (([x1] : List (Int)))) : Option ((List (Int)))) = some _ := hm
      replace hq := someE hq
      subst hq
      exact eX_J (fun hst => ⟨l3 ++ (([x1] : List (Int))), A6, cap6, fp5, rfl, Fr.of hst (by kernel_rfl), F2, F3, F4, F9, G6, hB, hZ⟩)
     ·have hm := condF hb3 hm
      refine cW_skip ?_
      have hq : (some l3 : Option ((List (Int)))) = some _ := hm
      replace hq := someE hq
      subst hq
      exact eX_J (fun hst => ⟨l3, A3, cap3, fp2, rfl, Fr.of hst (by kernel_rfl), F2, F3, F4, F5, G2, hB, hZ⟩)
   ·rintro a' w7 ⟨l4, A4, cap4, fp3, hJ, hF2, F10, F11, F12, F13, G7, hB, hZ⟩
    subst hJ
    refine Fr.goX hF2 (by kernel_rfl) ?_
    refine eX_block ?_
    refine eX_then ?_
    refine cW_region ?_
    refine wS_pure 2 [(13, .int .i64 (wr (x1 + 1))), (40, .int .i64 (wr (x1 + 1)))] (by kernel_rfl) ?_
    refine wS_end (by rfl) ?_
    have hq : (some (Ctl.next ((l4, wr (x1 + 1)))) : Option (Ctl ((List (Int)) × Int) ((List (Int))))) = some _ := hm
    replace hq := someE hq
    subst hq
    exact eX_next hx1 (fun hst => ⟨l4, A4, cap4, fp3, wr (x1 + 1), rfl, Fr.of hst (by kernel_rfl), F10, F11, F12, F13, G7, hB, hZ⟩)
  ·have hm := condF hb1 hm
   refine cW_exit ?_
   refine eX_then_exit ?_
   have hq : (some (Ctl.out l3) : Option (Ctl ((List (Int)) × Int) ((List (Int))))) = some _ := hm
   replace hq := someE hq
   subst hq
   refine eX_outX hx1 (fun hr2 => ?_)
   replace hr2 := hr2.symm
   subst hr2
   refine eX_block_hit ?_
   exact eX_J (fun hst => ⟨l3, A3, cap3, fp2, rfl, Fr.of hst (by kernel_rfl), F5, G2, hB, hZ⟩)
 ·rintro a' w8 ⟨l1, A1, cap1, fp1, hJ, hF3, F14, G8, hB, hZ⟩
  subst hJ
  refine Fr.goX hF3 (by kernel_rfl) ?_
  refine eX_then ?_
  refine cW_seq ?_
  refine cW_region ?_
  refine wS_pure 2 [(4, .slice A1 (l1).length cap1), (41, .slice A1 (l1).length cap1)] (by kernel_rfl) ?_
  refine wS_end (by rfl) ?_
  refine eX_then ?_
  refine cW_ret ?_
  have hq : (some l1 : Option ((List (Int)))) = some _ := hm
  replace hq := someE hq
  subst hq
  refine eX_ret (vs := [.slice A1 (l1).length cap1]) [.tmp 4] (by rfl) ⟨by (show lkE _ _ _ = _); kernel_rfl, trivial⟩ ?_
  exact ⟨A1, cap1, fp1, rfl, F14, G8, hB⟩

set_option maxRecDepth 100000 in
/-- impl.Channel).nets -/
theorem c_impl_Channel_nets_bimplChannel {w0 : World} {l0_0 : List (Int)} {A0_0 : Option Addr} {cap0_0 : Nat} {fp0_0 : List Nat} {l0_1 : List (Int)} {A0_1 : Option Addr} {cap0_1 : Nat} {fp0_1 : List Nat} {b0 : Nat} {r : (List (Int))} (hm : m_impl_Channel_nets_bimplChannel l0_0 l0_1 = some r) (F0_0 : Sl 1 encI w0 fp0_0 A0_0 l0_0) (F0_1 : Sl 1 encI w0 fp0_1 A0_1 l0_1) (F0 : Cl w0 b0 26 [.slice A0_0 (l0_0).length cap0_0, .slice A0_1 (l0_1).length cap0_1]) :
  Calls Tryd.prog 39 #[.pointer (some ⟨b0, 0, none⟩)] w0 fun e w' => ∃ A100 cap100 fp100, e = .returned (.slice A100 (r).length cap100) ∧ Ow 1 encI 2 w' fp100 A100 cap100 r ∧ (∀ x ∈ fp100, w0.heap.size ≤ x) ∧ Chg [] w0 w' := by
 have L0_0 := F0_0.low
 have L0_1 := F0_1.low
 have L0 := lt1 F0.lt
 have hB : Chg [] w0 w0 := Chg.refl _ _
 have hZ := Nat.le_refl w0.heap.size
 unfold m_impl_Channel_nets_bimplChannel at hm
 refine enterE (N := 20) Tryd.func39 (by rfl) Tryd.ntmps39 (by simp) [(0, .pointer (some ⟨b0, 0, none⟩))] (by rfl) (by kernel_rfl) (fun a => ?_)
 refine cW_seq ?_
 refine cW_region ?_
 refine wS_pure 1 [(2, .slice none 0 0)] (by kernel_rfl) ?_
 refine wS_end (by rfl) ?_
 refine eX_then ?_
 refine cW_seq ?_
 refine cW_region ?_
 refine wS_bs0 (α := Int) (enc := encI) (d := 5) (t := 24) (T := 2) (by kernel_rfl) el24 ?_
 intro b1 w1 G1 F1 hc1
 replace F0_0 := F0_0.chg hc1 Dj.nil
 replace F0_1 := F0_1.chg hc1 Dj.nil
 replace F0 := F0.chg hc1 notNil
 replace hB := hB.inS hc1 inNil
 replace G1 := Nat.le_trans hZ G1
 replace G1 := low1 G1
 replace hZ := Nat.le_trans hZ hc1.size
 refine wS_pure 1 [(3, .slice (some ⟨b1, 0, none⟩) (([] : List (Int))).length 0)] (by kernel_rfl) ?_
 refine wS_end (by rfl) ?_
 refine eX_then ?_
 refine cW_seq ?_
 refine cW_seq ?_
 refine cW_region ?_
 refine wS_pure 1 [(4, .int .i64 (1))] (by kernel_rfl) ?_
 refine wS_end (by rfl) ?_
 refine eX_then ?_
 obtain ⟨r1, hr1, hm⟩ := bindE hm
 have hm1 := hm
 refine cW_cut (fun a' w' => ∃ l1 : List (Int), ∃ A1 : Option Addr, ∃ cap1 : Nat, ∃ fp1 : List Nat, l1 = r1 ∧ Fr 20 [(3, .slice A1 (l1).length cap1)] a' ∧ Ow 1 encI 2 w' fp1 A1 cap1 l1 ∧ (∀ x ∈ fp1, w0.heap.size ≤ x) ∧ Chg [] w0 w' ∧ w0.heap.size ≤ w'.heap.size) ?_ ?_
 ·refine cW_block ?_
  refine cW_loop _ (fun (s1 : (List (Int)) × Int) a' w' => ∃ l3 : List (Int), ∃ A3 : Option Addr, ∃ cap3 : Nat, ∃ fp2 : List Nat, ∃ x1 : Int, (l3, x1) = s1 ∧ Fr 20 [(0, .pointer (some ⟨b0, 0, none⟩)), (3, .slice A3 (l3).length cap3), (4, .int .i64 (x1))] a' ∧ Sl 1 encI w' fp0_0 A0_0 l0_0 ∧ Sl 1 encI w' fp0_1 A0_1 l0_1 ∧ Cl w' b0 26 [.slice A0_0 (l0_0).length cap0_0, .slice A0_1 (l0_1).length cap0_1] ∧ Ow 1 encI 2 w' fp2 A3 cap3 l3 ∧ (∀ x ∈ fp2, w0.heap.size ≤ x) ∧ Chg [] w0 w' ∧ w0.heap.size ≤ w'.heap.size) hr1 (fun hst => ⟨([] : List (Int)), (some ⟨b1, 0, none⟩), 0, [b1], 1, rfl, Fr.of hst (by kernel_rfl), F0_0, F0_1, F0, F1, G1, hB, hZ⟩) ?_
  rintro _ c1 a' w2 ⟨l3, A3, cap3, fp2, x1, rfl, hF1, F2, F3, F4, F5, G2, hB, hZ⟩ hx1
  refine Fr.goOn hF1 (by kernel_rfl) ?_
  have hm := hx1
  unfold m_impl_Channel_nets_bimplChannel_s1 at hm
  refine cW_seq ?_
  refine cW_seq ?_
  refine cW_region ?_
  refine wS_pure 2 [(7, .bool (decide (x1 ≤ 12))), (6, .int .i64 (x1))] (by kernel_rfl) ?_
  refine wS_end (by rfl) ?_
  refine eX_then ?_
  refine cW_cond (t := decide (x1 ≤ 12)) (by kernel_rfl) (fun hb1 => ?_) (fun hb1 => ?_)
  ·have hm := condT hb1 hm
   refine cW_skip ?_
   refine eX_then ?_
   refine cW_seq ?_
   refine cW_block ?_
   obtain ⟨s2, hs1, hm⟩ := bindE hm
   refine cW_cut (fun a' w' => ∃ l4 : List (Int), ∃ A4 : Option Addr, ∃ cap4 : Nat, ∃ fp3 : List Nat, l4 = s2 ∧ Fr 20 [(0, .pointer (some ⟨b0, 0, none⟩)), (3, .slice A4 (l4).length cap4), (4, .int .i64 (x1))] a' ∧ Sl 1 encI w' fp0_0 A0_0 l0_0 ∧ Sl 1 encI w' fp0_1 A0_1 l0_1 ∧ Cl w' b0 26 [.slice A0_0 (l0_0).length cap0_0, .slice A0_1 (l0_1).length cap0_1] ∧ Ow 1 encI 2 w' fp3 A4 cap4 l4 ∧ (∀ x ∈ fp3, w0.heap.size ≤ x) ∧ Chg [] w0 w' ∧ w0.heap.size ≤ w'.heap.size) ?_ ?_
   ·have hm := hs1
    refine cW_seq ?_
    refine cW_region ?_
    refine wS_pure 2 [(11, .int .i64 (x1)), (10, .pointer (some ⟨b0, 0, none⟩))] (by kernel_rfl) ?_
    obtain ⟨y1, hy1, hm⟩ := bindE hm
    refine wS_calls (d := 12) (f := 73) (vs := [.pointer (some ⟨b0, 0, none⟩), .int .i64 (x1)]) (by kernel_rfl) ent73 (c_impl_Channel_columns_bimplChannel hy1 F2 F3 F4) ?_
    rintro _ w3 ⟨A5, cap5, fp4, rfl, F6, G3, hc2⟩
    have D1 : Dj fp2 fp4 := Dj.of F5.low G3
    replace F2 := F2.chg hc2 Dj.nil
    replace F3 := F3.chg hc2 Dj.nil
    replace F4 := F4.chg hc2 notNil
    replace F5 := F5.chg hc2 Dj.nil
    replace hB := hB.inS hc2 inNil
    replace G3 := low_le hZ G3
    replace hZ := Nat.le_trans hZ hc2.size
    refine ⟨.slice A5 (y1).length cap5, rfl, ?_⟩
    refine wS_pure 2 [(14, .bool (decide ((((y1).length : Int)) > 1))), (13, .int .i64 (((y1).length : Int)))] (by kernel_rfl) ?_
    refine wS_end (by rfl) ?_
    refine eX_then ?_
    refine cW_cond (t := decide ((((y1).length : Int)) > 1)) (by kernel_rfl) (fun hb2 => ?_) (fun hb2 => ?_)
    ·have hm := condT hb2 hm
     refine cW_region ?_
     refine wS_pure 2 [(16, .int .i64 (x1)), (15, .slice A3 (l3).length cap3)] (by kernel_rfl) ?_
     refine wS_bs (enc := encI) ([x1] : List (Int)) [.int .i64 (x1)] (d := 17) (t := 24) (T := 2) (n := 1) (ps := [(0, .int .i64 (x1))]) (by kernel_rfl) el24 encI_ok (by rfl) (by omega) (by omega) (by kernel_rfl) (by rfl) ?_
     intro b2 w4 G4 F7 hc3
     have D2 : Dj fp2 [b2] := Dj.of F5.low (low1 G4)
     have D3 : Dj fp4 [b2] := Dj.of F6.low (low1 G4)
     replace F2 := F2.chg hc3 Dj.nil
     replace F3 := F3.chg hc3 Dj.nil
     replace F4 := F4.chg hc3 notNil
     replace F5 := F5.chg hc3 Dj.nil
     replace F6 := F6.chg hc3 Dj.nil
     replace hB := hB.inS hc3 inNil
     replace G4 := Nat.le_trans hZ G4
     replace G4 := low1 G4
     replace hZ := Nat.le_trans hZ hc3.size
     obtain ⟨_, hk1, hm⟩ := bindE hm
     replace hk1 := apE hk1
     refine wS_append (enc := encI) (l := (l3 : List (Int))) (l2 := (([x1] : List (Int)) : List (Int))) (d := 18) (t := 24) (T := 2) (A := A3) (A2 := (some ⟨b2, 0, none⟩)) (cap := cap3) (cap2 := 1) (by kernel_rfl) el24 encI_ok F5 (F7.sl encI_ok) (by rfl) hk1 ?_
     intro w5 fp5 A6 cap6 F8 hc4 hp1
     have G5 := low_ap G2 hZ hp1
     have D4 : Dj fp4 fp5 := Dj.ap (D1).symm F6.low hp1
     have D5 : Dj [b2] fp5 := Dj.ap (D2).symm F7.low hp1
     replace F2 := F2.chg hc4 (Dj.of L0_0 G2)
     replace F3 := F3.chg hc4 (Dj.of L0_1 G2)
     replace F4 := F4.chg hc4 (dj1 (Dj.of L0 G2))
     replace F6 := F6.chg hc4 (D1).symm
     replace F7 := F7.chg hc4 (D2).symm
     replace hB := hB.inS hc4 (inLow G2)
     replace hZ := Nat.le_trans hZ hc4.size
     refine wS_pure 1 [(3, .slice A6 (l3 ++ (([x1] : List (Int)))).length cap6)] (by kernel_rfl) ?_
     refine wS_end (by rfl) ?_
     have hq : (some (l3 ++ (([x1] : List (Int)))) : Option ((List (Int)))) = some _ := hm
     replace hq := someE hq
     subst hq
     exact eX_J (fun hst => ⟨l3 ++ (([x1] : List (Int))), A6, cap6, fp5, rfl, Fr.of hst (by kernel_rfl), F2, F3, F4, F8, G5, hB, hZ⟩)
    ·have hm := condF hb2 hm
     refine cW_skip ?_
     have hq : (some l3 : Option ((List (Int)))) = some _ := hm
     replace hq := someE hq
     subst hq
     exact eX_J (fun hst => ⟨l3, A3, cap3, fp2, rfl, Fr.of hst (by kernel_rfl), F2, F3, F4, F5, G2, hB, hZ⟩)
   ·rintro a' w6 ⟨l4, A4, cap4, fp3, hJ, hF2, F9, F10, F11, F12, G6, hB, hZ⟩
    subst hJ
    refine Fr.goX hF2 (by kernel_rfl) ?_
    refine eX_block ?_
    refine eX_then ?_
    refine cW_region ?_
    refine wS_pure 3 [(4, .int .i64 (wr (x1 + 1))), (9, .int .i64 (wr (x1 + 1))), (8, .int .i64 (x1))] (by kernel_rfl) ?_
    refine wS_end (by rfl) ?_
    have hq : (some (Ctl.next ((l4, wr (x1 + 1)))) : Option (Ctl ((List (Int)) × Int) ((List (Int))))) = some _ := hm
    replace hq := someE hq
    subst hq
    exact eX_next hx1 (fun hst => ⟨l4, A4, cap4, fp3, wr (x1 + 1), rfl, Fr.of hst (by kernel_rfl), F9, F10, F11, F12, G6, hB, hZ⟩)
  ·have hm := condF hb1 hm
   refine cW_exit ?_
   refine eX_then_exit ?_
   have hq : (some (Ctl.out l3) : Option (Ctl ((List (Int)) × Int) ((List (Int))))) = some _ := hm
   replace hq := someE hq
   subst hq
   refine eX_outX hx1 (fun hr2 => ?_)
   replace hr2 := hr2.symm
   subst hr2
   refine eX_block_hit ?_
   exact eX_J (fun hst => ⟨l3, A3, cap3, fp2, rfl, Fr.of hst (by kernel_rfl), F5, G2, hB, hZ⟩)
 ·rintro a' w7 ⟨l1, A1, cap1, fp1, hJ, hF3, F13, G7, hB, hZ⟩
  subst hJ
  refine Fr.goX hF3 (by kernel_rfl) ?_
  refine eX_then ?_
  refine cW_seq ?_
  refine cW_region ?_
  refine wS_pure 2 [(2, .slice A1 (l1).length cap1), (19, .slice A1 (l1).length cap1)] (by kernel_rfl) ?_
  refine wS_end (by rfl) ?_
  refine eX_then ?_
  refine cW_ret ?_
  have hq : (some l1 : Option ((List (Int)))) = some _ := hm
  replace hq := someE hq
  subst hq
  refine eX_ret (vs := [.slice A1 (l1).length cap1]) [.tmp 2] (by rfl) ⟨by (show lkE _ _ _ = _); kernel_rfl, trivial⟩ ?_
  exact ⟨A1, cap1, fp1, rfl, F13, G7, hB⟩

set_option maxRecDepth 100000 in
/-- spec.l03Span -/
theorem c_spec_l03Span_bimplChannel {w0 : World} {l0_0 : List (Int)} {A0_0 : Option Addr} {cap0_0 : Nat} {fp0_0 : List Nat} {l0_1 : List (Int)} {A0_1 : Option Addr} {cap0_1 : Nat} {fp0_1 : List Nat} {b0 : Nat} {p1 : Int} {r : (Int) × (Int) × (Bool)} (hm : m_spec_l03Span_bimplChannel l0_0 l0_1 p1 = some r) (F0_0 : Sl 1 encI w0 fp0_0 A0_0 l0_0) (F0_1 : Sl 1 encI w0 fp0_1 A0_1 l0_1) (F0 : Cl w0 b0 26 [.slice A0_0 (l0_0).length cap0_0, .slice A0_1 (l0_1).length cap0_1]) :
  Calls Tryd.prog 92 #[.pointer (some ⟨b0, 0, none⟩), .int .i64 (p1)] w0 fun e w' => e = .returned (.tuple #[.int .i64 (r.1), .int .i64 (r.2.1), .bool (r.2.2)]) ∧ Chg [] w0 w' := by
 have L0_0 := F0_0.low
 have L0_1 := F0_1.low
 have L0 := lt1 F0.lt
 have hB : Chg [] w0 w0 := Chg.refl _ _
 have hZ := Nat.le_refl w0.heap.size
 unfold m_spec_l03Span_bimplChannel at hm
 refine enterE (N := 47) Tryd.func92 (by rfl) Tryd.ntmps92 (by simp) [(0, .pointer (some ⟨b0, 0, none⟩)), (1, .int .i64 (p1))] (by rfl) (by kernel_rfl) (fun a => ?_)
 refine cW_seq ?_
 refine cW_region ?_
 refine wS_pure 3 [(6, .bool (false)), (5, .int .i64 (0)), (4, .int .i64 (0))] (by kernel_rfl) ?_
 refine wS_end (by rfl) ?_
 refine eX_then ?_
 refine cW_seq ?_
 refine cW_region ?_
 refine wS_pure 1 [(7, .int .i64 ((-1)))] (by kernel_rfl) ?_
 refine wS_end (by rfl) ?_
 refine eX_then ?_
 refine cW_seq ?_
 refine cW_region ?_
 refine wS_pure 1 [(8, .int .i64 ((-1)))] (by kernel_rfl) ?_
 refine wS_end (by rfl) ?_
 refine eX_then ?_
 refine cW_seq ?_
 refine cW_seq ?_
 refine cW_region ?_
 refine wS_pure 1 [(9, .int .i64 (0))] (by kernel_rfl) ?_
 refine wS_end (by rfl) ?_
 refine eX_then ?_
 obtain ⟨r1, hr1, hm⟩ := bindE hm
 have hm1 := hm
 refine cW_cut (fun a' w' => ∃ x1 : Int, ∃ x2 : Int, (x1, x2) = r1 ∧ Fr 47 [(7, .int .i64 (x1)), (8, .int .i64 (x2))] a' ∧ Chg [] w0 w' ∧ w0.heap.size ≤ w'.heap.size) ?_ ?_
 ·refine cW_block ?_
  refine cW_loop _ (fun (s1 : Int × Int × Int) a' w' => ∃ x3 : Int, ∃ x4 : Int, ∃ x5 : Int, (x3, x4, x5) = s1 ∧ Fr 47 [(0, .pointer (some ⟨b0, 0, none⟩)), (1, .int .i64 (p1)), (7, .int .i64 (x3)), (8, .int .i64 (x4)), (9, .int .i64 (x5))] a' ∧ Sl 1 encI w' fp0_0 A0_0 l0_0 ∧ Sl 1 encI w' fp0_1 A0_1 l0_1 ∧ Cl w' b0 26 [.slice A0_0 (l0_0).length cap0_0, .slice A0_1 (l0_1).length cap0_1] ∧ Chg [] w0 w' ∧ w0.heap.size ≤ w'.heap.size) hr1 (fun hst => ⟨(-1), (-1), 0, rfl, Fr.of hst (by kernel_rfl), F0_0, F0_1, F0, hB, hZ⟩) ?_
  rintro _ c1 a' w1 ⟨x3, x4, x5, rfl, hF1, F1, F2, F3, hB, hZ⟩ hx1
  refine Fr.goOn hF1 (by kernel_rfl) ?_
  have hm := hx1
  unfold m_spec_l03Span_bimplChannel_s1 at hm
  refine cW_seq ?_
  refine cW_seq ?_
  refine cW_region ?_
  refine wS_pure 4 [(13, .pointer (some ⟨b0, 0, none⟩)), (12, .pointer (some ⟨b0, 0, none⟩)), (11, .pointer (some ⟨b0, 0, none⟩)), (10, .int .i64 (x5))] (by kernel_rfl) ?_
  refine wS_load1 (d := 14) (T := 24) (ad := ⟨b0, 0, none⟩) (v := .slice A0_0 (l0_0).length cap0_0) (by kernel_rfl) vt24 ((F3).cell 0) ?_
  refine wS_pure 2 [(16, .bool (decide (x5 < (((l0_0).length : Int))))), (15, .int .i64 (((l0_0).length : Int)))] (by kernel_rfl) ?_
  refine wS_end (by rfl) ?_
  refine eX_then ?_
  refine cW_cond (t := decide (x5 < (((l0_0).length : Int)))) (by kernel_rfl) (fun hb1 => ?_) (fun hb1 => ?_)
  ·have hm := condT hb1 hm
   refine cW_skip ?_
   refine eX_then ?_
   refine cW_seq ?_
   refine cW_block ?_
   obtain ⟨s2, hs1, hm⟩ := bindE hm
   refine cW_cut (fun a' w' => ∃ x6 : Int, ∃ x7 : Int, (x6, x7) = s2 ∧ Fr 47 [(0, .pointer (some ⟨b0, 0, none⟩)), (1, .int .i64 (p1)), (7, .int .i64 (x6)), (8, .int .i64 (x7)), (9, .int .i64 (x5))] a' ∧ Sl 1 encI w' fp0_0 A0_0 l0_0 ∧ Sl 1 encI w' fp0_1 A0_1 l0_1 ∧ Cl w' b0 26 [.slice A0_0 (l0_0).length cap0_0, .slice A0_1 (l0_1).length cap0_1] ∧ Chg [] w0 w' ∧ w0.heap.size ≤ w'.heap.size) ?_ ?_
   ·have hm := hs1
    refine cW_seq ?_
    refine cW_region ?_
    refine wS_pure 3 [(21, .pointer (some ⟨b0, 0, none⟩)), (20, .pointer (some ⟨b0, 0, none⟩)), (19, .pointer (some ⟨b0, 0, none⟩))] (by kernel_rfl) ?_
    refine wS_load1 (d := 22) (T := 24) (ad := ⟨b0, 0, none⟩) (v := .slice A0_0 (l0_0).length cap0_0) (by kernel_rfl) vt24 ((F3).cell 0) ?_
    refine wS_pure 1 [(23, .int .i64 (x5))] (by kernel_rfl) ?_
    obtain ⟨x8, hx2, hm⟩ := bindE hm
    refine wS_idx (d := 24) (T := 24) (A := A0_0) (n := (l0_0).length) (cap := cap0_0) (kd := .i64) (m := x5) (by kernel_rfl) sl24 (F1.is hx2) ?_
    refine wS_load1 (d := 25) (T := 2) (ad := (elA A0_0 1 (x5) 0)) (v := .int .i64 (x8)) (by kernel_rfl) vt2 (Sl.cell F1 hx2 0 (by rfl)) ?_
    refine wS_pure 3 [(28, .bool (x8 == p1)), (27, .bool (x8 == p1)), (26, .int .i64 (p1))] (by kernel_rfl) ?_
    refine wS_bool (x8 == p1) (fun hb2 => ?_) (fun hb2 => ?_)
    ·have hm := condT hb2 hm
     rewrite [hb2]
     refine wS_pure 10 [(38, .bool (true)), (37, undef), (36, undef), (35, undef), (34, undef), (33, undef), (32, undef), (31, undef), (30, undef), (29, undef)] (by kernel_rfl) ?_
     refine wS_end (by rfl) ?_
     refine eX_then ?_
     refine cW_prune [(0, .pointer (some ⟨b0, 0, none⟩)), (1, .int .i64 (p1)), (7, .int .i64 (x3)), (8, .int .i64 (x4)), (9, .int .i64 (x5)), (38, .bool (true))] (by kernel_rfl) (by kernel_rfl) (fun a1 => ?_)
     refine cW_cond_t (by kernel_rfl) ?_
     refine cW_seq ?_
     obtain ⟨s3, hs2, hm⟩ := bindE hm
     refine cW_cut (fun a' w' => ∃ x9 : Int, x9 = s3 ∧ Fr 47 [(0, .pointer (some ⟨b0, 0, none⟩)), (1, .int .i64 (p1)), (7, .int .i64 (x9)), (9, .int .i64 (x5))] a' ∧ Sl 1 encI w' fp0_0 A0_0 l0_0 ∧ Sl 1 encI w' fp0_1 A0_1 l0_1 ∧ Cl w' b0 26 [.slice A0_0 (l0_0).length cap0_0, .slice A0_1 (l0_1).length cap0_1] ∧ Chg [] w0 w' ∧ w0.heap.size ≤ w'.heap.size) ?_ ?_
     ·have hm := hs2
      refine cW_seq ?_
      refine cW_region ?_
      refine wS_pure 2 [(40, .bool (decide (x3 < 0))), (39, .int .i64 (x3))] (by kernel_rfl) ?_
      refine wS_end (by rfl) ?_
      refine eX_then ?_
      refine cW_cond (t := decide (x3 < 0)) (by kernel_rfl) (fun hb3 => ?_) (fun hb3 => ?_)
      ·have hm := condT hb3 hm
       refine cW_region ?_
       refine wS_pure 2 [(7, .int .i64 (x5)), (41, .int .i64 (x5))] (by kernel_rfl) ?_
       refine wS_end (by rfl) ?_
       have hq : (some x5 : Option (Int)) = some _ := hm
       replace hq := someE hq
       subst hq
       exact eX_J (fun hst => ⟨x5, rfl, Fr.of hst (by kernel_rfl), F1, F2, F3, hB, hZ⟩)
      ·have hm := condF hb3 hm
       refine cW_skip ?_
       have hq : (some x3 : Option (Int)) = some _ := hm
       replace hq := someE hq
       subst hq
       exact eX_J (fun hst => ⟨x3, rfl, Fr.of hst (by kernel_rfl), F1, F2, F3, hB, hZ⟩)
     ·rintro a' w2 ⟨x9, hJ, hF2, F4, F5, F6, hB, hZ⟩
      subst hJ
      refine Fr.goX hF2 (by kernel_rfl) ?_
      refine eX_then ?_
      refine cW_region ?_
      refine wS_pure 2 [(8, .int .i64 (x5)), (42, .int .i64 (x5))] (by kernel_rfl) ?_
      refine wS_end (by rfl) ?_
      have hq : (some ((x9, x5)) : Option (Int × Int)) = some _ := hm
      replace hq := someE hq
      subst hq
      exact eX_J (fun hst => ⟨x9, x5, rfl, Fr.of hst (by kernel_rfl), F4, F5, F6, hB, hZ⟩)
    ·have hm := condF hb2 hm
     rewrite [hb2]
     refine wS_pure 3 [(31, .pointer (some ⟨b0, 1, none⟩)), (30, .pointer (some ⟨b0, 0, none⟩)), (29, .pointer (some ⟨b0, 0, none⟩))] (by kernel_rfl) ?_
     refine wS_load1 (d := 32) (T := 24) (ad := ⟨b0, 1, none⟩) (v := .slice A0_1 (l0_1).length cap0_1) (by kernel_rfl) vt24 ((F3).cell 1) ?_
     refine wS_pure 1 [(33, .int .i64 (x5))] (by kernel_rfl) ?_
     obtain ⟨x10, hx3, hm⟩ := bindE hm
     refine wS_idx (d := 34) (T := 24) (A := A0_1) (n := (l0_1).length) (cap := cap0_1) (kd := .i64) (m := x5) (by kernel_rfl) sl24 (F2.is hx3) ?_
     refine wS_load1 (d := 35) (T := 2) (ad := (elA A0_1 1 (x5) 0)) (v := .int .i64 (x10)) (by kernel_rfl) vt2 (Sl.cell F2 hx3 0 (by rfl)) ?_
     refine wS_pure 3 [(38, .bool (x10 == p1)), (37, .bool (x10 == p1)), (36, .int .i64 (p1))] (by kernel_rfl) ?_
     refine wS_end (by rfl) ?_
     refine eX_then ?_
     refine cW_prune [(0, .pointer (some ⟨b0, 0, none⟩)), (1, .int .i64 (p1)), (7, .int .i64 (x3)), (8, .int .i64 (x4)), (9, .int .i64 (x5)), (38, .bool (x10 == p1))] (by kernel_rfl) (by kernel_rfl) (fun a2 => ?_)
     refine cW_cond (t := x10 == p1) (by kernel_rfl) (fun hb4 => ?_) (fun hb4 => ?_)
     ·have hm := condT hb4 hm
      refine cW_seq ?_
      obtain ⟨s4, hs3, hm⟩ := bindE hm
      refine cW_cut (fun a' w' => ∃ x11 : Int, x11 = s4 ∧ Fr 47 [(0, .pointer (some ⟨b0, 0, none⟩)), (1, .int .i64 (p1)), (7, .int .i64 (x11)), (9, .int .i64 (x5))] a' ∧ Sl 1 encI w' fp0_0 A0_0 l0_0 ∧ Sl 1 encI w' fp0_1 A0_1 l0_1 ∧ Cl w' b0 26 [.slice A0_0 (l0_0).length cap0_0, .slice A0_1 (l0_1).length cap0_1] ∧ Chg [] w0 w' ∧ w0.heap.size ≤ w'.heap.size) ?_ ?_
      ·have hm := hs3
       refine cW_seq ?_
       refine cW_region ?_
       refine wS_pure 2 [(40, .bool (decide (x3 < 0))), (39, .int .i64 (x3))] (by kernel_rfl) ?_
       refine wS_end (by rfl) ?_
       refine eX_then ?_
       refine cW_cond (t := decide (x3 < 0)) (by kernel_rfl) (fun hb5 => ?_) (fun hb5 => ?_)
       ·have hm := condT hb5 hm
        refine cW_region ?_
        refine wS_pure 2 [(7, .int .i64 (x5)), (41, .int .i64 (x5))] (by kernel_rfl) ?_
        refine wS_end (by rfl) ?_
        have hq : (some x5 : Option (Int)) = some _ := hm
        replace hq := someE hq
        subst hq
        exact eX_J (fun hst => ⟨x5, rfl, Fr.of hst (by kernel_rfl), F1, F2, F3, hB, hZ⟩)
       ·have hm := condF hb5 hm
        refine cW_skip ?_
        have hq : (some x3 : Option (Int)) = some _ := hm
        replace hq := someE hq
        subst hq
        exact eX_J (fun hst => ⟨x3, rfl, Fr.of hst (by kernel_rfl), F1, F2, F3, hB, hZ⟩)
      ·rintro a' w3 ⟨x11, hJ, hF3, F7, F8, F9, hB, hZ⟩
       subst hJ
       refine Fr.goX hF3 (by kernel_rfl) ?_
       refine eX_then ?_
       refine cW_region ?_
       refine wS_pure 2 [(8, .int .i64 (x5)), (42, .int .i64 (x5))] (by kernel_rfl) ?_
       refine wS_end (by rfl) ?_
       have hq : (some ((x11, x5)) : Option (Int × Int)) = some _ := hm
       replace hq := someE hq
       subst hq
       exact eX_J (fun hst => ⟨x11, x5, rfl, Fr.of hst (by kernel_rfl), F7, F8, F9, hB, hZ⟩)
     ·have hm := condF hb4 hm
      refine cW_skip ?_
      have hq : (some ((x3, x4)) : Option (Int × Int)) = some _ := hm
      replace hq := someE hq
      subst hq
      exact eX_J (fun hst => ⟨x3, x4, rfl, Fr.of hst (by kernel_rfl), F1, F2, F3, hB, hZ⟩)
   ·rintro a' w4 ⟨x6, x7, hJ, hF4, F10, F11, F12, hB, hZ⟩
    subst hJ
    refine Fr.goX hF4 (by kernel_rfl) ?_
    refine eX_block ?_
    refine eX_then ?_
    refine cW_region ?_
    refine wS_pure 3 [(9, .int .i64 (wr (x5 + 1))), (18, .int .i64 (wr (x5 + 1))), (17, .int .i64 (x5))] (by kernel_rfl) ?_
    refine wS_end (by rfl) ?_
    have hq : (some (Ctl.next ((x6, x7, wr (x5 + 1)))) : Option (Ctl (Int × Int × Int) (Int × Int))) = some _ := hm
    replace hq := someE hq
    subst hq
    exact eX_next hx1 (fun hst => ⟨x6, x7, wr (x5 + 1), rfl, Fr.of hst (by kernel_rfl), F10, F11, F12, hB, hZ⟩)
  ·have hm := condF hb1 hm
   refine cW_exit ?_
   refine eX_then_exit ?_
   have hq : (some (Ctl.out ((x3, x4))) : Option (Ctl (Int × Int × Int) (Int × Int))) = some _ := hm
   replace hq := someE hq
   subst hq
   refine eX_outX hx1 (fun hr2 => ?_)
   replace hr2 := hr2.symm
   subst hr2
   refine eX_block_hit ?_
   exact eX_J (fun hst => ⟨x3, x4, rfl, Fr.of hst (by kernel_rfl), hB, hZ⟩)
 ·rintro a' w5 ⟨x1, x2, hJ, hF5, hB, hZ⟩
  subst hJ
  refine Fr.goX hF5 (by kernel_rfl) ?_
  refine eX_then ?_
  refine cW_seq ?_
  refine cW_region ?_
  refine wS_pure 7 [(6, .bool (decide (x1 ≥ 0))), (5, .int .i64 (x2)), (4, .int .i64 (x1)), (46, .bool (decide (x1 ≥ 0))), (45, .int .i64 (x1)), (44, .int .i64 (x2)), (43, .int .i64 (x1))] (by kernel_rfl) ?_
  refine wS_end (by rfl) ?_
  refine eX_then ?_
  refine cW_ret ?_
  have hq : (some ((x1, x2, decide (x1 ≥ 0))) : Option ((Int) × (Int) × (Bool))) = some _ := hm
  replace hq := someE hq
  subst hq
  refine eX_ret (vs := [.int .i64 (x1), .int .i64 (x2), .bool (decide (x1 ≥ 0))]) [.tmp 4, .tmp 5, .tmp 6] (by rfl) ⟨by (show lkE _ _ _ = _); kernel_rfl, ⟨by (show lkE _ _ _ = _); kernel_rfl, ⟨by (show lkE _ _ _ = _); kernel_rfl, trivial⟩⟩⟩ ?_
  exact ⟨rfl, hB⟩

set_option maxRecDepth 100000 in
/-- spec.l03Nets -/
theorem c_spec_l03Nets_bimplChannel {w0 : World} {l0_0 : List (Int)} {A0_0 : Option Addr} {cap0_0 : Nat} {fp0_0 : List Nat} {l0_1 : List (Int)} {A0_1 : Option Addr} {cap0_1 : Nat} {fp0_1 : List Nat} {b0 : Nat} {r : (List (Int))} (hm : m_spec_l03Nets_bimplChannel l0_0 l0_1 = some r) (F0_0 : Sl 1 encI w0 fp0_0 A0_0 l0_0) (F0_1 : Sl 1 encI w0 fp0_1 A0_1 l0_1) (F0 : Cl w0 b0 26 [.slice A0_0 (l0_0).length cap0_0, .slice A0_1 (l0_1).length cap0_1]) :
  Calls Tryd.prog 55 #[.pointer (some ⟨b0, 0, none⟩)] w0 fun e w' => ∃ A100 cap100 fp100, e = .returned (.slice A100 (r).length cap100) ∧ Ow 1 encI 2 w' fp100 A100 cap100 r ∧ (∀ x ∈ fp100, w0.heap.size ≤ x) ∧ Chg [] w0 w' := by
 have L0_0 := F0_0.low
 have L0_1 := F0_1.low
 have L0 := lt1 F0.lt
 have hB : Chg [] w0 w0 := Chg.refl _ _
 have hZ := Nat.le_refl w0.heap.size
 unfold m_spec_l03Nets_bimplChannel at hm
 refine enterE (N := 31) Tryd.func55 (by rfl) Tryd.ntmps55 (by simp) [(0, .pointer (some ⟨b0, 0, none⟩))] (by rfl) (by kernel_rfl) (fun a => ?_)
 refine cW_seq ?_
 refine cW_region ?_
 refine wS_pure 1 [(2, .slice none 0 0)] (by kernel_rfl) ?_
 refine wS_end (by rfl) ?_
 refine eX_then ?_
 refine cW_seq ?_
 refine cW_region ?_
 refine wS_bs0 (α := Int) (enc := encI) (d := 8) (t := 24) (T := 2) (by kernel_rfl) el24 ?_
 intro b1 w1 G1 F1 hc1
 replace F0_0 := F0_0.chg hc1 Dj.nil
 replace F0_1 := F0_1.chg hc1 Dj.nil
 replace F0 := F0.chg hc1 notNil
 replace hB := hB.inS hc1 inNil
 replace G1 := Nat.le_trans hZ G1
 replace G1 := low1 G1
 replace hZ := Nat.le_trans hZ hc1.size
 refine wS_pure 1 [(3, .slice (some ⟨b1, 0, none⟩) (([] : List (Int))).length 0)] (by kernel_rfl) ?_
 refine wS_end (by rfl) ?_
 refine eX_then ?_
 refine cW_seq ?_
 refine cW_seq ?_
 refine cW_region ?_
 refine wS_pure 1 [(4, .int .i64 (1))] (by kernel_rfl) ?_
 refine wS_end (by rfl) ?_
 refine eX_then ?_
 obtain ⟨r1, hr1, hm⟩ := bindE hm
 have hm1 := hm
 refine cW_cut (fun a' w' => ∃ l1 : List (Int), ∃ A1 : Option Addr, ∃ cap1 : Nat, ∃ fp1 : List Nat, l1 = r1 ∧ Fr 31 [(3, .slice A1 (l1).length cap1)] a' ∧ Ow 1 encI 2 w' fp1 A1 cap1 l1 ∧ (∀ x ∈ fp1, w0.heap.size ≤ x) ∧ Chg [] w0 w' ∧ w0.heap.size ≤ w'.heap.size) ?_ ?_
 ·refine cW_block ?_
  refine cW_loop _ (fun (s1 : (List (Int)) × Int) a' w' => ∃ l3 : List (Int), ∃ A3 : Option Addr, ∃ cap3 : Nat, ∃ fp2 : List Nat, ∃ x1 : Int, (l3, x1) = s1 ∧ Fr 31 [(0, .pointer (some ⟨b0, 0, none⟩)), (3, .slice A3 (l3).length cap3), (4, .int .i64 (x1))] a' ∧ Sl 1 encI w' fp0_0 A0_0 l0_0 ∧ Sl 1 encI w' fp0_1 A0_1 l0_1 ∧ Cl w' b0 26 [.slice A0_0 (l0_0).length cap0_0, .slice A0_1 (l0_1).length cap0_1] ∧ Ow 1 encI 2 w' fp2 A3 cap3 l3 ∧ (∀ x ∈ fp2, w0.heap.size ≤ x) ∧ Chg [] w0 w' ∧ w0.heap.size ≤ w'.heap.size) hr1 (fun hst => ⟨([] : List (Int)), (some ⟨b1, 0, none⟩), 0, [b1], 1, rfl, Fr.of hst (by kernel_rfl), F0_0, F0_1, F0, F1, G1, hB, hZ⟩) ?_
  rintro _ c1 a' w2 ⟨l3, A3, cap3, fp2, x1, rfl, hF1, F2, F3, F4, F5, G2, hB, hZ⟩ hx1
  refine Fr.goOn hF1 (by kernel_rfl) ?_
  have hm := hx1
  unfold m_spec_l03Nets_bimplChannel_s1 at hm
  refine cW_seq ?_
  refine cW_seq ?_
  refine cW_region ?_
  refine wS_pure 2 [(10, .bool (decide (x1 ≤ 12))), (9, .int .i64 (x1))] (by kernel_rfl) ?_
  refine wS_end (by rfl) ?_
  refine eX_then ?_
  refine cW_cond (t := decide (x1 ≤ 12)) (by kernel_rfl) (fun hb1 => ?_) (fun hb1 => ?_)
  ·have hm := condT hb1 hm
   refine cW_skip ?_
   refine eX_then ?_
   refine cW_seq ?_
   refine cW_block ?_
   obtain ⟨s2, hs1, hm⟩ := bindE hm
   refine cW_cut (fun a' w' => ∃ l4 : List (Int), ∃ A4 : Option Addr, ∃ cap4 : Nat, ∃ fp3 : List Nat, l4 = s2 ∧ Fr 31 [(0, .pointer (some ⟨b0, 0, none⟩)), (3, .slice A4 (l4).length cap4), (4, .int .i64 (x1))] a' ∧ Sl 1 encI w' fp0_0 A0_0 l0_0 ∧ Sl 1 encI w' fp0_1 A0_1 l0_1 ∧ Cl w' b0 26 [.slice A0_0 (l0_0).length cap0_0, .slice A0_1 (l0_1).length cap0_1] ∧ Ow 1 encI 2 w' fp3 A4 cap4 l4 ∧ (∀ x ∈ fp3, w0.heap.size ≤ x) ∧ Chg [] w0 w' ∧ w0.heap.size ≤ w'.heap.size) ?_ ?_
   ·have hm := hs1
    refine cW_seq ?_
    refine cW_region ?_
    refine wS_pure 2 [(15, .int .i64 (x1)), (14, .pointer (some ⟨b0, 0, none⟩))] (by kernel_rfl) ?_
    obtain ⟨y1, hy1, hm⟩ := bindE hm
    refine wS_calls (d := 16) (f := 92) (vs := [.pointer (some ⟨b0, 0, none⟩), .int .i64 (x1)]) (by kernel_rfl) ent92 (c_spec_l03Span_bimplChannel hy1 F2 F3 F4) ?_
    rintro _ w3 ⟨rfl, hc2⟩
    replace F2 := F2.chg hc2 Dj.nil
    replace F3 := F3.chg hc2 Dj.nil
    replace F4 := F4.chg hc2 notNil
    replace F5 := F5.chg hc2 Dj.nil
    replace hB := hB.inS hc2 inNil
    replace hZ := Nat.le_trans hZ hc2.size
    refine ⟨.tuple #[.int .i64 (y1.1), .int .i64 (y1.2.1), .bool (y1.2.2)], rfl, ?_⟩
    refine wS_pure 7 [(7, .bool (y1.2.2)), (6, .int .i64 (y1.2.1)), (5, .int .i64 (y1.1)), (19, .bool (y1.2.2)), (18, .int .i64 (y1.2.1)), (17, .int .i64 (y1.1)), (13, .tuple #[.int .i64 (y1.1), .int .i64 (y1.2.1), .bool (y1.2.2)])] (by kernel_rfl) ?_
    refine wS_end (by rfl) ?_
    refine eX_then ?_
    refine cW_seq ?_
    refine cW_region ?_
    refine wS_pure 2 [(21, .bool (y1.2.2)), (20, .bool (y1.2.2))] (by kernel_rfl) ?_
    refine wS_bool y1.2.2 (fun hb2 => ?_) (fun hb2 => ?_)
    ·have hm := condT hb2 hm
     rewrite [hb2]
     refine wS_pure 4 [(25, .bool (decide (y1.1 < y1.2.1))), (24, .bool (decide (y1.1 < y1.2.1))), (23, .int .i64 (y1.2.1)), (22, .int .i64 (y1.1))] (by kernel_rfl) ?_
     refine wS_end (by rfl) ?_
     refine eX_then ?_
     refine cW_cond (t := decide (y1.1 < y1.2.1)) (by kernel_rfl) (fun hb3 => ?_) (fun hb3 => ?_)
     ·have hm := condT hb3 hm
      refine cW_region ?_
      refine wS_pure 2 [(27, .int .i64 (x1)), (26, .slice A3 (l3).length cap3)] (by kernel_rfl) ?_
      refine wS_bs (enc := encI) ([x1] : List (Int)) [.int .i64 (x1)] (d := 28) (t := 24) (T := 2) (n := 1) (ps := [(0, .int .i64 (x1))]) (by kernel_rfl) el24 encI_ok (by rfl) (by omega) (by omega) (by kernel_rfl) (by rfl) ?_
      intro b2 w4 G3 F6 hc3
      have D1 : Dj fp2 [b2] := Dj.of F5.low (low1 G3)
      replace F2 := F2.chg hc3 Dj.nil
      replace F3 := F3.chg hc3 Dj.nil
      replace F4 := F4.chg hc3 notNil
      replace F5 := F5.chg hc3 Dj.nil
      replace hB := hB.inS hc3 inNil
      replace G3 := Nat.le_trans hZ G3
      replace G3 := low1 G3
      replace hZ := Nat.le_trans hZ hc3.size
      obtain ⟨_, hk1, hm⟩ := bindE hm
      replace hk1 := apE hk1
      refine wS_append (enc := encI) (l := (l3 : List (Int))) (l2 := (([x1] : List (Int)) : List (Int))) (d := 29) (t := 24) (T := 2) (A := A3) (A2 := (some ⟨b2, 0, none⟩)) (cap := cap3) (cap2 := 1) (by kernel_rfl) el24 encI_ok F5 (F6.sl encI_ok) (by rfl) hk1 ?_
      intro w5 fp4 A5 cap5 F7 hc4 hp1
      have G4 := low_ap G2 hZ hp1
      have D2 : Dj [b2] fp4 := Dj.ap (D1).symm F6.low hp1
      replace F2 := F2.chg hc4 (Dj.of L0_0 G2)
      replace F3 := F3.chg hc4 (Dj.of L0_1 G2)
      replace F4 := F4.chg hc4 (dj1 (Dj.of L0 G2))
      replace F6 := F6.chg hc4 (D1).symm
      replace hB := hB.inS hc4 (inLow G2)
      replace hZ := Nat.le_trans hZ hc4.size
      refine wS_pure 1 [(3, .slice A5 (l3 ++ (([x1] : List (Int)))).length cap5)] (by kernel_rfl) ?_
      refine wS_end (by rfl) ?_
      have hq : (some (l3 ++ (([x1] : List (Int)))) : Option ((List (Int)))) = some _ := hm
      replace hq := someE hq
      subst hq
      exact eX_J (fun hst => ⟨l3 ++ (([x1] : List (Int))), A5, cap5, fp4, rfl, Fr.of hst (by kernel_rfl), F2, F3, F4, F7, G4, hB, hZ⟩)
     ·have hm := condF hb3 hm
      refine cW_skip ?_
      have hq : (some l3 : Option ((List (Int)))) = some _ := hm
      replace hq := someE hq
      subst hq
      exact eX_J (fun hst => ⟨l3, A3, cap3, fp2, rfl, Fr.of hst (by kernel_rfl), F2, F3, F4, F5, G2, hB, hZ⟩)
    ·have hm := condF hb2 hm
     rewrite [hb2]
     refine wS_pure 4 [(25, .bool (false)), (24, undef), (23, undef), (22, undef)] (by kernel_rfl) ?_
     refine wS_end (by rfl) ?_
     refine eX_then ?_
     refine cW_cond_f (by kernel_rfl) ?_
     refine cW_skip ?_
     have hq : (some l3 : Option ((List (Int)))) = some _ := hm
     replace hq := someE hq
     subst hq
     exact eX_J (fun hst => ⟨l3, A3, cap3, fp2, rfl, Fr.of hst (by kernel_rfl), F2, F3, F4, F5, G2, hB, hZ⟩)
   ·rintro a' w6 ⟨l4, A4, cap4, fp3, hJ, hF2, F8, F9, F10, F11, G5, hB, hZ⟩
    subst hJ
    refine Fr.goX hF2 (by kernel_rfl) ?_
    refine eX_block ?_
    refine eX_then ?_
    refine cW_region ?_
    refine wS_pure 3 [(4, .int .i64 (wr (x1 + 1))), (12, .int .i64 (wr (x1 + 1))), (11, .int .i64 (x1))] (by kernel_rfl) ?_
    refine wS_end (by rfl) ?_
    have hq : (some (Ctl.next ((l4, wr (x1 + 1)))) : Option (Ctl ((List (Int)) × Int) ((List (Int))))) = some _ := hm
    replace hq := someE hq
    subst hq
    exact eX_next hx1 (fun hst => ⟨l4, A4, cap4, fp3, wr (x1 + 1), rfl, Fr.of hst (by kernel_rfl), F8, F9, F10, F11, G5, hB, hZ⟩)
  ·have hm := condF hb1 hm
   refine cW_exit ?_
   refine eX_then_exit ?_
   have hq : (some (Ctl.out l3) : Option (Ctl ((List (Int)) × Int) ((List (Int))))) = some _ := hm
   replace hq := someE hq
   subst hq
   refine eX_outX hx1 (fun hr2 => ?_)
   replace hr2 := hr2.symm
   subst hr2
   refine eX_block_hit ?_
   exact eX_J (fun hst => ⟨l3, A3, cap3, fp2, rfl, Fr.of hst (by kernel_rfl), F5, G2, hB, hZ⟩)
 ·rintro a' w7 ⟨l1, A1, cap1, fp1, hJ, hF3, F12, G6, hB, hZ⟩
  subst hJ
  refine Fr.goX hF3 (by kernel_rfl) ?_
  refine eX_then ?_
  refine cW_seq ?_
  refine cW_region ?_
  refine wS_pure 2 [(2, .slice A1 (l1).length cap1), (30, .slice A1 (l1).length cap1)] (by kernel_rfl) ?_
  refine wS_end (by rfl) ?_
  refine eX_then ?_
  refine cW_ret ?_
  have hq : (some l1 : Option ((List (Int)))) = some _ := hm
  replace hq := someE hq
  subst hq
  refine eX_ret (vs := [.slice A1 (l1).length cap1]) [.tmp 2] (by rfl) ⟨by (show lkE _ _ _ = _); kernel_rfl, trivial⟩ ?_
  exact ⟨A1, cap1, fp1, rfl, F12, G6, hB⟩

set_option maxRecDepth 100000 in
/-- spec.l00In -/
theorem c_spec_l00In {w0 : World} {p0 : Int} {p1 : Int} {p2 : Int} {r : (Bool)} (hm : m_spec_l00In p0 p1 p2 = some r)  :
  Calls Tryd.prog 94 #[.int .i64 (p0), .int .i64 (p1), .int .i64 (p2)] w0 fun e w' => e = .returned (.bool (r)) ∧ Chg [] w0 w' := by
 have hB : Chg [] w0 w0 := Chg.refl _ _
 have hZ := Nat.le_refl w0.heap.size
 unfold m_spec_l00In at hm
 refine enterE (N := 15) Tryd.func94 (by rfl) Tryd.ntmps94 (by simp) [(0, .int .i64 (p0)), (1, .int .i64 (p1)), (2, .int .i64 (p2))] (by rfl) (by kernel_rfl) (fun a => ?_)
 refine cW_seq ?_
 refine cW_region ?_
 refine wS_pure 1 [(6, .bool (false))] (by kernel_rfl) ?_
 refine wS_end (by rfl) ?_
 refine eX_then ?_
 refine cW_seq ?_
 refine cW_region ?_
 refine wS_pure 4 [(10, .bool (decide (p0 ≥ p1))), (9, .bool (decide (p0 ≥ p1))), (8, .int .i64 (p1)), (7, .int .i64 (p0))] (by kernel_rfl) ?_
 refine wS_bool (decide (p0 ≥ p1)) (fun hb1 => ?_) (fun hb1 => ?_)
 ·have hm := condT hb1 hm
  rewrite [hb1]
  refine wS_pure 5 [(6, .bool (decide (p0 ≤ p2))), (14, .bool (decide (p0 ≤ p2))), (13, .bool (decide (p0 ≤ p2))), (12, .int .i64 (p2)), (11, .int .i64 (p0))] (by kernel_rfl) ?_
  refine wS_end (by rfl) ?_
  refine eX_then ?_
  refine cW_ret ?_
  have hq : (some (decide (p0 ≤ p2)) : Option ((Bool))) = some _ := hm
  replace hq := someE hq
  subst hq
  refine eX_ret (vs := [.bool (decide (p0 ≤ p2))]) [.tmp 6] (by rfl) ⟨by (show lkE _ _ _ = _); kernel_rfl, trivial⟩ ?_
  exact ⟨rfl, hB⟩
 ·have hm := condF hb1 hm
  rewrite [hb1]
  refine wS_pure 5 [(6, .bool (false)), (14, .bool (false)), (13, undef), (12, undef), (11, undef)] (by kernel_rfl) ?_
  refine wS_end (by rfl) ?_
  refine eX_then ?_
  refine cW_ret ?_
  have hq : (some false : Option ((Bool))) = some _ := hm
  replace hq := someE hq
  subst hq
  refine eX_ret (vs := [.bool (false)]) [.tmp 6] (by rfl) ⟨by (show lkE _ _ _ = _); kernel_rfl, trivial⟩ ?_
  exact ⟨rfl, hB⟩

set_option maxRecDepth 100000 in
/-- spec.l03Is -/
theorem c_spec_l03Is_bimplChannel {w0 : World} {l0_0 : List (Int)} {A0_0 : Option Addr} {cap0_0 : Nat} {fp0_0 : List Nat} {l0_1 : List (Int)} {A0_1 : Option Addr} {cap0_1 : Nat} {fp0_1 : List Nat} {b0 : Nat} {r : (Bool)} (hm : m_spec_l03Is_bimplChannel l0_0 l0_1 = some r) (F0_0 : Sl 1 encI w0 fp0_0 A0_0 l0_0) (F0_1 : Sl 1 encI w0 fp0_1 A0_1 l0_1) (F0 : Cl w0 b0 26 [.slice A0_0 (l0_0).length cap0_0, .slice A0_1 (l0_1).length cap0_1]) :
  Calls Tryd.prog 60 #[.pointer (some ⟨b0, 0, none⟩)] w0 fun e w' => e = .returned (.bool (r)) ∧ Chg [] w0 w' := by
 have L0_0 := F0_0.low
 have L0_1 := F0_1.low
 have L0 := lt1 F0.lt
 have hB : Chg [] w0 w0 := Chg.refl _ _
 have hZ := Nat.le_refl w0.heap.size
 unfold m_spec_l03Is_bimplChannel at hm
 refine enterE (N := 88) Tryd.func60 (by rfl) Tryd.ntmps60 (by simp) [(0, .pointer (some ⟨b0, 0, none⟩))] (by rfl) (by kernel_rfl) (fun a => ?_)
 refine cW_seq ?_
 refine cW_region ?_
 refine wS_pure 1 [(2, .bool (false))] (by kernel_rfl) ?_
 refine wS_end (by rfl) ?_
 refine eX_then ?_
 refine cW_seq ?_
 refine cW_region ?_
 refine wS_pure 3 [(9, .pointer (some ⟨b0, 0, none⟩)), (8, .pointer (some ⟨b0, 0, none⟩)), (7, .pointer (some ⟨b0, 0, none⟩))] (by kernel_rfl) ?_
 refine wS_load1 (d := 10) (T := 24) (ad := ⟨b0, 0, none⟩) (v := .slice A0_0 (l0_0).length cap0_0) (by kernel_rfl) vt24 ((F0).cell 0) ?_
 refine wS_pure 2 [(3, .int .i64 (((l0_0).length : Int))), (11, .int .i64 (((l0_0).length : Int)))] (by kernel_rfl) ?_
 refine wS_end (by rfl) ?_
 refine eX_then ?_
 refine cW_seq ?_
 refine cW_seq ?_
 refine cW_region ?_
 refine wS_pure 3 [(14, .bool (decide ((((l0_0).length : Int)) < 1))), (13, .bool (decide ((((l0_0).length : Int)) < 1))), (12, .int .i64 (((l0_0).length : Int)))] (by kernel_rfl) ?_
 refine wS_bool (decide ((((l0_0).length : Int)) < 1)) (fun hb1 => ?_) (fun hb1 => ?_)
 ·have hm := condT hb1 hm
  rewrite [hb1]
  refine wS_pure 12 [(26, .bool (true)), (25, undef), (24, undef), (23, undef), (22, undef), (21, undef), (20, undef), (19, undef), (18, .bool (true)), (17, .bool (true)), (16, undef), (15, undef)] (by kernel_rfl) ?_
  refine wS_end (by rfl) ?_
  refine eX_then ?_
  refine cW_cond_t (by kernel_rfl) ?_
  refine cW_seq ?_
  refine cW_region ?_
  refine wS_pure 1 [(2, .bool (false))] (by kernel_rfl) ?_
  refine wS_end (by rfl) ?_
  refine eX_then ?_
  refine cW_ret ?_
  refine eX_then_ret ?_
  have hq : (some false : Option ((Bool))) = some _ := hm
  replace hq := someE hq
  subst hq
  refine eX_ret (vs := [.bool (false)]) [.tmp 2] (by rfl) ⟨by (show lkE _ _ _ = _); kernel_rfl, trivial⟩ ?_
  exact ⟨rfl, hB⟩
 ·have hm := condF hb1 hm
  rewrite [hb1]
  refine wS_pure 4 [(18, .bool (decide ((((l0_0).length : Int)) > 24))), (17, .bool (decide ((((l0_0).length : Int)) > 24))), (16, .bool (decide ((((l0_0).length : Int)) > 24))), (15, .int .i64 (((l0_0).length : Int)))] (by kernel_rfl) ?_
  refine wS_bool (decide ((((l0_0).length : Int)) > 24)) (fun hb2 => ?_) (fun hb2 => ?_)
  ·have hm := condT hb2 hm
   rewrite [hb2]
   refine wS_pure 8 [(26, .bool (true)), (25, undef), (24, undef), (23, undef), (22, undef), (21, undef), (20, undef), (19, undef)] (by kernel_rfl) ?_
   refine wS_end (by rfl) ?_
   refine eX_then ?_
   refine cW_cond_t (by kernel_rfl) ?_
   refine cW_seq ?_
   refine cW_region ?_
   refine wS_pure 1 [(2, .bool (false))] (by kernel_rfl) ?_
   refine wS_end (by rfl) ?_
   refine eX_then ?_
   refine cW_ret ?_
   refine eX_then_ret ?_
   have hq : (some false : Option ((Bool))) = some _ := hm
   replace hq := someE hq
   subst hq
   refine eX_ret (vs := [.bool (false)]) [.tmp 2] (by rfl) ⟨by (show lkE _ _ _ = _); kernel_rfl, trivial⟩ ?_
   exact ⟨rfl, hB⟩
  ·have hm := condF hb2 hm
   rewrite [hb2]
   refine wS_pure 3 [(21, .pointer (some ⟨b0, 1, none⟩)), (20, .pointer (some ⟨b0, 0, none⟩)), (19, .pointer (some ⟨b0, 0, none⟩))] (by kernel_rfl) ?_
   refine wS_load1 (d := 22) (T := 24) (ad := ⟨b0, 1, none⟩) (v := .slice A0_1 (l0_1).length cap0_1) (by kernel_rfl) vt24 ((F0).cell 1) ?_
   refine wS_pure 4 [(26, .bool ((((l0_1).length : Int)) != (((l0_0).length : Int)))), (25, .bool ((((l0_1).length : Int)) != (((l0_0).length : Int)))), (24, .int .i64 (((l0_0).length : Int))), (23, .int .i64 (((l0_1).length : Int)))] (by kernel_rfl) ?_
   refine wS_end (by rfl) ?_
   refine eX_then ?_
   refine cW_cond (t := (((l0_1).length : Int)) != (((l0_0).length : Int))) (by kernel_rfl) (fun hb3 => ?_) (fun hb3 => ?_)
   ·have hm := condT hb3 hm
    refine cW_seq ?_
    refine cW_region ?_
    refine wS_pure 1 [(2, .bool (false))] (by kernel_rfl) ?_
    refine wS_end (by rfl) ?_
    refine eX_then ?_
    refine cW_ret ?_
    refine eX_then_ret ?_
    have hq : (some false : Option ((Bool))) = some _ := hm
    replace hq := someE hq
    subst hq
    refine eX_ret (vs := [.bool (false)]) [.tmp 2] (by rfl) ⟨by (show lkE _ _ _ = _); kernel_rfl, trivial⟩ ?_
    exact ⟨rfl, hB⟩
   ·have hm := condF hb3 hm
    refine cW_skip ?_
    refine eX_then ?_
    refine cW_seq ?_
    refine cW_region ?_
    obtain ⟨_, hk1, hm⟩ := bindE hm
    replace hk1 := mkE hk1
    refine wS_make (enc := encI) (x0 := (0 : Int)) (d := 27) (t := 24) (T := 2) (k1 := .i64) (k2 := .i64) (m := 13) (by kernel_rfl) el24 encI_ok (by rfl) hk1.1 hk1.2 ?_
    intro b1 w1 G1 F1 hc1
    replace F0_0 := F0_0.chg hc1 Dj.nil
    replace F0_1 := F0_1.chg hc1 Dj.nil
    replace F0 := F0.chg hc1 notNil
    replace hB := hB.inS hc1 inNil
    replace G1 := Nat.le_trans hZ G1
    replace G1 := low1 G1
    replace hZ := Nat.le_trans hZ hc1.size
    refine wS_pure 1 [(4, .slice (some ⟨b1, 0, none⟩) (List.replicate (Int.toNat 13) ((0 : Int))).length (Int.toNat 13))] (by kernel_rfl) ?_
    refine wS_end (by rfl) ?_
    refine eX_then ?_
    refine cW_prune [(0, .pointer (some ⟨b0, 0, none⟩)), (3, .int .i64 (((l0_0).length : Int))), (4, .slice (some ⟨b1, 0, none⟩) (List.replicate (Int.toNat 13) ((0 : Int))).length (Int.toNat 13))] (by kernel_rfl) (by kernel_rfl) (fun a1 => ?_)
    refine cW_seq ?_
    refine cW_seq ?_
    refine cW_region ?_
    refine wS_pure 1 [(5, .int .i64 (0))] (by kernel_rfl) ?_
    refine wS_end (by rfl) ?_
    refine eX_then ?_
    obtain ⟨r1, hr1, hm⟩ := bindE hm
    have hm1 := hm
    refine cW_cut (fun a' w' => ∃ l1 : List (Int), Sum.inl l1 = r1 ∧ Fr 88 [(4, .slice (some ⟨b1, 0, none⟩) (l1).length (Int.toNat 13))] a' ∧ Ow 1 encI 2 w' [b1] (some ⟨b1, 0, none⟩) (Int.toNat 13) l1 ∧ Chg [] w0 w' ∧ w0.heap.size ≤ w'.heap.size) ?_ ?_
    ·refine cW_block ?_
     refine cW_loop _ (fun (s1 : Int × (List (Int))) a' w' => ∃ x1 : Int, ∃ l2 : List (Int), (x1, l2) = s1 ∧ Fr 88 [(0, .pointer (some ⟨b0, 0, none⟩)), (3, .int .i64 (((l0_0).length : Int))), (4, .slice (some ⟨b1, 0, none⟩) (l2).length (Int.toNat 13)), (5, .int .i64 (x1))] a' ∧ Sl 1 encI w' fp0_0 A0_0 l0_0 ∧ Sl 1 encI w' fp0_1 A0_1 l0_1 ∧ Cl w' b0 26 [.slice A0_0 (l0_0).length cap0_0, .slice A0_1 (l0_1).length cap0_1] ∧ Ow 1 encI 2 w' [b1] (some ⟨b1, 0, none⟩) (Int.toNat 13) l2 ∧ Chg [] w0 w' ∧ w0.heap.size ≤ w'.heap.size) hr1 (fun hst => ⟨0, List.replicate (Int.toNat 13) ((0 : Int)), rfl, Fr.of hst (by kernel_rfl), F0_0, F0_1, F0, F1, hB, hZ⟩) ?_
     rintro _ c1 a' w2 ⟨x1, l2, rfl, hF1, F2, F3, F4, F5, hB, hZ⟩ hx1
     refine Fr.goOn hF1 (by kernel_rfl) ?_
     have hm := hx1
     unfold m_spec_l03Is_bimplChannel_s1 at hm
     refine cW_seq ?_
     refine cW_seq ?_
     refine cW_region ?_
     refine wS_pure 3 [(30, .bool (decide (x1 < (((l0_0).length : Int))))), (29, .int .i64 (((l0_0).length : Int))), (28, .int .i64 (x1))] (by kernel_rfl) ?_
     refine wS_end (by rfl) ?_
     refine eX_then ?_
     refine cW_cond (t := decide (x1 < (((l0_0).length : Int)))) (by kernel_rfl) (fun hb4 => ?_) (fun hb4 => ?_)
     ·have hm := condT hb4 hm
      refine cW_skip ?_
      refine eX_then ?_
      refine cW_seq ?_
      refine cW_block ?_
      refine cW_seq ?_
      refine cW_seq ?_
      refine cW_region ?_
      refine wS_pure 3 [(35, .pointer (some ⟨b0, 0, none⟩)), (34, .pointer (some ⟨b0, 0, none⟩)), (33, .pointer (some ⟨b0, 0, none⟩))] (by kernel_rfl) ?_
      refine wS_load1 (d := 36) (T := 24) (ad := ⟨b0, 0, none⟩) (v := .slice A0_0 (l0_0).length cap0_0) (by kernel_rfl) vt24 ((F4).cell 0) ?_
      refine wS_pure 1 [(37, .int .i64 (x1))] (by kernel_rfl) ?_
      obtain ⟨x2, hx2, hm⟩ := bindE hm
      refine wS_idx (d := 38) (T := 24) (A := A0_0) (n := (l0_0).length) (cap := cap0_0) (kd := .i64) (m := x1) (by kernel_rfl) sl24 (F2.is hx2) ?_
      refine wS_load1 (d := 39) (T := 2) (ad := (elA A0_0 1 (x1) 0)) (v := .int .i64 (x2)) (by kernel_rfl) vt2 (Sl.cell F2 hx2 0 (by rfl)) ?_
      obtain ⟨y1, hy1, hm⟩ := bindE hm
      refine wS_calls (d := 40) (f := 94) (vs := [.int .i64 (x2), .int .i64 (0), .int .i64 (12)]) (by kernel_rfl) ent94 (c_spec_l00In hy1) ?_
      rintro _ w3 ⟨rfl, hc2⟩
      replace F2 := F2.chg hc2 Dj.nil
      replace F3 := F3.chg hc2 Dj.nil
      replace F4 := F4.chg hc2 notNil
      replace F5 := F5.chg hc2 Dj.nil
      replace hB := hB.inS hc2 inNil
      replace hZ := Nat.le_trans hZ hc2.size
      refine ⟨.bool (y1), rfl, ?_⟩
      refine wS_pure 2 [(42, .bool (!y1)), (41, .bool (!y1))] (by kernel_rfl) ?_
      refine wS_bool (!y1) (fun hb5 => ?_) (fun hb5 => ?_)
      ·have hm := condT hb5 hm
       rewrite [hb5]
       refine wS_pure 10 [(52, .bool (true)), (51, undef), (50, undef), (49, undef), (48, undef), (47, undef), (46, undef), (45, undef), (44, undef), (43, undef)] (by kernel_rfl) ?_
       refine wS_end (by rfl) ?_
       refine eX_then ?_
       refine cW_prune [(0, .pointer (some ⟨b0, 0, none⟩)), (3, .int .i64 (((l0_0).length : Int))), (4, .slice (some ⟨b1, 0, none⟩) (l2).length (Int.toNat 13)), (5, .int .i64 (x1)), (52, .bool (true))] (by kernel_rfl) (by kernel_rfl) (fun a2 => ?_)
       refine cW_cond_t (by kernel_rfl) ?_
       refine cW_seq ?_
       refine cW_region ?_
       refine wS_pure 1 [(2, .bool (false))] (by kernel_rfl) ?_
       refine wS_end (by rfl) ?_
       refine eX_then ?_
       refine cW_ret ?_
       refine eX_then_ret ?_
       refine eX_block_ret ?_
       refine eX_then_ret ?_
       have hq : (some (Ctl.out (Sum.inr false)) : Option (Ctl (Int × (List (Int))) (Sum ((List (Int))) ((Bool))))) = some _ := hm
       replace hq := someE hq
       subst hq
       refine eX_outR hx1 (fun hr => ?_)
       subst hr
       refine eX_block_ret ?_
       refine eX_then_ret ?_
       refine eX_then_ret ?_
       have hq : (some false : Option ((Bool))) = some _ := hm1
       replace hq := someE hq
       subst hq
       refine eX_ret (vs := [.bool (false)]) [.tmp 2] (by rfl) ⟨by (show lkE _ _ _ = _); kernel_rfl, trivial⟩ ?_
       exact ⟨rfl, hB⟩
      ·have hm := condF hb5 hm
       rewrite [hb5]
       refine wS_pure 3 [(45, .pointer (some ⟨b0, 1, none⟩)), (44, .pointer (some ⟨b0, 0, none⟩)), (43, .pointer (some ⟨b0, 0, none⟩))] (by kernel_rfl) ?_
       refine wS_load1 (d := 46) (T := 24) (ad := ⟨b0, 1, none⟩) (v := .slice A0_1 (l0_1).length cap0_1) (by kernel_rfl) vt24 ((F4).cell 1) ?_
       refine wS_pure 1 [(47, .int .i64 (x1))] (by kernel_rfl) ?_
       obtain ⟨x3, hx3, hm⟩ := bindE hm
       refine wS_idx (d := 48) (T := 24) (A := A0_1) (n := (l0_1).length) (cap := cap0_1) (kd := .i64) (m := x1) (by kernel_rfl) sl24 (F3.is hx3) ?_
       refine wS_load1 (d := 49) (T := 2) (ad := (elA A0_1 1 (x1) 0)) (v := .int .i64 (x3)) (by kernel_rfl) vt2 (Sl.cell F3 hx3 0 (by rfl)) ?_
       obtain ⟨y2, hy2, hm⟩ := bindE hm
       refine wS_calls (d := 50) (f := 94) (vs := [.int .i64 (x3), .int .i64 (0), .int .i64 (12)]) (by kernel_rfl) ent94 (c_spec_l00In hy2) ?_
       rintro _ w4 ⟨rfl, hc3⟩
       replace F2 := F2.chg hc3 Dj.nil
       replace F3 := F3.chg hc3 Dj.nil
       replace F4 := F4.chg hc3 notNil
       replace F5 := F5.chg hc3 Dj.nil
       replace hB := hB.inS hc3 inNil
       replace hZ := Nat.le_trans hZ hc3.size
       refine ⟨.bool (y2), rfl, ?_⟩
       refine wS_pure 2 [(52, .bool (!y2)), (51, .bool (!y2))] (by kernel_rfl) ?_
       refine wS_end (by rfl) ?_
       refine eX_then ?_
       refine cW_prune [(0, .pointer (some ⟨b0, 0, none⟩)), (3, .int .i64 (((l0_0).length : Int))), (4, .slice (some ⟨b1, 0, none⟩) (l2).length (Int.toNat 13)), (5, .int .i64 (x1)), (52, .bool (!y2))] (by kernel_rfl) (by kernel_rfl) (fun a3 => ?_)
       refine cW_cond (t := !y2) (by kernel_rfl) (fun hb6 => ?_) (fun hb6 => ?_)
       ·have hm := condT hb6 hm
        refine cW_seq ?_
        refine cW_region ?_
        refine wS_pure 1 [(2, .bool (false))] (by kernel_rfl) ?_
        refine wS_end (by rfl) ?_
        refine eX_then ?_
        refine cW_ret ?_
        refine eX_then_ret ?_
        refine eX_block_ret ?_
        refine eX_then_ret ?_
        have hq : (some (Ctl.out (Sum.inr false)) : Option (Ctl (Int × (List (Int))) (Sum ((List (Int))) ((Bool))))) = some _ := hm
        replace hq := someE hq
        subst hq
        refine eX_outR hx1 (fun hr => ?_)
        subst hr
        refine eX_block_ret ?_
        refine eX_then_ret ?_
        refine eX_then_ret ?_
        have hq : (some false : Option ((Bool))) = some _ := hm1
        replace hq := someE hq
        subst hq
        refine eX_ret (vs := [.bool (false)]) [.tmp 2] (by rfl) ⟨by (show lkE _ _ _ = _); kernel_rfl, trivial⟩ ?_
        exact ⟨rfl, hB⟩
       ·have hm := condF hb6 hm
        refine cW_skip ?_
        refine eX_then ?_
        refine cW_seq ?_
        refine cW_region ?_
        refine wS_pure 4 [(56, .pointer (some ⟨b0, 0, none⟩)), (55, .pointer (some ⟨b0, 0, none⟩)), (54, .pointer (some ⟨b0, 0, none⟩)), (53, .slice (some ⟨b1, 0, none⟩) (l2).length (Int.toNat 13))] (by kernel_rfl) ?_
        refine wS_load1 (d := 57) (T := 24) (ad := ⟨b0, 0, none⟩) (v := .slice A0_0 (l0_0).length cap0_0) (by kernel_rfl) vt24 ((F4).cell 0) ?_
        refine wS_pure 1 [(58, .int .i64 (x1))] (by kernel_rfl) ?_
        obtain ⟨x4, hx4, hm⟩ := bindE hm
        refine wS_idx (d := 59) (T := 24) (A := A0_0) (n := (l0_0).length) (cap := cap0_0) (kd := .i64) (m := x1) (by kernel_rfl) sl24 (F2.is hx4) ?_
        refine wS_load1 (d := 60) (T := 2) (ad := (elA A0_0 1 (x1) 0)) (v := .int .i64 (x4)) (by kernel_rfl) vt2 (Sl.cell F2 hx4 0 (by rfl)) ?_
        obtain ⟨x5, hx5, hm⟩ := bindE hm
        refine wS_idx (d := 61) (T := 24) (A := (some ⟨b1, 0, none⟩)) (n := (l2).length) (cap := (Int.toNat 13)) (kd := .i64) (m := x4) (by kernel_rfl) sl24 ((F5.sl encI_ok).is hx5) ?_
        refine wS_load1 (d := 62) (T := 2) (ad := (elA (some ⟨b1, 0, none⟩) 1 (x4) 0)) (v := .int .i64 (x5)) (by kernel_rfl) vt2 (Sl.cell (F5.sl encI_ok) hx5 0 (by rfl)) ?_
        refine wS_pure 1 [(63, .int .i64 (wr (x5 + 1)))] (by kernel_rfl) ?_
        obtain ⟨x6, hx6, hm⟩ := bindE hm
        refine wS_idx (d := 64) (T := 24) (A := (some ⟨b1, 0, none⟩)) (n := (l2).length) (cap := (Int.toNat 13)) (kd := .i64) (m := x4) (by kernel_rfl) sl24 ((F5.sl encI_ok).is hx6) ?_
        refine wS_storeEl (x := x6) (wr (x5 + 1)) (T := 2) (U := 2) (cap := (Int.toNat 13)) (j := 0) (A := (some ⟨b1, 0, none⟩)) (v := .int .i64 (wr (x5 + 1))) (vs := [.int .i64 (wr (x5 + 1))]) (m := x4) (by kernel_rfl) (by rfl) sz2 (by rfl) encI_ok F5 hx6 (by simp only [List.length_cons, List.length_nil]; omega) (by rfl) ?_
        intro w5 F6 hc4
        replace F2 := F2.chg hc4 (Dj.of L0_0 G1)
        replace F3 := F3.chg hc4 (Dj.of L0_1 G1)
        replace F4 := F4.chg hc4 (dj1 (Dj.of L0 G1))
        replace hB := hB.inS hc4 (inLow G1)
        replace hZ := Nat.le_trans hZ hc4.size
        clear F5
        rewrite [show (l2).length = (l2.set (Int.toNat x4) (wr (x5 + 1))).length from (List.length_set ..).symm]
        refine wS_end (by rfl) ?_
        refine eX_then ?_
        refine cW_region ?_
        refine wS_pure 4 [(68, .pointer (some ⟨b0, 1, none⟩)), (67, .pointer (some ⟨b0, 0, none⟩)), (66, .pointer (some ⟨b0, 0, none⟩)), (65, .slice (some ⟨b1, 0, none⟩) (l2.set (Int.toNat x4) (wr (x5 + 1))).length (Int.toNat 13))] (by kernel_rfl) ?_
        refine wS_load1 (d := 69) (T := 24) (ad := ⟨b0, 1, none⟩) (v := .slice A0_1 (l0_1).length cap0_1) (by kernel_rfl) vt24 ((F4).cell 1) ?_
        refine wS_pure 1 [(70, .int .i64 (x1))] (by kernel_rfl) ?_
        obtain ⟨x7, hx7, hm⟩ := bindE hm
        refine wS_idx (d := 71) (T := 24) (A := A0_1) (n := (l0_1).length) (cap := cap0_1) (kd := .i64) (m := x1) (by kernel_rfl) sl24 (F3.is hx7) ?_
        refine wS_load1 (d := 72) (T := 2) (ad := (elA A0_1 1 (x1) 0)) (v := .int .i64 (x7)) (by kernel_rfl) vt2 (Sl.cell F3 hx7 0 (by rfl)) ?_
        obtain ⟨x8, hx8, hm⟩ := bindE hm
        refine wS_idx (d := 73) (T := 24) (A := (some ⟨b1, 0, none⟩)) (n := (l2.set (Int.toNat x4) (wr (x5 + 1))).length) (cap := (Int.toNat 13)) (kd := .i64) (m := x7) (by kernel_rfl) sl24 ((F6.sl encI_ok).is hx8) ?_
        refine wS_load1 (d := 74) (T := 2) (ad := (elA (some ⟨b1, 0, none⟩) 1 (x7) 0)) (v := .int .i64 (x8)) (by kernel_rfl) vt2 (Sl.cell (F6.sl encI_ok) hx8 0 (by rfl)) ?_
        refine wS_pure 1 [(75, .int .i64 (wr (x8 + 1)))] (by kernel_rfl) ?_
        obtain ⟨x9, hx9, hm⟩ := bindE hm
        refine wS_idx (d := 76) (T := 24) (A := (some ⟨b1, 0, none⟩)) (n := (l2.set (Int.toNat x4) (wr (x5 + 1))).length) (cap := (Int.toNat 13)) (kd := .i64) (m := x7) (by kernel_rfl) sl24 ((F6.sl encI_ok).is hx9) ?_
        refine wS_storeEl (x := x9) (wr (x8 + 1)) (T := 2) (U := 2) (cap := (Int.toNat 13)) (j := 0) (A := (some ⟨b1, 0, none⟩)) (v := .int .i64 (wr (x8 + 1))) (vs := [.int .i64 (wr (x8 + 1))]) (m := x7) (by kernel_rfl) (by rfl) sz2 (by rfl) encI_ok F6 hx9 (by simp only [List.length_cons, List.length_nil]; omega) (by rfl) ?_
        intro w6 F7 hc5
        replace F2 := F2.chg hc5 (Dj.of L0_0 G1)
        replace F3 := F3.chg hc5 (Dj.of L0_1 G1)
        replace F4 := F4.chg hc5 (dj1 (Dj.of L0 G1))
        replace hB := hB.inS hc5 (inLow G1)
        replace hZ := Nat.le_trans hZ hc5.size
        clear F6
        rewrite [show (l2.set (Int.toNat x4) (wr (x5 + 1))).length = ((l2.set (Int.toNat x4) (wr (x5 + 1))).set (Int.toNat x7) (wr (x8 + 1))).length from (List.length_set ..).symm]
        refine wS_end (by rfl) ?_
        refine eX_block ?_
        refine eX_then ?_
        refine cW_prune [(0, .pointer (some ⟨b0, 0, none⟩)), (3, .int .i64 (((l0_0).length : Int))), (4, .slice (some ⟨b1, 0, none⟩) ((l2.set (Int.toNat x4) (wr (x5 + 1))).set (Int.toNat x7) (wr (x8 + 1))).length (Int.toNat 13)), (5, .int .i64 (x1))] (by kernel_rfl) (by kernel_rfl) (fun a4 => ?_)
        refine cW_region ?_
        refine wS_pure 3 [(5, .int .i64 (wr (x1 + 1))), (32, .int .i64 (wr (x1 + 1))), (31, .int .i64 (x1))] (by kernel_rfl) ?_
        refine wS_end (by rfl) ?_
        have hq : (some (Ctl.next ((wr (x1 + 1), (l2.set (Int.toNat x4) (wr (x5 + 1))).set (Int.toNat x7) (wr (x8 + 1))))) : Option (Ctl (Int × (List (Int))) (Sum ((List (Int))) ((Bool))))) = some _ := hm
        replace hq := someE hq
        subst hq
        exact eX_next hx1 (fun hst => ⟨wr (x1 + 1), (l2.set (Int.toNat x4) (wr (x5 + 1))).set (Int.toNat x7) (wr (x8 + 1)), rfl, Fr.of hst (by kernel_rfl), F2, F3, F4, F7, hB, hZ⟩)
     ·have hm := condF hb4 hm
      refine cW_exit ?_
      refine eX_then_exit ?_
      have hq : (some (Ctl.out (Sum.inl l2)) : Option (Ctl (Int × (List (Int))) (Sum ((List (Int))) ((Bool))))) = some _ := hm
      replace hq := someE hq
      subst hq
      refine eX_outX hx1 (fun hr2 => ?_)
      replace hr2 := hr2.symm
      subst hr2
      refine eX_block_hit ?_
      exact eX_J (fun hst => ⟨l2, rfl, Fr.of hst (by kernel_rfl), F5, hB, hZ⟩)
    ·rintro a' w7 ⟨l1, hJ, hF2, F8, hB, hZ⟩
     subst hJ
     refine Fr.goX hF2 (by kernel_rfl) ?_
     refine eX_then ?_
     refine cW_seq ?_
     refine cW_seq ?_
     refine cW_region ?_
     refine wS_pure 1 [(6, .int .i64 (1))] (by kernel_rfl) ?_
     refine wS_end (by rfl) ?_
     refine eX_then ?_
     obtain ⟨r2, hr3, hm⟩ := bindE hm
     have hm2 := hm
     refine cW_cut (fun a' w' => Sum.inl (()) = r2 ∧ Fr 88 [] a' ∧ Chg [] w0 w' ∧ w0.heap.size ≤ w'.heap.size) ?_ ?_
     ·refine cW_block ?_
      refine cW_loop _ (fun (s2 : Int) a' w' => ∃ x10 : Int, x10 = s2 ∧ Fr 88 [(4, .slice (some ⟨b1, 0, none⟩) (l1).length (Int.toNat 13)), (6, .int .i64 (x10))] a' ∧ Ow 1 encI 2 w' [b1] (some ⟨b1, 0, none⟩) (Int.toNat 13) l1 ∧ Chg [] w0 w' ∧ w0.heap.size ≤ w'.heap.size) hr3 (fun hst => ⟨1, rfl, Fr.of hst (by kernel_rfl), F8, hB, hZ⟩) ?_
      rintro _ c2 a' w8 ⟨x10, rfl, hF3, F9, hB, hZ⟩ hx10
      refine Fr.goOn hF3 (by kernel_rfl) ?_
      have hm := hx10
      unfold m_spec_l03Is_bimplChannel_s2 at hm
      refine cW_seq ?_
      refine cW_seq ?_
      refine cW_region ?_
      refine wS_pure 4 [(80, .bool (decide (x10 < (((l1).length : Int))))), (79, .int .i64 (((l1).length : Int))), (78, .slice (some ⟨b1, 0, none⟩) (l1).length (Int.toNat 13)), (77, .int .i64 (x10))] (by kernel_rfl) ?_
      refine wS_end (by rfl) ?_
      refine eX_then ?_
      refine cW_cond (t := decide (x10 < (((l1).length : Int)))) (by kernel_rfl) (fun hb7 => ?_) (fun hb7 => ?_)
      ·have hm := condT hb7 hm
       refine cW_skip ?_
       refine eX_then ?_
       refine cW_seq ?_
       refine cW_block ?_
       refine cW_seq ?_
       refine cW_region ?_
       refine wS_pure 2 [(84, .int .i64 (x10)), (83, .slice (some ⟨b1, 0, none⟩) (l1).length (Int.toNat 13))] (by kernel_rfl) ?_
       obtain ⟨x11, hx11, hm⟩ := bindE hm
       refine wS_idx (d := 85) (T := 24) (A := (some ⟨b1, 0, none⟩)) (n := (l1).length) (cap := (Int.toNat 13)) (kd := .i64) (m := x10) (by kernel_rfl) sl24 ((F9.sl encI_ok).is hx11) ?_
       refine wS_load1 (d := 86) (T := 2) (ad := (elA (some ⟨b1, 0, none⟩) 1 (x10) 0)) (v := .int .i64 (x11)) (by kernel_rfl) vt2 (Sl.cell (F9.sl encI_ok) hx11 0 (by rfl)) ?_
       refine wS_pure 1 [(87, .bool (x11 == 1))] (by kernel_rfl) ?_
       refine wS_end (by rfl) ?_
       refine eX_then ?_
       refine cW_cond (t := x11 == 1) (by kernel_rfl) (fun hb8 => ?_) (fun hb8 => ?_)
       ·have hm := condT hb8 hm
        refine cW_seq ?_
        refine cW_region ?_
        refine wS_pure 1 [(2, .bool (false))] (by kernel_rfl) ?_
        refine wS_end (by rfl) ?_
        refine eX_then ?_
        refine cW_ret ?_
        refine eX_block_ret ?_
        refine eX_then_ret ?_
        have hq : (some (Ctl.out (Sum.inr false)) : Option (Ctl (Int) (Sum (Unit) ((Bool))))) = some _ := hm
        replace hq := someE hq
        subst hq
        refine eX_outR hx10 (fun hr => ?_)
        subst hr
        refine eX_block_ret ?_
        refine eX_then_ret ?_
        refine eX_then_ret ?_
        have hq : (some false : Option ((Bool))) = some _ := hm2
        replace hq := someE hq
        subst hq
        refine eX_ret (vs := [.bool (false)]) [.tmp 2] (by rfl) ⟨by (show lkE _ _ _ = _); kernel_rfl, trivial⟩ ?_
        exact ⟨rfl, hB⟩
       ·have hm := condF hb8 hm
        refine cW_skip ?_
        refine eX_block ?_
        refine eX_then ?_
        refine cW_region ?_
        refine wS_pure 3 [(6, .int .i64 (wr (x10 + 1))), (82, .int .i64 (wr (x10 + 1))), (81, .int .i64 (x10))] (by kernel_rfl) ?_
        refine wS_end (by rfl) ?_
        have hq : (some (Ctl.next (wr (x10 + 1))) : Option (Ctl (Int) (Sum (Unit) ((Bool))))) = some _ := hm
        replace hq := someE hq
        subst hq
        exact eX_next hx10 (fun hst => ⟨wr (x10 + 1), rfl, Fr.of hst (by kernel_rfl), F9, hB, hZ⟩)
      ·have hm := condF hb7 hm
       refine cW_exit ?_
       refine eX_then_exit ?_
       have hq : (some (Ctl.out (Sum.inl (()))) : Option (Ctl (Int) (Sum (Unit) ((Bool))))) = some _ := hm
       replace hq := someE hq
       subst hq
       refine eX_outX hx10 (fun hr4 => ?_)
       replace hr4 := hr4.symm
       subst hr4
       refine eX_block_hit ?_
       exact eX_J (fun hst => ⟨rfl, Fr.of hst (by kernel_rfl), hB, hZ⟩)
     ·rintro a' w9 ⟨hJ, hF4, hB, hZ⟩
      subst hJ
      refine Fr.goX hF4 (by kernel_rfl) ?_
      refine eX_then ?_
      refine cW_seq ?_
      refine cW_region ?_
      refine wS_pure 1 [(2, .bool (true))] (by kernel_rfl) ?_
      refine wS_end (by rfl) ?_
      refine eX_then ?_
      refine cW_ret ?_
      have hq : (some true : Option ((Bool))) = some _ := hm
      replace hq := someE hq
      subst hq
      refine eX_ret (vs := [.bool (true)]) [.tmp 2] (by rfl) ⟨by (show lkE _ _ _ = _); kernel_rfl, trivial⟩ ?_
      exact ⟨rfl, hB⟩

set_option maxRecDepth 100000 in
/-- laws.szInt64S -/
theorem c_laws_szInt64S {w0 : World} {l0 : List (Int)} {A0 : Option Addr} {cap0 : Nat} {fp0 : List Nat} {p1 : Int} {r : (Int)} (hm : m_laws_szInt64S l0 p1 = some r) (F0 : Sl 1 encI w0 fp0 A0 l0) :
  Calls Tryd.prog 63 #[.slice A0 (l0).length cap0, .int .i64 (p1)] w0 fun e w' => e = .returned (.int .i64 (r)) ∧ Chg [] w0 w' := by
 have L0 := F0.low
 have hB : Chg [] w0 w0 := Chg.refl _ _
 have hZ := Nat.le_refl w0.heap.size
 unfold m_laws_szInt64S at hm
 refine enterE (N := 12) Tryd.func63 (by rfl) Tryd.ntmps63 (by simp) [(0, .slice A0 (l0).length cap0), (1, .int .i64 (p1))] (by rfl) (by kernel_rfl) (fun a => ?_)
 refine cW_seq ?_
 refine cW_region ?_
 refine wS_pure 1 [(4, .int .i64 (0))] (by kernel_rfl) ?_
 refine wS_end (by rfl) ?_
 refine eX_then ?_
 refine cW_seq ?_
 refine cW_region ?_
 refine wS_pure 5 [(1, .int .i64 (wr (p1 - (((l0).length : Int))))), (8, .int .i64 (wr (p1 - (((l0).length : Int))))), (7, .int .i64 (((l0).length : Int))), (6, .slice A0 (l0).length cap0), (5, .int .i64 (p1))] (by kernel_rfl) ?_
 refine wS_end (by rfl) ?_
 refine eX_then ?_
 refine cW_seq ?_
 refine cW_seq ?_
 refine cW_region ?_
 refine wS_pure 2 [(10, .bool (decide ((wr (p1 - (((l0).length : Int)))) < 0))), (9, .int .i64 (wr (p1 - (((l0).length : Int)))))] (by kernel_rfl) ?_
 refine wS_end (by rfl) ?_
 refine eX_then ?_
 refine cW_cond (t := decide ((wr (p1 - (((l0).length : Int)))) < 0)) (by kernel_rfl) (fun hb1 => ?_) (fun hb1 => ?_)
 ·have hm := condT hb1 hm
  refine cW_seq ?_
  refine cW_region ?_
  refine wS_pure 1 [(4, .int .i64 ((-1)))] (by kernel_rfl) ?_
  refine wS_end (by rfl) ?_
  refine eX_then ?_
  refine cW_ret ?_
  refine eX_then_ret ?_
  have hq : (some ((-1)) : Option ((Int))) = some _ := hm
  replace hq := someE hq
  subst hq
  refine eX_ret (vs := [.int .i64 ((-1))]) [.tmp 4] (by rfl) ⟨by (show lkE _ _ _ = _); kernel_rfl, trivial⟩ ?_
  exact ⟨rfl, hB⟩
 ·have hm := condF hb1 hm
  refine cW_skip ?_
  refine eX_then ?_
  refine cW_seq ?_
  refine cW_region ?_
  refine wS_pure 2 [(4, .int .i64 (wr (p1 - (((l0).length : Int))))), (11, .int .i64 (wr (p1 - (((l0).length : Int)))))] (by kernel_rfl) ?_
  refine wS_end (by rfl) ?_
  refine eX_then ?_
  refine cW_ret ?_
  have hq : (some (wr (p1 - (((l0).length : Int)))) : Option ((Int))) = some _ := hm
  replace hq := someE hq
  subst hq
  refine eX_ret (vs := [.int .i64 (wr (p1 - (((l0).length : Int))))]) [.tmp 4] (by rfl) ⟨by (show lkE _ _ _ = _); kernel_rfl, trivial⟩ ?_
  exact ⟨rfl, hB⟩

set_option maxRecDepth 100000 in
/-- laws.szChannel -/
theorem c_laws_szChannel {w0 : World} {l0_0 : List (Int)} {A0_0 : Option Addr} {cap0_0 : Nat} {fp0_0 : List Nat} {l0_1 : List (Int)} {A0_1 : Option Addr} {cap0_1 : Nat} {fp0_1 : List Nat} {p1 : Int} {r : (Int)} (hm : m_laws_szChannel l0_0 l0_1 p1 = some r) (F0_0 : Sl 1 encI w0 fp0_0 A0_0 l0_0) (F0_1 : Sl 1 encI w0 fp0_1 A0_1 l0_1) :
  Calls Tryd.prog 20 #[.agg #[.slice A0_0 (l0_0).length cap0_0, .slice A0_1 (l0_1).length cap0_1], .int .i64 (p1)] w0 fun e w' => e = .returned (.int .i64 (r)) ∧ Chg [] w0 w' := by
 have L0_0 := F0_0.low
 have L0_1 := F0_1.low
 have hB : Chg [] w0 w0 := Chg.refl _ _
 have hZ := Nat.le_refl w0.heap.size
 unfold m_laws_szChannel at hm
 refine enterE (N := 18) Tryd.func20 (by rfl) Tryd.ntmps20 (by simp) [(0, .agg #[.slice A0_0 (l0_0).length cap0_0, .slice A0_1 (l0_1).length cap0_1]), (1, .int .i64 (p1))] (by rfl) (by kernel_rfl) (fun a => ?_)
 refine cW_seq ?_
 refine cW_region ?_
 refine wS_box (d := 2) (T := 39) (x := .agg #[.slice A0_0 (l0_0).length cap0_0, .slice A0_1 (l0_1).length cap0_1]) (by kernel_rfl) ?_
 intro b1 w1 G1 F1 hc1
 replace F1 : Cl w1 b1 39 [.slice A0_0 (l0_0).length cap0_0, .slice A0_1 (l0_1).length cap0_1] := F1
 replace F0_0 := F0_0.chg hc1 Dj.nil
 replace F0_1 := F0_1.chg hc1 Dj.nil
 replace hB := hB.inS hc1 inNil
 replace G1 := Nat.le_trans hZ G1
 replace hZ := Nat.le_trans hZ hc1.size
 refine wS_pure 1 [(4, .int .i64 (0))] (by kernel_rfl) ?_
 refine wS_end (by rfl) ?_
 refine eX_then ?_
 refine cW_seq ?_
 refine cW_region ?_
 refine wS_pure 1 [(5, .pointer (some ⟨b1, 0, none⟩))] (by kernel_rfl) ?_
 refine wS_load1 (d := 6) (T := 24) (ad := ⟨b1, 0, none⟩) (v := .slice A0_0 (l0_0).length cap0_0) (by kernel_rfl) vt24 ((F1).cell 0) ?_
 refine wS_pure 1 [(7, .int .i64 (p1))] (by kernel_rfl) ?_
 obtain ⟨y1, hy1, hm⟩ := bindE hm
 refine wS_calls (d := 8) (f := 63) (vs := [.slice A0_0 (l0_0).length cap0_0, .int .i64 (p1)]) (by kernel_rfl) ent63 (c_laws_szInt64S hy1 F0_0) ?_
 rintro _ w2 ⟨rfl, hc2⟩
 replace F0_0 := F0_0.chg hc2 Dj.nil
 replace F0_1 := F0_1.chg hc2 Dj.nil
 replace F1 := F1.chg hc2 notNil
 replace hB := hB.inS hc2 inNil
 replace hZ := Nat.le_trans hZ hc2.size
 refine ⟨.int .i64 (y1), rfl, ?_⟩
 refine wS_pure 1 [(1, .int .i64 (y1))] (by kernel_rfl) ?_
 refine wS_end (by rfl) ?_
 refine eX_then ?_
 refine cW_seq ?_
 refine cW_seq ?_
 refine cW_region ?_
 refine wS_pure 2 [(10, .bool (decide (y1 < 0))), (9, .int .i64 (y1))] (by kernel_rfl) ?_
 refine wS_end (by rfl) ?_
 refine eX_then ?_
 refine cW_cond (t := decide (y1 < 0)) (by kernel_rfl) (fun hb1 => ?_) (fun hb1 => ?_)
 ·have hm := condT hb1 hm
  refine cW_seq ?_
  refine cW_region ?_
  refine wS_pure 1 [(4, .int .i64 ((-1)))] (by kernel_rfl) ?_
  refine wS_end (by rfl) ?_
  refine eX_then ?_
  refine cW_ret ?_
  refine eX_then_ret ?_
  have hq : (some ((-1)) : Option ((Int))) = some _ := hm
  replace hq := someE hq
  subst hq
  refine eX_ret (vs := [.int .i64 ((-1))]) [.tmp 4] (by rfl) ⟨by (show lkE _ _ _ = _); kernel_rfl, trivial⟩ ?_
  exact ⟨rfl, hB⟩
 ·have hm := condF hb1 hm
  refine cW_skip ?_
  refine eX_then ?_
  refine cW_seq ?_
  refine cW_region ?_
  refine wS_pure 1 [(11, .pointer (some ⟨b1, 1, none⟩))] (by kernel_rfl) ?_
  refine wS_load1 (d := 12) (T := 24) (ad := ⟨b1, 1, none⟩) (v := .slice A0_1 (l0_1).length cap0_1) (by kernel_rfl) vt24 ((F1).cell 1) ?_
  refine wS_pure 1 [(13, .int .i64 (y1))] (by kernel_rfl) ?_
  obtain ⟨y2, hy2, hm⟩ := bindE hm
  refine wS_calls (d := 14) (f := 63) (vs := [.slice A0_1 (l0_1).length cap0_1, .int .i64 (y1)]) (by kernel_rfl) ent63 (c_laws_szInt64S hy2 F0_1) ?_
  rintro _ w3 ⟨rfl, hc3⟩
  replace F0_0 := F0_0.chg hc3 Dj.nil
  replace F0_1 := F0_1.chg hc3 Dj.nil
  replace F1 := F1.chg hc3 notNil
  replace hB := hB.inS hc3 inNil
  replace hZ := Nat.le_trans hZ hc3.size
  refine ⟨.int .i64 (y2), rfl, ?_⟩
  refine wS_pure 1 [(1, .int .i64 (y2))] (by kernel_rfl) ?_
  refine wS_end (by rfl) ?_
  refine eX_then ?_
  refine cW_seq ?_
  refine cW_seq ?_
  refine cW_region ?_
  refine wS_pure 2 [(16, .bool (decide (y2 < 0))), (15, .int .i64 (y2))] (by kernel_rfl) ?_
  refine wS_end (by rfl) ?_
  refine eX_then ?_
  refine cW_cond (t := decide (y2 < 0)) (by kernel_rfl) (fun hb2 => ?_) (fun hb2 => ?_)
  ·have hm := condT hb2 hm
   refine cW_seq ?_
   refine cW_region ?_
   refine wS_pure 1 [(4, .int .i64 ((-1)))] (by kernel_rfl) ?_
   refine wS_end (by rfl) ?_
   refine eX_then ?_
   refine cW_ret ?_
   refine eX_then_ret ?_
   have hq : (some ((-1)) : Option ((Int))) = some _ := hm
   replace hq := someE hq
   subst hq
   refine eX_ret (vs := [.int .i64 ((-1))]) [.tmp 4] (by rfl) ⟨by (show lkE _ _ _ = _); kernel_rfl, trivial⟩ ?_
   exact ⟨rfl, hB⟩
  ·have hm := condF hb2 hm
   refine cW_skip ?_
   refine eX_then ?_
   refine cW_seq ?_
   refine cW_region ?_
   refine wS_pure 2 [(4, .int .i64 (y2)), (17, .int .i64 (y2))] (by kernel_rfl) ?_
   refine wS_end (by rfl) ?_
   refine eX_then ?_
   refine cW_ret ?_
   have hq : (some y2 : Option ((Int))) = some _ := hm
   replace hq := someE hq
   subst hq
   refine eX_ret (vs := [.int .i64 (y2)]) [.tmp 4] (by rfl) ⟨by (show lkE _ _ _ = _); kernel_rfl, trivial⟩ ?_
   exact ⟨rfl, hB⟩

set_option maxRecDepth 100000 in
/-- spec.l03Less -/
theorem c_spec_l03Less {w0 : World} {l0 : List (Int)} {A0 : Option Addr} {cap0 : Nat} {fp0 : List Nat} {l1 : List (Int)} {A1 : Option Addr} {cap1 : Nat} {fp1 : List Nat} {r : (Bool)} (hm : m_spec_l03Less l0 l1 = some r) (F0 : Sl 1 encI w0 fp0 A0 l0) (F1 : Sl 1 encI w0 fp1 A1 l1) :
  Calls Tryd.prog 97 #[.slice A0 (l0).length cap0, .slice A1 (l1).length cap1] w0 fun e w' => e = .returned (.bool (r)) ∧ Chg [] w0 w' := by
 have L0 := F0.low
 have L1 := F1.low
 have hB : Chg [] w0 w0 := Chg.refl _ _
 have hZ := Nat.le_refl w0.heap.size
 unfold m_spec_l03Less at hm
 refine enterE (N := 41) Tryd.func97 (by rfl) Tryd.ntmps97 (by simp) [(0, .slice A0 (l0).length cap0), (1, .slice A1 (l1).length cap1)] (by rfl) (by kernel_rfl) (fun a => ?_)
 refine cW_seq ?_
 refine cW_region ?_
 refine wS_pure 1 [(4, .bool (false))] (by kernel_rfl) ?_
 refine wS_end (by rfl) ?_
 refine eX_then ?_
 refine cW_seq ?_
 refine cW_seq ?_
 refine cW_region ?_
 refine wS_pure 1 [(5, .int .i64 (0))] (by kernel_rfl) ?_
 refine wS_end (by rfl) ?_
 refine eX_then ?_
 obtain ⟨r1, hr1, hm⟩ := bindE hm
 have hm1 := hm
 refine cW_cut (fun a' w' => Sum.inl (()) = r1 ∧ Fr 41 [(0, .slice A0 (l0).length cap0), (1, .slice A1 (l1).length cap1)] a' ∧ Sl 1 encI w' fp0 A0 l0 ∧ Sl 1 encI w' fp1 A1 l1 ∧ Chg [] w0 w' ∧ w0.heap.size ≤ w'.heap.size) ?_ ?_
 ·refine cW_block ?_
  refine cW_loop _ (fun (s1 : Int) a' w' => ∃ x1 : Int, x1 = s1 ∧ Fr 41 [(0, .slice A0 (l0).length cap0), (1, .slice A1 (l1).length cap1), (5, .int .i64 (x1))] a' ∧ Sl 1 encI w' fp0 A0 l0 ∧ Sl 1 encI w' fp1 A1 l1 ∧ Chg [] w0 w' ∧ w0.heap.size ≤ w'.heap.size) hr1 (fun hst => ⟨0, rfl, Fr.of hst (by kernel_rfl), F0, F1, hB, hZ⟩) ?_
  rintro _ c1 a' w1 ⟨x1, rfl, hF1, F2, F3, hB, hZ⟩ hx1
  refine Fr.goOn hF1 (by kernel_rfl) ?_
  have hm := hx1
  unfold m_spec_l03Less_s1 at hm
  refine cW_seq ?_
  refine cW_seq ?_
  refine cW_region ?_
  refine wS_pure 5 [(10, .bool (decide (x1 < (((l0).length : Int))))), (9, .bool (decide (x1 < (((l0).length : Int))))), (8, .int .i64 (((l0).length : Int))), (7, .slice A0 (l0).length cap0), (6, .int .i64 (x1))] (by kernel_rfl) ?_
  refine wS_bool (decide (x1 < (((l0).length : Int)))) (fun hb1 => ?_) (fun hb1 => ?_)
  ·have hm := condT hb1 hm
   rewrite [hb1]
   refine wS_pure 5 [(15, .bool (decide (x1 < (((l1).length : Int))))), (14, .bool (decide (x1 < (((l1).length : Int))))), (13, .int .i64 (((l1).length : Int))), (12, .slice A1 (l1).length cap1), (11, .int .i64 (x1))] (by kernel_rfl) ?_
   refine wS_end (by rfl) ?_
   refine eX_then ?_
   refine cW_cond (t := decide (x1 < (((l1).length : Int)))) (by kernel_rfl) (fun hb2 => ?_) (fun hb2 => ?_)
   ·have hm := condT hb2 hm
    refine cW_skip ?_
    refine eX_then ?_
    refine cW_seq ?_
    refine cW_block ?_
    refine cW_seq ?_
    refine cW_drawnTail [] 8 (by kernel_rfl) (by kernel_rfl) (fun w2 hc1 => ?_)
    replace F2 := F2.chg hc1 Dj.nil
    replace F3 := F3.chg hc1 Dj.nil
    replace hB := hB.inS hc1 inNil
    replace hZ := Nat.le_trans hZ hc1.size
    have hS := Chg.refl [] w2
    have Z1 := F2
    have Z2 := F3
    refine wH_take [0, 1] [1, 0] [(19, .int .i64 (x1)), (18, .slice A0 (l0).length cap0)] (by kernel_rfl) (qT (qT (qB (qT (qL (qB (qT (qT qZ)))))))) (by kernel_rfl) ?_
    obtain ⟨x2, hx2, hm⟩ := bindE hm
    refine wH_idx (i := 2) (d := 20) (T := 24) (A := A0) (n := (l0).length) (cap := cap0) (kd := .i64) (m := x1) (by kernel_rfl) (qT (qT (qB (qT (qL (qB (qT (qT qZ)))))))) (by kernel_rfl) (by kernel_rfl) sl24 (F2.is hx2) ?_
    refine wH_load1 (i := 3) (d := 21) (T := 2) (ad := (elA A0 1 (x1) 0)) (v := .int .i64 (x2)) (by kernel_rfl) (qT (qT (qB (qT (qL (qB (qT (qT qZ)))))))) (by kernel_rfl) (by kernel_rfl) vt2 (fun W hW => Sl.cell (Z1.chg hW Dj.nil) hx2 0 (by rfl)) ?_
    refine wH_take [4, 5] [5, 4, 3, 2, 1, 0] [(23, .int .i64 (x1)), (22, .slice A1 (l1).length cap1)] (by kernel_rfl) (qT (qT (qB (qT (qL (qB (qT (qT qZ)))))))) (by kernel_rfl) ?_
    obtain ⟨x3, hx3, hm⟩ := bindE hm
    refine wH_idx (i := 6) (d := 24) (T := 24) (A := A1) (n := (l1).length) (cap := cap1) (kd := .i64) (m := x1) (by kernel_rfl) (qT (qT (qB (qT (qL (qB (qT (qT qZ)))))))) (by kernel_rfl) (by kernel_rfl) sl24 (F3.is hx3) ?_
    refine wH_load1 (i := 7) (d := 25) (T := 2) (ad := (elA A1 1 (x1) 0)) (v := .int .i64 (x3)) (by kernel_rfl) (qT (qT (qB (qT (qL (qB (qT (qT qZ)))))))) (by kernel_rfl) (by kernel_rfl) vt2 (fun W hW => Sl.cell (Z2.chg hW Dj.nil) hx3 0 (by rfl)) ?_
    refine wH_done (by kernel_rfl) ?_
    refine eX_tail ?_
    refine wS_pure 1 [(26, .bool (x2 != x3))] (by kernel_rfl) ?_
    refine wS_end (by rfl) ?_
    refine eX_then ?_
    refine cW_cond (t := x2 != x3) (by kernel_rfl) (fun hb3 => ?_) (fun hb3 => ?_)
    ·have hm := condT hb3 hm
     refine cW_seq ?_
     refine cW_drawnTail [] 8 (by kernel_rfl) (by kernel_rfl) (fun w3 hc2 => ?_)
     replace F2 := F2.chg hc2 Dj.nil
     replace F3 := F3.chg hc2 Dj.nil
     replace hB := hB.inS hc2 inNil
     replace hZ := Nat.le_trans hZ hc2.size
     have hS := Chg.refl [] w3
     have Z3 := F2
     have Z4 := F3
     refine wH_take [0, 1] [1, 0] [(28, .int .i64 (x1)), (27, .slice A0 (l0).length cap0)] (by kernel_rfl) (qT (qT (qB (qT (qL (qB (qT (qT qZ)))))))) (by kernel_rfl) ?_
     obtain ⟨x4, hx4, hm⟩ := bindE hm
     refine wH_idx (i := 2) (d := 29) (T := 24) (A := A0) (n := (l0).length) (cap := cap0) (kd := .i64) (m := x1) (by kernel_rfl) (qT (qT (qB (qT (qL (qB (qT (qT qZ)))))))) (by kernel_rfl) (by kernel_rfl) sl24 (F2.is hx4) ?_
     refine wH_load1 (i := 3) (d := 30) (T := 2) (ad := (elA A0 1 (x1) 0)) (v := .int .i64 (x4)) (by kernel_rfl) (qT (qT (qB (qT (qL (qB (qT (qT qZ)))))))) (by kernel_rfl) (by kernel_rfl) vt2 (fun W hW => Sl.cell (Z3.chg hW Dj.nil) hx4 0 (by rfl)) ?_
     refine wH_take [4, 5] [5, 4, 3, 2, 1, 0] [(32, .int .i64 (x1)), (31, .slice A1 (l1).length cap1)] (by kernel_rfl) (qT (qT (qB (qT (qL (qB (qT (qT qZ)))))))) (by kernel_rfl) ?_
     obtain ⟨x5, hx5, hm⟩ := bindE hm
     refine wH_idx (i := 6) (d := 33) (T := 24) (A := A1) (n := (l1).length) (cap := cap1) (kd := .i64) (m := x1) (by kernel_rfl) (qT (qT (qB (qT (qL (qB (qT (qT qZ)))))))) (by kernel_rfl) (by kernel_rfl) sl24 (F3.is hx5) ?_
     refine wH_load1 (i := 7) (d := 34) (T := 2) (ad := (elA A1 1 (x1) 0)) (v := .int .i64 (x5)) (by kernel_rfl) (qT (qT (qB (qT (qL (qB (qT (qT qZ)))))))) (by kernel_rfl) (by kernel_rfl) vt2 (fun W hW => Sl.cell (Z4.chg hW Dj.nil) hx5 0 (by rfl)) ?_
     refine wH_done (by kernel_rfl) ?_
     refine eX_tail ?_
     refine wS_pure 2 [(4, .bool (decide (x4 < x5))), (35, .bool (decide (x4 < x5)))] (by kernel_rfl) ?_
     refine wS_end (by rfl) ?_
     refine eX_then ?_
     refine cW_prune [(4, .bool (decide (x4 < x5)))] (by kernel_rfl) (by kernel_rfl) (fun a1 => ?_)
     refine cW_ret ?_
     refine eX_block_ret ?_
     refine eX_then_ret ?_
     have hq : (some (Ctl.out (Sum.inr (decide (x4 < x5)))) : Option (Ctl (Int) (Sum (Unit) ((Bool))))) = some _ := hm
     replace hq := someE hq
     subst hq
     refine eX_outR hx1 (fun hr => ?_)
     subst hr
     refine eX_block_ret ?_
     refine eX_then_ret ?_
     refine eX_then_ret ?_
     have hq : (some (decide (x4 < x5)) : Option ((Bool))) = some _ := hm1
     replace hq := someE hq
     subst hq
     refine eX_ret (vs := [.bool (decide (x4 < x5))]) [.tmp 4] (by rfl) ⟨by (show lkE _ _ _ = _); kernel_rfl, trivial⟩ ?_
     exact ⟨rfl, hB⟩
    ·have hm := condF hb3 hm
     refine cW_skip ?_
     refine eX_block ?_
     refine eX_then ?_
     refine cW_region ?_
     refine wS_pure 3 [(5, .int .i64 (wr (x1 + 1))), (17, .int .i64 (wr (x1 + 1))), (16, .int .i64 (x1))] (by kernel_rfl) ?_
     refine wS_end (by rfl) ?_
     have hq : (some (Ctl.next (wr (x1 + 1))) : Option (Ctl (Int) (Sum (Unit) ((Bool))))) = some _ := hm
     replace hq := someE hq
     subst hq
     exact eX_next hx1 (fun hst => ⟨wr (x1 + 1), rfl, Fr.of hst (by kernel_rfl), F2, F3, hB, hZ⟩)
   ·have hm := condF hb2 hm
    refine cW_exit ?_
    refine eX_then_exit ?_
    have hq : (some (Ctl.out (Sum.inl (()))) : Option (Ctl (Int) (Sum (Unit) ((Bool))))) = some _ := hm
    replace hq := someE hq
    subst hq
    refine eX_outX hx1 (fun hr2 => ?_)
    replace hr2 := hr2.symm
    subst hr2
    refine eX_block_hit ?_
    exact eX_J (fun hst => ⟨rfl, Fr.of hst (by kernel_rfl), F2, F3, hB, hZ⟩)
  ·have hm := condF hb1 hm
   rewrite [hb1]
   refine wS_pure 5 [(15, .bool (false)), (14, undef), (13, undef), (12, undef), (11, undef)] (by kernel_rfl) ?_
   refine wS_end (by rfl) ?_
   refine eX_then ?_
   refine cW_cond_f (by kernel_rfl) ?_
   refine cW_exit ?_
   refine eX_then_exit ?_
   have hq : (some (Ctl.out (Sum.inl (()))) : Option (Ctl (Int) (Sum (Unit) ((Bool))))) = some _ := hm
   replace hq := someE hq
   subst hq
   refine eX_outX hx1 (fun hr3 => ?_)
   replace hr3 := hr3.symm
   subst hr3
   refine eX_block_hit ?_
   exact eX_J (fun hst => ⟨rfl, Fr.of hst (by kernel_rfl), F2, F3, hB, hZ⟩)
 ·rintro a' w4 ⟨hJ, hF2, F4, F5, hB, hZ⟩
  subst hJ
  refine Fr.goX hF2 (by kernel_rfl) ?_
  refine eX_then ?_
  refine cW_seq ?_
  refine cW_region ?_
  refine wS_pure 6 [(4, .bool (decide ((((l0).length : Int)) < (((l1).length : Int))))), (40, .bool (decide ((((l0).length : Int)) < (((l1).length : Int))))), (39, .int .i64 (((l1).length : Int))), (38, .slice A1 (l1).length cap1), (37, .int .i64 (((l0).length : Int))), (36, .slice A0 (l0).length cap0)] (by kernel_rfl) ?_
  refine wS_end (by rfl) ?_
  refine eX_then ?_
  refine cW_ret ?_
  have hq : (some (decide ((((l0).length : Int)) < (((l1).length : Int)))) : Option ((Bool))) = some _ := hm
  replace hq := someE hq
  subst hq
  refine eX_ret (vs := [.bool (decide ((((l0).length : Int)) < (((l1).length : Int))))]) [.tmp 4] (by rfl) ⟨by (show lkE _ _ _ = _); kernel_rfl, trivial⟩ ?_
  exact ⟨rfl, hB⟩

set_option maxRecDepth 100000 in
/-- spec.l03Fits -/
theorem c_spec_l03Fits_bspecl03Things {w0 : World} {l0_0 : List (Int)} {A0_0 : Option Addr} {cap0_0 : Nat} {fp0_0 : List Nat} {l0_1 : List (List (Bool))} {A0_1 : Option Addr} {cap0_1 : Nat} {fp0_1 : List Nat} {l0_2 : List (List (Bool))} {A0_2 : Option Addr} {cap0_2 : Nat} {fp0_2 : List Nat} {b0 : Nat} {p1 : Int} {p2 : Int} {r : (Bool)} (hm : m_spec_l03Fits_bspecl03Things l0_0 l0_1 l0_2 p1 p2 = some r) (F0_0 : Sl 1 encI w0 fp0_0 A0_0 l0_0) (F0_1 : SlR 1 encB w0 fp0_1 A0_1 l0_1) (F0_2 : SlR 1 encB w0 fp0_2 A0_2 l0_2) (F0 : Cl w0 b0 94 [.slice A0_0 (l0_0).length cap0_0, .slice A0_1 (l0_1).length cap0_1, .slice A0_2 (l0_2).length cap0_2]) :
  Calls Tryd.prog 96 #[.pointer (some ⟨b0, 0, none⟩), .int .i64 (p1), .int .i64 (p2)] w0 fun e w' => e = .returned (.bool (r)) ∧ Chg [] w0 w' := by
 have L0_0 := F0_0.low
 have L0_1 := F0_1.low
 have L0_2 := F0_2.low
 have L0 := lt1 F0.lt
 have hB : Chg [] w0 w0 := Chg.refl _ _
 have hZ := Nat.le_refl w0.heap.size
 unfold m_spec_l03Fits_bspecl03Things at hm
 refine enterE (N := 71) Tryd.func96 (by rfl) Tryd.ntmps96 (by simp) [(0, .pointer (some ⟨b0, 0, none⟩)), (1, .int .i64 (p1)), (2, .int .i64 (p2))] (by rfl) (by kernel_rfl) (fun a => ?_)
 refine cW_seq ?_
 refine cW_region ?_
 refine wS_pure 1 [(6, .bool (false))] (by kernel_rfl) ?_
 refine wS_end (by rfl) ?_
 refine eX_then ?_
 refine cW_seq ?_
 refine cW_seq ?_
 refine cW_region ?_
 refine wS_pure 1 [(7, .int .i64 (0))] (by kernel_rfl) ?_
 refine wS_end (by rfl) ?_
 refine eX_then ?_
 obtain ⟨r1, hr1, hm⟩ := bindE hm
 have hm1 := hm
 refine cW_cut (fun a' w' => Sum.inl (()) = r1 ∧ Fr 71 [(1, .int .i64 (p1))] a' ∧ Chg [] w0 w' ∧ w0.heap.size ≤ w'.heap.size) ?_ ?_
 ·refine cW_block ?_
  refine cW_loop _ (fun (s1 : Int) a' w' => ∃ x1 : Int, x1 = s1 ∧ Fr 71 [(0, .pointer (some ⟨b0, 0, none⟩)), (1, .int .i64 (p1)), (2, .int .i64 (p2)), (7, .int .i64 (x1))] a' ∧ Sl 1 encI w' fp0_0 A0_0 l0_0 ∧ SlR 1 encB w' fp0_1 A0_1 l0_1 ∧ SlR 1 encB w' fp0_2 A0_2 l0_2 ∧ Cl w' b0 94 [.slice A0_0 (l0_0).length cap0_0, .slice A0_1 (l0_1).length cap0_1, .slice A0_2 (l0_2).length cap0_2] ∧ Chg [] w0 w' ∧ w0.heap.size ≤ w'.heap.size) hr1 (fun hst => ⟨0, rfl, Fr.of hst (by kernel_rfl), F0_0, F0_1, F0_2, F0, hB, hZ⟩) ?_
  rintro _ c1 a' w1 ⟨x1, rfl, hF1, F1, F2, F3, F4, hB, hZ⟩ hx1
  refine Fr.goOn hF1 (by kernel_rfl) ?_
  have hm := hx1
  unfold m_spec_l03Fits_bspecl03Things_s3 at hm
  refine cW_seq ?_
  refine cW_seq ?_
  refine cW_region ?_
  refine wS_pure 4 [(12, .pointer (some ⟨b0, 0, none⟩)), (11, .pointer (some ⟨b0, 0, none⟩)), (10, .pointer (some ⟨b0, 0, none⟩)), (9, .int .i64 (x1))] (by kernel_rfl) ?_
  refine wS_load1 (d := 13) (T := 24) (ad := ⟨b0, 0, none⟩) (v := .slice A0_0 (l0_0).length cap0_0) (by kernel_rfl) vt24 ((F4).cell 0) ?_
  refine wS_pure 2 [(15, .bool (decide (x1 < (((l0_0).length : Int))))), (14, .int .i64 (((l0_0).length : Int)))] (by kernel_rfl) ?_
  refine wS_end (by rfl) ?_
  refine eX_then ?_
  refine cW_cond (t := decide (x1 < (((l0_0).length : Int)))) (by kernel_rfl) (fun hb1 => ?_) (fun hb1 => ?_)
  ·have hm := condT hb1 hm
   refine cW_skip ?_
   refine eX_then ?_
   refine cW_seq ?_
   refine cW_block ?_
   refine cW_seq ?_
   refine cW_seq ?_
   refine cW_region ?_
   refine wS_pure 3 [(20, .int .u64 (wu x1)), (19, .int .i64 (x1)), (18, .int .i64 (p1))] (by kernel_rfl) ?_
   obtain ⟨u1, hu1, hm⟩ := bindE hm
   refine wS_shr (d := 21) (x := p1) (y := wu x1) (yk := .u64) (by kernel_rfl) (p0E hu1) ?_
   refine wS_pure 2 [(23, .bool ((andI (shrI p1 (wu x1)) 1) == 0)), (22, .int .i64 (andI (shrI p1 (wu x1)) 1))] (by kernel_rfl) ?_
   refine wS_end (by rfl) ?_
   refine eX_then ?_
   refine cW_cond (t := (andI (shrI p1 (wu x1)) 1) == 0) (by kernel_rfl) (fun hb2 => ?_) (fun hb2 => ?_)
   ·have hm := condT hb2 hm
    refine cW_exit ?_
    refine eX_then_exit ?_
    refine eX_block_hit ?_
    refine eX_then ?_
    refine cW_region ?_
    refine wS_pure 3 [(7, .int .i64 (wr (x1 + 1))), (17, .int .i64 (wr (x1 + 1))), (16, .int .i64 (x1))] (by kernel_rfl) ?_
    refine wS_end (by rfl) ?_
    have hq : (some (Ctl.next (wr (x1 + 1))) : Option (Ctl (Int) (Sum (Unit) ((Bool))))) = some _ := hm
    replace hq := someE hq
    subst hq
    exact eX_next hx1 (fun hst => ⟨wr (x1 + 1), rfl, Fr.of hst (by kernel_rfl), F1, F2, F3, F4, hB, hZ⟩)
   ·have hm := condF hb2 hm
    refine cW_skip ?_
    refine eX_then ?_
    refine cW_seq ?_
    refine cW_region ?_
    refine wS_pure 1 [(8, .int .i64 (0))] (by kernel_rfl) ?_
    refine wS_end (by rfl) ?_
    refine eX_then ?_
    obtain ⟨r2, hr2, hm⟩ := bindE hm
    have hm2 := hm
    refine cW_cut (fun a' w' => Sum.inl (()) = r2 ∧ Fr 71 [(0, .pointer (some ⟨b0, 0, none⟩)), (1, .int .i64 (p1)), (2, .int .i64 (p2)), (7, .int .i64 (x1))] a' ∧ Sl 1 encI w' fp0_0 A0_0 l0_0 ∧ SlR 1 encB w' fp0_1 A0_1 l0_1 ∧ SlR 1 encB w' fp0_2 A0_2 l0_2 ∧ Cl w' b0 94 [.slice A0_0 (l0_0).length cap0_0, .slice A0_1 (l0_1).length cap0_1, .slice A0_2 (l0_2).length cap0_2] ∧ Chg [] w0 w' ∧ w0.heap.size ≤ w'.heap.size) ?_ ?_
    ·refine cW_block ?_
     refine cW_loop _ (fun (s2 : Int) a' w' => ∃ x2 : Int, x2 = s2 ∧ Fr 71 [(0, .pointer (some ⟨b0, 0, none⟩)), (1, .int .i64 (p1)), (2, .int .i64 (p2)), (7, .int .i64 (x1)), (8, .int .i64 (x2))] a' ∧ Sl 1 encI w' fp0_0 A0_0 l0_0 ∧ SlR 1 encB w' fp0_1 A0_1 l0_1 ∧ SlR 1 encB w' fp0_2 A0_2 l0_2 ∧ Cl w' b0 94 [.slice A0_0 (l0_0).length cap0_0, .slice A0_1 (l0_1).length cap0_1, .slice A0_2 (l0_2).length cap0_2] ∧ Chg [] w0 w' ∧ w0.heap.size ≤ w'.heap.size) hr2 (fun hst => ⟨0, rfl, Fr.of hst (by kernel_rfl), F1, F2, F3, F4, hB, hZ⟩) ?_
     rintro _ c2 a' w2 ⟨x2, rfl, hF2, F5, F6, F7, F8, hB, hZ⟩ hx2
     refine Fr.goOn hF2 (by kernel_rfl) ?_
     have hm := hx2
     unfold m_spec_l03Fits_bspecl03Things_s4 at hm
     refine cW_seq ?_
     refine cW_seq ?_
     refine cW_region ?_
     refine wS_pure 4 [(27, .pointer (some ⟨b0, 0, none⟩)), (26, .pointer (some ⟨b0, 0, none⟩)), (25, .pointer (some ⟨b0, 0, none⟩)), (24, .int .i64 (x2))] (by kernel_rfl) ?_
     refine wS_load1 (d := 28) (T := 24) (ad := ⟨b0, 0, none⟩) (v := .slice A0_0 (l0_0).length cap0_0) (by kernel_rfl) vt24 ((F8).cell 0) ?_
     refine wS_pure 2 [(30, .bool (decide (x2 < (((l0_0).length : Int))))), (29, .int .i64 (((l0_0).length : Int)))] (by kernel_rfl) ?_
     refine wS_end (by rfl) ?_
     refine eX_then ?_
     refine cW_cond (t := decide (x2 < (((l0_0).length : Int)))) (by kernel_rfl) (fun hb3 => ?_) (fun hb3 => ?_)
     ·have hm := condT hb3 hm
      refine cW_skip ?_
      refine eX_then ?_
      refine cW_seq ?_
      refine cW_block ?_
      refine cW_seq ?_
      refine cW_seq ?_
      refine cW_region ?_
      refine wS_pure 3 [(35, .int .u64 (wu x2)), (34, .int .i64 (x2)), (33, .int .i64 (p2))] (by kernel_rfl) ?_
      obtain ⟨u2, hu2, hm⟩ := bindE hm
      refine wS_shr (d := 36) (x := p2) (y := wu x2) (yk := .u64) (by kernel_rfl) (p0E hu2) ?_
      refine wS_pure 2 [(38, .bool ((andI (shrI p2 (wu x2)) 1) == 0)), (37, .int .i64 (andI (shrI p2 (wu x2)) 1))] (by kernel_rfl) ?_
      refine wS_end (by rfl) ?_
      refine eX_then ?_
      refine cW_cond (t := (andI (shrI p2 (wu x2)) 1) == 0) (by kernel_rfl) (fun hb4 => ?_) (fun hb4 => ?_)
      ·have hm := condT hb4 hm
       refine cW_exit ?_
       refine eX_then_exit ?_
       refine eX_block_hit ?_
       refine eX_then ?_
       refine cW_region ?_
       refine wS_pure 3 [(8, .int .i64 (wr (x2 + 1))), (32, .int .i64 (wr (x2 + 1))), (31, .int .i64 (x2))] (by kernel_rfl) ?_
       refine wS_end (by rfl) ?_
       have hq : (some (Ctl.next (wr (x2 + 1))) : Option (Ctl (Int) (Sum (Unit) ((Bool))))) = some _ := hm
       replace hq := someE hq
       subst hq
       exact eX_next hx2 (fun hst => ⟨wr (x2 + 1), rfl, Fr.of hst (by kernel_rfl), F5, F6, F7, F8, hB, hZ⟩)
      ·have hm := condF hb4 hm
       refine cW_skip ?_
       refine eX_then ?_
       refine cW_seq ?_
       refine cW_region ?_
       refine wS_pure 3 [(41, .pointer (some ⟨b0, 2, none⟩)), (40, .pointer (some ⟨b0, 0, none⟩)), (39, .pointer (some ⟨b0, 0, none⟩))] (by kernel_rfl) ?_
       refine wS_load1 (d := 42) (T := 92) (ad := ⟨b0, 2, none⟩) (v := .slice A0_2 (l0_2).length cap0_2) (by kernel_rfl) vt92 ((F8).cell 2) ?_
       refine wS_pure 1 [(43, .int .i64 (x2))] (by kernel_rfl) ?_
       obtain ⟨x3, hx3, hm⟩ := bindE hm
       refine wS_idx (d := 44) (T := 92) (A := A0_2) (n := (l0_2).length) (cap := cap0_2) (kd := .i64) (m := x2) (by kernel_rfl) sl92 (F7.is hx3) ?_
       obtain ⟨A1, cap1, hc1, F9, K1⟩ := SlR.row F7 hx3
       refine wS_load1 (d := 45) (T := 120) (ad := (elA A0_2 1 (x2) 0)) (v := .slice A1 (x3).length cap1) (by kernel_rfl) vt120 hc1 ?_
       refine wS_pure 1 [(46, .int .i64 (x1))] (by kernel_rfl) ?_
       obtain ⟨x4, hx4, hm⟩ := bindE hm
       refine wS_idx (d := 47) (T := 120) (A := A1) (n := (x3).length) (cap := cap1) (kd := .i64) (m := x1) (by kernel_rfl) sl120 (F9.is hx4) ?_
       refine wS_load1 (d := 48) (T := 4) (ad := (elA A1 1 (x1) 0)) (v := .bool (x4)) (by kernel_rfl) vt4 (Sl.cell F9 hx4 0 (by rfl)) ?_
       refine wS_pure 1 [(49, .bool (x4))] (by kernel_rfl) ?_
       refine wS_bool x4 (fun hb5 => ?_) (fun hb5 => ?_)
       ·have hm := condT hb5 hm
        subst hb5
        refine wS_pure 19 [(68, .bool (true)), (67, undef), (66, undef), (65, undef), (64, undef), (63, undef), (62, undef), (61, undef), (60, undef), (59, undef), (58, undef), (57, undef), (56, undef), (55, undef), (54, undef), (53, undef), (52, undef), (51, undef), (50, undef)] (by kernel_rfl) ?_
        refine wS_end (by rfl) ?_
        refine eX_then ?_
        refine cW_prune [(0, .pointer (some ⟨b0, 0, none⟩)), (1, .int .i64 (p1)), (2, .int .i64 (p2)), (7, .int .i64 (x1)), (8, .int .i64 (x2)), (68, .bool (true))] (by kernel_rfl) (by kernel_rfl) (fun a1 => ?_)
        refine cW_cond_t (by kernel_rfl) ?_
        refine cW_seq ?_
        refine cW_region ?_
        refine wS_pure 1 [(6, .bool (false))] (by kernel_rfl) ?_
        refine wS_end (by rfl) ?_
        refine eX_then ?_
        refine cW_ret ?_
        refine eX_block_ret ?_
        refine eX_then_ret ?_
        have hq : (some (Ctl.out (Sum.inr false)) : Option (Ctl (Int) (Sum (Unit) ((Bool))))) = some _ := hm
        replace hq := someE hq
        subst hq
        refine eX_outR hx2 (fun hr => ?_)
        subst hr
        refine eX_block_ret ?_
        refine eX_then_ret ?_
        refine eX_block_ret ?_
        refine eX_then_ret ?_
        have hq : (some (Ctl.out (Sum.inr false)) : Option (Ctl (Int) (Sum (Unit) ((Bool))))) = some _ := hm2
        replace hq := someE hq
        subst hq
        refine eX_outR hx1 (fun hr => ?_)
        subst hr
        refine eX_block_ret ?_
        refine eX_then_ret ?_
        refine eX_then_ret ?_
        have hq : (some false : Option ((Bool))) = some _ := hm1
        replace hq := someE hq
        subst hq
        refine eX_ret (vs := [.bool (false)]) [.tmp 6] (by rfl) ⟨by (show lkE _ _ _ = _); kernel_rfl, trivial⟩ ?_
        exact ⟨rfl, hB⟩
       ·have hm := condF hb5 hm
        subst hb5
        refine wS_pure 3 [(52, .pointer (some ⟨b0, 1, none⟩)), (51, .pointer (some ⟨b0, 0, none⟩)), (50, .pointer (some ⟨b0, 0, none⟩))] (by kernel_rfl) ?_
        refine wS_load1 (d := 53) (T := 92) (ad := ⟨b0, 1, none⟩) (v := .slice A0_1 (l0_1).length cap0_1) (by kernel_rfl) vt92 ((F8).cell 1) ?_
        refine wS_pure 1 [(54, .int .i64 (x1))] (by kernel_rfl) ?_
        obtain ⟨x5, hx5, hm⟩ := bindE hm
        refine wS_idx (d := 55) (T := 92) (A := A0_1) (n := (l0_1).length) (cap := cap0_1) (kd := .i64) (m := x1) (by kernel_rfl) sl92 (F6.is hx5) ?_
        obtain ⟨A2, cap2, hc2, F10, K2⟩ := SlR.row F6 hx5
        refine wS_load1 (d := 56) (T := 120) (ad := (elA A0_1 1 (x1) 0)) (v := .slice A2 (x5).length cap2) (by kernel_rfl) vt120 hc2 ?_
        refine wS_pure 1 [(57, .int .i64 (x2))] (by kernel_rfl) ?_
        obtain ⟨x6, hx6, hm⟩ := bindE hm
        refine wS_idx (d := 58) (T := 120) (A := A2) (n := (x5).length) (cap := cap2) (kd := .i64) (m := x2) (by kernel_rfl) sl120 (F10.is hx6) ?_
        refine wS_load1 (d := 59) (T := 4) (ad := (elA A2 1 (x2) 0)) (v := .bool (x6)) (by kernel_rfl) vt4 (Sl.cell F10 hx6 0 (by rfl)) ?_
        refine wS_pure 1 [(60, .bool (x6))] (by kernel_rfl) ?_
        refine wS_bool x6 (fun hb6 => ?_) (fun hb6 => ?_)
        ·have hm := condT hb6 hm
         subst hb6
         refine wS_pure 3 [(63, .int .u64 (wu x2)), (62, .int .i64 (x2)), (61, .int .i64 (p1))] (by kernel_rfl) ?_
         obtain ⟨u3, hu3, hm⟩ := bindE hm
         refine wS_shr (d := 64) (x := p1) (y := wu x2) (yk := .u64) (by kernel_rfl) (p0E hu3) ?_
         refine wS_pure 4 [(68, .bool ((andI (shrI p1 (wu x2)) 1) == 1)), (67, .bool ((andI (shrI p1 (wu x2)) 1) == 1)), (66, .bool ((andI (shrI p1 (wu x2)) 1) == 1)), (65, .int .i64 (andI (shrI p1 (wu x2)) 1))] (by kernel_rfl) ?_
         refine wS_end (by rfl) ?_
         refine eX_then ?_
         refine cW_prune [(0, .pointer (some ⟨b0, 0, none⟩)), (1, .int .i64 (p1)), (2, .int .i64 (p2)), (7, .int .i64 (x1)), (8, .int .i64 (x2)), (68, .bool ((andI (shrI p1 (wu x2)) 1) == 1))] (by kernel_rfl) (by kernel_rfl) (fun a2 => ?_)
         refine cW_cond (t := (andI (shrI p1 (wu x2)) 1) == 1) (by kernel_rfl) (fun hb7 => ?_) (fun hb7 => ?_)
         ·have hm := condT hb7 hm
          refine cW_seq ?_
          refine cW_region ?_
          refine wS_pure 1 [(6, .bool (false))] (by kernel_rfl) ?_
          refine wS_end (by rfl) ?_
          refine eX_then ?_
          refine cW_ret ?_
          refine eX_block_ret ?_
          refine eX_then_ret ?_
          have hq : (some (Ctl.out (Sum.inr false)) : Option (Ctl (Int) (Sum (Unit) ((Bool))))) = some _ := hm
          replace hq := someE hq
          subst hq
          refine eX_outR hx2 (fun hr => ?_)
          subst hr
          refine eX_block_ret ?_
          refine eX_then_ret ?_
          refine eX_block_ret ?_
          refine eX_then_ret ?_
          have hq : (some (Ctl.out (Sum.inr false)) : Option (Ctl (Int) (Sum (Unit) ((Bool))))) = some _ := hm2
          replace hq := someE hq
          subst hq
          refine eX_outR hx1 (fun hr => ?_)
          subst hr
          refine eX_block_ret ?_
          refine eX_then_ret ?_
          refine eX_then_ret ?_
          have hq : (some false : Option ((Bool))) = some _ := hm1
          replace hq := someE hq
          subst hq
          refine eX_ret (vs := [.bool (false)]) [.tmp 6] (by rfl) ⟨by (show lkE _ _ _ = _); kernel_rfl, trivial⟩ ?_
          exact ⟨rfl, hB⟩
         ·have hm := condF hb7 hm
          refine cW_skip ?_
          refine eX_block ?_
          refine eX_then ?_
          refine cW_region ?_
          refine wS_pure 3 [(8, .int .i64 (wr (x2 + 1))), (32, .int .i64 (wr (x2 + 1))), (31, .int .i64 (x2))] (by kernel_rfl) ?_
          refine wS_end (by rfl) ?_
          have hq : (some (Ctl.next (wr (x2 + 1))) : Option (Ctl (Int) (Sum (Unit) ((Bool))))) = some _ := hm
          replace hq := someE hq
          subst hq
          exact eX_next hx2 (fun hst => ⟨wr (x2 + 1), rfl, Fr.of hst (by kernel_rfl), F5, F6, F7, F8, hB, hZ⟩)
        ·have hm := condF hb6 hm
         subst hb6
         refine wS_pure 8 [(68, .bool (false)), (67, .bool (false)), (66, undef), (65, undef), (64, undef), (63, undef), (62, undef), (61, undef)] (by kernel_rfl) ?_
         refine wS_end (by rfl) ?_
         refine eX_then ?_
         refine cW_prune [(0, .pointer (some ⟨b0, 0, none⟩)), (1, .int .i64 (p1)), (2, .int .i64 (p2)), (7, .int .i64 (x1)), (8, .int .i64 (x2)), (68, .bool (false))] (by kernel_rfl) (by kernel_rfl) (fun a3 => ?_)
         refine cW_cond_f (by kernel_rfl) ?_
         refine cW_skip ?_
         refine eX_block ?_
         refine eX_then ?_
         refine cW_region ?_
         refine wS_pure 3 [(8, .int .i64 (wr (x2 + 1))), (32, .int .i64 (wr (x2 + 1))), (31, .int .i64 (x2))] (by kernel_rfl) ?_
         refine wS_end (by rfl) ?_
         have hq : (some (Ctl.next (wr (x2 + 1))) : Option (Ctl (Int) (Sum (Unit) ((Bool))))) = some _ := hm
         replace hq := someE hq
         subst hq
         exact eX_next hx2 (fun hst => ⟨wr (x2 + 1), rfl, Fr.of hst (by kernel_rfl), F5, F6, F7, F8, hB, hZ⟩)
     ·have hm := condF hb3 hm
      refine cW_exit ?_
      refine eX_then_exit ?_
      have hq : (some (Ctl.out (Sum.inl (()))) : Option (Ctl (Int) (Sum (Unit) ((Bool))))) = some _ := hm
      replace hq := someE hq
      subst hq
      refine eX_outX hx2 (fun hr3 => ?_)
      replace hr3 := hr3.symm
      subst hr3
      refine eX_block_hit ?_
      exact eX_J (fun hst => ⟨rfl, Fr.of hst (by kernel_rfl), F5, F6, F7, F8, hB, hZ⟩)
    ·rintro a' w3 ⟨hJ, hF3, F11, F12, F13, F14, hB, hZ⟩
     subst hJ
     refine Fr.goX hF3 (by kernel_rfl) ?_
     refine eX_block ?_
     refine eX_then ?_
     refine cW_region ?_
     refine wS_pure 3 [(7, .int .i64 (wr (x1 + 1))), (17, .int .i64 (wr (x1 + 1))), (16, .int .i64 (x1))] (by kernel_rfl) ?_
     refine wS_end (by rfl) ?_
     have hq : (some (Ctl.next (wr (x1 + 1))) : Option (Ctl (Int) (Sum (Unit) ((Bool))))) = some _ := hm
     replace hq := someE hq
     subst hq
     exact eX_next hx1 (fun hst => ⟨wr (x1 + 1), rfl, Fr.of hst (by kernel_rfl), F11, F12, F13, F14, hB, hZ⟩)
  ·have hm := condF hb1 hm
   refine cW_exit ?_
   refine eX_then_exit ?_
   have hq : (some (Ctl.out (Sum.inl (()))) : Option (Ctl (Int) (Sum (Unit) ((Bool))))) = some _ := hm
   replace hq := someE hq
   subst hq
   refine eX_outX hx1 (fun hr4 => ?_)
   replace hr4 := hr4.symm
   subst hr4
   refine eX_block_hit ?_
   exact eX_J (fun hst => ⟨rfl, Fr.of hst (by kernel_rfl), hB, hZ⟩)
 ·rintro a' w4 ⟨hJ, hF4, hB, hZ⟩
  subst hJ
  refine Fr.goX hF4 (by kernel_rfl) ?_
  refine eX_then ?_
  refine cW_seq ?_
  refine cW_region ?_
  refine wS_pure 3 [(6, .bool (p1 != 0)), (70, .bool (p1 != 0)), (69, .int .i64 (p1))] (by kernel_rfl) ?_
  refine wS_end (by rfl) ?_
  refine eX_then ?_
  refine cW_ret ?_
  have hq : (some (p1 != 0) : Option ((Bool))) = some _ := hm
  replace hq := someE hq
  subst hq
  refine eX_ret (vs := [.bool (p1 != 0)]) [.tmp 6] (by rfl) ⟨by (show lkE _ _ _ = _); kernel_rfl, trivial⟩ ?_
  exact ⟨rfl, hB⟩

end Go.Proofs.YtbfjekmefcpkmaaDoor
