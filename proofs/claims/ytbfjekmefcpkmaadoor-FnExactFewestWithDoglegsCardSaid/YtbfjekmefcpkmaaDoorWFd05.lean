/- Printed walks: laws.FnExactFewestWithDoglegs. -/
import Derived.Test.YtbfjekmefcpkmaaDoorProg
import Derived.Test.YtbfjekmefcpkmaaDoorWFd04
set_option linter.unusedSimpArgs false
set_option linter.unusedVariables false
namespace Go.Proofs.YtbfjekmefcpkmaaDoor
open Go.RowKit
attribute [local irreducible] wS cW eX wH

theorem ent20 : Ent Tryd.prog 20 := fun _ => by kernel_rfl
theorem ent22 : Ent Tryd.prog 22 := fun _ => by kernel_rfl
theorem ent23 : Ent Tryd.prog 23 := fun _ => by kernel_rfl
theorem ent24 : Ent Tryd.prog 24 := fun _ => by kernel_rfl
theorem ent25 : Ent Tryd.prog 25 := fun _ => by kernel_rfl
theorem ent26 : Ent Tryd.prog 26 := fun _ => by kernel_rfl
theorem ent27 : Ent Tryd.prog 27 := fun _ => by kernel_rfl
theorem ent28 : Ent Tryd.prog 28 := fun _ => by kernel_rfl
theorem ent29 : Ent Tryd.prog 29 := fun _ => by kernel_rfl
theorem vt39 : VarTy Tryd.prog 39 2 true := ⟨by kernel_rfl, by kernel_rfl⟩

set_option maxRecDepth 100000 in
/-- laws.FnExactFewestWithDoglegs -/
theorem c_laws_FnExactFewestWithDoglegs {w0 : World} {l0_0 : List (Int)} {A0_0 : Option Addr} {cap0_0 : Nat} {fp0_0 : List Nat} {l0_1 : List (Int)} {A0_1 : Option Addr} {cap0_1 : Nat} {fp0_1 : List Nat} {r : (Bool)} (hm : m_laws_FnExactFewestWithDoglegs l0_0 l0_1 = some r) (F0_0 : Sl 1 encI w0 fp0_0 A0_0 l0_0) (F0_1 : Sl 1 encI w0 fp0_1 A0_1 l0_1) (FG : Sl 1 encU w0 [1] (some ⟨1, 0, none⟩) tab64) :
  Calls Tryd.prog 5 #[.agg #[.slice A0_0 (l0_0).length cap0_0, .slice A0_1 (l0_1).length cap0_1]] w0 fun e w' => e = .returned (.bool (r)) ∧ Chg [] w0 w' := by
 have L0_0 := F0_0.low
 have L0_1 := F0_1.low
 have Lg := FG.low
 have hB : Chg [] w0 w0 := Chg.refl _ _
 have hZ := Nat.le_refl w0.heap.size
 unfold m_laws_FnExactFewestWithDoglegs at hm
 refine enterE (N := 96) Tryd.func5 (by rfl) Tryd.ntmps5 (by simp) [(0, .agg #[.slice A0_0 (l0_0).length cap0_0, .slice A0_1 (l0_1).length cap0_1])] (by rfl) (by kernel_rfl) (fun a => ?_)
 refine cW_seq ?_
 refine cW_region ?_
 refine wS_box (d := 1) (T := 39) (x := .agg #[.slice A0_0 (l0_0).length cap0_0, .slice A0_1 (l0_1).length cap0_1]) (by kernel_rfl) ?_
 intro b1 w1 G1 F1 hc1
 replace F1 : Cl w1 b1 39 [.slice A0_0 (l0_0).length cap0_0, .slice A0_1 (l0_1).length cap0_1] := F1
 replace F0_0 := F0_0.chg hc1 Dj.nil
 replace F0_1 := F0_1.chg hc1 Dj.nil
 replace FG := FG.chg hc1 Dj.nil
 replace hB := hB.inS hc1 inNil
 replace G1 := Nat.le_trans hZ G1
 replace hZ := Nat.le_trans hZ hc1.size
 refine wS_pure 1 [(2, .bool (false))] (by kernel_rfl) ?_
 refine wS_end (by rfl) ?_
 refine eX_then ?_
 refine cW_seq ?_
 refine cW_region ?_
 refine wS_pure 1 [(3, .int .i64 (1048576))] (by kernel_rfl) ?_
 refine wS_end (by rfl) ?_
 refine eX_then ?_
 refine cW_seq ?_
 refine cW_region ?_
 refine wS_loadA (d := 14) (T := 39) (ad := ⟨b1, 0, none⟩) (vs := [.slice A0_0 (l0_0).length cap0_0, .slice A0_1 (l0_1).length cap0_1]) (by kernel_rfl) vt39 (fun i u hu => box_cells F1 0 hu (by rfl)) ?_
 refine wS_pure 1 [(15, .int .i64 (1048576))] (by kernel_rfl) ?_
 obtain ⟨y1, hy1, hm⟩ := bindE hm
 refine wS_calls (d := 16) (f := 20) (vs := [.agg #[.slice A0_0 (l0_0).length cap0_0, .slice A0_1 (l0_1).length cap0_1], .int .i64 (1048576)]) (by kernel_rfl) ent20 (c_laws_szChannel hy1 F0_0 F0_1) ?_
 rintro _ w2 ⟨rfl, hc2⟩
 replace F0_0 := F0_0.chg hc2 Dj.nil
 replace F0_1 := F0_1.chg hc2 Dj.nil
 replace FG := FG.chg hc2 Dj.nil
 replace F1 := F1.chg hc2 notNil
 replace hB := hB.inS hc2 inNil
 replace hZ := Nat.le_trans hZ hc2.size
 refine ⟨.int .i64 (y1), rfl, ?_⟩
 refine wS_pure 1 [(3, .int .i64 (y1))] (by kernel_rfl) ?_
 refine wS_end (by rfl) ?_
 refine eX_then ?_
 refine cW_seq ?_
 refine cW_seq ?_
 refine cW_region ?_
 refine wS_pure 2 [(18, .bool (decide (y1 < 0))), (17, .int .i64 (y1))] (by kernel_rfl) ?_
 refine wS_end (by rfl) ?_
 refine eX_then ?_
 refine cW_cond (t := decide (y1 < 0)) (by kernel_rfl) (fun hb1 => ?_) (fun hb1 => ?_)
 ·have hm := condT hb1 hm
  refine cW_seq ?_
  refine cW_region ?_
  refine wS_pure 1 [(2, .bool (true))] (by kernel_rfl) ?_
  refine wS_end (by rfl) ?_
  refine eX_then ?_
  refine cW_ret ?_
  refine eX_then_ret ?_
  have hq : (some true : Option ((Bool))) = some _ := hm
  replace hq := someE hq
  subst hq
  refine eX_ret (vs := [.bool (true)]) [.tmp 2] (by rfl) ⟨by (show lkE _ _ _ = _); kernel_rfl, trivial⟩ ?_
  exact ⟨rfl, hB⟩
 ·have hm := condF hb1 hm
  refine cW_skip ?_
  refine eX_then ?_
  refine cW_seq ?_
  refine cW_region ?_
  refine wS_loadA (d := 20) (T := 39) (ad := ⟨b1, 0, none⟩) (vs := [.slice A0_0 (l0_0).length cap0_0, .slice A0_1 (l0_1).length cap0_1]) (by kernel_rfl) vt39 (fun i u hu => box_cells F1 0 hu (by rfl)) ?_
  obtain ⟨y2, hy2, hm⟩ := bindE hm
  refine wS_calls (d := 21) (f := 22) (vs := [.agg #[.slice A0_0 (l0_0).length cap0_0, .slice A0_1 (l0_1).length cap0_1]]) (by kernel_rfl) ent22 (c_laws_toChannel hy2 F0_0 F0_1) ?_
  rintro _ w3 ⟨A1, cap1, fp1, A2, cap2, fp2, rfl, F2, G2, F3, G3, D1, hc3⟩
  have D2 : Dj [b1] fp1 := Dj.of (lt1 F1.lt) G2
  have D3 : Dj [b1] fp2 := Dj.of (lt1 F1.lt) G3
  replace F0_0 := F0_0.chg hc3 Dj.nil
  replace F0_1 := F0_1.chg hc3 Dj.nil
  replace FG := FG.chg hc3 Dj.nil
  replace F1 := F1.chg hc3 notNil
  replace hB := hB.inS hc3 inNil
  replace G2 := low_le hZ G2
  replace G3 := low_le hZ G3
  replace hZ := Nat.le_trans hZ hc3.size
  refine ⟨.agg #[.slice A1 (y2.1).length cap1, .slice A2 (y2.2).length cap2], rfl, ?_⟩
  obtain ⟨y3, hy3, hm⟩ := bindE hm
  refine wS_calls (d := 22) (f := 28) (vs := [.agg #[.slice A1 (y2.1).length cap1, .slice A2 (y2.2).length cap2]]) (by kernel_rfl) ent28 (c_spec_FewestWithDoglegs hy3 (F2.sl encI_ok) (F3.sl encI_ok)) ?_
  rintro _ w4 ⟨A3, cap3, fp3, fr1, rfl, F4, G4, hc4⟩
  have D4 : Dj [b1] (fp3 ++ fr1) := Dj.of (lt1 F1.lt) G4
  have D5 : Dj fp1 (fp3 ++ fr1) := Dj.of F2.low G4
  have D6 : Dj fp2 (fp3 ++ fr1) := Dj.of F3.low G4
  replace F0_0 := F0_0.chg hc4 Dj.nil
  replace F0_1 := F0_1.chg hc4 Dj.nil
  replace FG := FG.chg hc4 Dj.nil
  replace F1 := F1.chg hc4 notNil
  replace F2 := F2.chg hc4 Dj.nil
  replace F3 := F3.chg hc4 Dj.nil
  replace hB := hB.inS hc4 inNil
  replace G4 := low_le hZ G4
  replace hZ := Nat.le_trans hZ hc4.size
  refine ⟨.tuple #[.slice A3 (y3.1).length cap3, .bool (y3.2)], rfl, ?_⟩
  refine wS_pure 5 [(5, .bool (y3.2)), (4, .slice A3 (y3.1).length cap3), (24, .bool (y3.2)), (23, .slice A3 (y3.1).length cap3), (19, .tuple #[.slice A3 (y3.1).length cap3, .bool (y3.2)])] (by kernel_rfl) ?_
  refine wS_end (by rfl) ?_
  refine eX_then ?_
  refine cW_seq ?_
  refine cW_region ?_
  refine wS_loadA (d := 25) (T := 39) (ad := ⟨b1, 0, none⟩) (vs := [.slice A0_0 (l0_0).length cap0_0, .slice A0_1 (l0_1).length cap0_1]) (by kernel_rfl) vt39 (fun i u hu => box_cells F1 0 hu (by rfl)) ?_
  obtain ⟨y4, hy4, hm⟩ := bindE hm
  refine wS_calls (d := 26) (f := 22) (vs := [.agg #[.slice A0_0 (l0_0).length cap0_0, .slice A0_1 (l0_1).length cap0_1]]) (by kernel_rfl) ent22 (c_laws_toChannel hy4 F0_0 F0_1) ?_
  rintro _ w5 ⟨A4, cap4, fp4, A5, cap5, fp5, rfl, F5, G5, F6, G6, D7, hc5⟩
  have D8 : Dj [b1] fp4 := Dj.of (lt1 F1.lt) G5
  have D9 : Dj fp1 fp4 := Dj.of F2.low G5
  have D10 : Dj fp2 fp4 := Dj.of F3.low G5
  have D11 : Dj (fp3 ++ fr1) fp4 := Dj.of F4.low G5
  have D12 : Dj [b1] fp5 := Dj.of (lt1 F1.lt) G6
  have D13 : Dj fp1 fp5 := Dj.of F2.low G6
  have D14 : Dj fp2 fp5 := Dj.of F3.low G6
  have D15 : Dj (fp3 ++ fr1) fp5 := Dj.of F4.low G6
  replace F0_0 := F0_0.chg hc5 Dj.nil
  replace F0_1 := F0_1.chg hc5 Dj.nil
  replace FG := FG.chg hc5 Dj.nil
  replace F1 := F1.chg hc5 notNil
  replace F2 := F2.chg hc5 Dj.nil
  replace F3 := F3.chg hc5 Dj.nil
  replace F4 := F4.chg hc5 Dj.nil
  replace hB := hB.inS hc5 inNil
  replace G5 := low_le hZ G5
  replace G6 := low_le hZ G6
  replace hZ := Nat.le_trans hZ hc5.size
  refine ⟨.agg #[.slice A4 (y4.1).length cap4, .slice A5 (y4.2).length cap5], rfl, ?_⟩
  refine wS_alloc (d := 6) (T := 26) (z := .agg #[.slice none 0 0, .slice none 0 0]) (by kernel_rfl) (by kernel_rfl) ?_
  intro b2 w6 G7 F7 hc6
  replace F7 : Cl w6 b2 26 [.slice none 0 0, .slice none 0 0] := F7
  have D16 : Dj [b1] [b2] := Dj.of (lt1 F1.lt) (low1 G7)
  have D17 : Dj fp1 [b2] := Dj.of F2.low (low1 G7)
  have D18 : Dj fp2 [b2] := Dj.of F3.low (low1 G7)
  have D19 : Dj (fp3 ++ fr1) [b2] := Dj.of F4.low (low1 G7)
  have D20 : Dj fp4 [b2] := Dj.of F5.low (low1 G7)
  have D21 : Dj fp5 [b2] := Dj.of F6.low (low1 G7)
  replace F0_0 := F0_0.chg hc6 Dj.nil
  replace F0_1 := F0_1.chg hc6 Dj.nil
  replace FG := FG.chg hc6 Dj.nil
  replace F1 := F1.chg hc6 notNil
  replace F2 := F2.chg hc6 Dj.nil
  replace F3 := F3.chg hc6 Dj.nil
  replace F4 := F4.chg hc6 Dj.nil
  replace F5 := F5.chg hc6 Dj.nil
  replace F6 := F6.chg hc6 Dj.nil
  replace hB := hB.inS hc6 inNil
  replace G7 := Nat.le_trans hZ G7
  replace hZ := Nat.le_trans hZ hc6.size
  refine wS_store (T := 26) (g := b2) (o := 0) (ad := ⟨b2, 0, none⟩) (v := .agg #[.slice A4 (y4.1).length cap4, .slice A5 (y4.2).length cap5]) (vs := [.slice A4 (y4.1).length cap4, .slice A5 (y4.2).length cap5]) (by kernel_rfl) (by rfl) sz26 (by rfl) (by rfl) F7 (by simp only [List.length_cons, List.length_nil]; omega) ?_
  intro w7 F8 hc7
  replace F0_0 := F0_0.chg hc7 (Dj.of L0_0 (low1 G7))
  replace F0_1 := F0_1.chg hc7 (Dj.of L0_1 (low1 G7))
  replace FG := FG.chg hc7 (Dj.of Lg (low1 G7))
  replace F1 := F1.chg hc7 (dj1 D16)
  replace F2 := F2.chg hc7 D17
  replace F3 := F3.chg hc7 D18
  replace F4 := F4.chg hc7 D19
  replace F5 := F5.chg hc7 D20
  replace F6 := F6.chg hc7 D21
  replace hB := hB.inS hc7 (inLow (low1 G7))
  replace hZ := Nat.le_trans hZ hc7.size
  replace F8 : Cl w7 b2 26 [.slice A4 (y4.1).length cap4, .slice A5 (y4.2).length cap5] := F8
  clear F7
  refine wS_end (by rfl) ?_
  refine eX_then ?_
  refine cW_seq ?_
  refine cW_region ?_
  refine wS_loadA (d := 28) (T := 26) (ad := ⟨b2, 0, none⟩) (vs := [.slice A4 (y4.1).length cap4, .slice A5 (y4.2).length cap5]) (by kernel_rfl) vt26 (fun i u hu => box_cells F8 0 hu (by rfl)) ?_
  obtain ⟨y5, hy5, hm⟩ := bindE hm
  refine wS_calls (d := 29) (f := 29) (vs := [.agg #[.slice A4 (y4.1).length cap4, .slice A5 (y4.2).length cap5]]) (by kernel_rfl) ent29 (c_impl_FewestWithDoglegs hy5 (F5.sl encI_ok) F5.cap_le (F6.sl encI_ok) F6.cap_le FG) ?_
  rintro _ w8 ⟨A6, cap6, fp6, fr2, rfl, F9, G8, hc8⟩
  have D22 : Dj [b1] (fp6 ++ fr2) := Dj.of (lt1 F1.lt) G8
  have D23 : Dj fp1 (fp6 ++ fr2) := Dj.of F2.low G8
  have D24 : Dj fp2 (fp6 ++ fr2) := Dj.of F3.low G8
  have D25 : Dj (fp3 ++ fr1) (fp6 ++ fr2) := Dj.of F4.low G8
  have D26 : Dj fp4 (fp6 ++ fr2) := Dj.of F5.low G8
  have D27 : Dj fp5 (fp6 ++ fr2) := Dj.of F6.low G8
  have D28 : Dj [b2] (fp6 ++ fr2) := Dj.of (lt1 F8.lt) G8
  replace F0_0 := F0_0.chg hc8 Dj.nil
  replace F0_1 := F0_1.chg hc8 Dj.nil
  replace FG := FG.chg hc8 Dj.nil
  replace F1 := F1.chg hc8 notNil
  replace F2 := F2.chg hc8 Dj.nil
  replace F3 := F3.chg hc8 Dj.nil
  replace F4 := F4.chg hc8 Dj.nil
  replace F5 := F5.chg hc8 Dj.nil
  replace F6 := F6.chg hc8 Dj.nil
  replace F8 := F8.chg hc8 notNil
  replace hB := hB.inS hc8 inNil
  replace G8 := low_le hZ G8
  replace hZ := Nat.le_trans hZ hc8.size
  refine ⟨.tuple #[.slice A6 (y5.1).length cap6, .bool (y5.2)], rfl, ?_⟩
  refine wS_pure 5 [(8, .bool (y5.2)), (7, .slice A6 (y5.1).length cap6), (31, .bool (y5.2)), (30, .slice A6 (y5.1).length cap6), (27, .tuple #[.slice A6 (y5.1).length cap6, .bool (y5.2)])] (by kernel_rfl) ?_
  refine wS_end (by rfl) ?_
  refine eX_then ?_
  refine cW_prune [(1, .pointer (some ⟨b1, 0, none⟩)), (4, .slice A3 (y3.1).length cap3), (5, .bool (y3.2)), (6, .pointer (some ⟨b2, 0, none⟩)), (7, .slice A6 (y5.1).length cap6), (8, .bool (y5.2))] (by kernel_rfl) (by kernel_rfl) (fun a1 => ?_)
  refine cW_seq ?_
  refine cW_seq ?_
  refine cW_region ?_
  refine wS_pure 2 [(33, .slice A3 (y3.1).length cap3), (32, .slice A6 (y5.1).length cap6)] (by kernel_rfl) ?_
  obtain ⟨y6, hy6, hm⟩ := bindE hm
  refine wS_calls (d := 34) (f := 23) (vs := [.slice A6 (y5.1).length cap6, .slice A3 (y3.1).length cap3]) (by kernel_rfl) ent23 (c_laws_eqInt64SS hy6 (F9.slr encI_ok) (F4.slr encI_ok)) ?_
  rintro _ w9 ⟨rfl, hc9⟩
  replace F0_0 := F0_0.chg hc9 Dj.nil
  replace F0_1 := F0_1.chg hc9 Dj.nil
  replace FG := FG.chg hc9 Dj.nil
  replace F1 := F1.chg hc9 notNil
  replace F2 := F2.chg hc9 Dj.nil
  replace F3 := F3.chg hc9 Dj.nil
  replace F4 := F4.chg hc9 Dj.nil
  replace F5 := F5.chg hc9 Dj.nil
  replace F6 := F6.chg hc9 Dj.nil
  replace F8 := F8.chg hc9 notNil
  replace F9 := F9.chg hc9 Dj.nil
  replace hB := hB.inS hc9 inNil
  replace hZ := Nat.le_trans hZ hc9.size
  refine ⟨.bool (y6), rfl, ?_⟩
  refine wS_pure 2 [(36, .bool (!y6)), (35, .bool (!y6))] (by kernel_rfl) ?_
  refine wS_bool (!y6) (fun hb2 => ?_) (fun hb2 => ?_)
  ·have hm := condT hb2 hm
   rewrite [hb2]
   refine wS_pure 4 [(40, .bool (true)), (39, undef), (38, undef), (37, undef)] (by kernel_rfl) ?_
   refine wS_end (by rfl) ?_
   refine eX_then ?_
   refine cW_cond_t (by kernel_rfl) ?_
   refine cW_seq ?_
   refine cW_region ?_
   refine wS_pure 1 [(2, .bool (false))] (by kernel_rfl) ?_
   refine wS_end (by rfl) ?_
   refine eX_then ?_
   refine cW_ret ?_
   refine eX_then_ret ?_
   have hq : (some false : Option ((Bool))) = some _ := hm
   replace hq := someE hq
   subst hq
   refine eX_ret (vs := [.bool (false)]) [.tmp 2] (by rfl) ⟨by (show lkE _ _ _ = _); kernel_rfl, trivial⟩ ?_
   exact ⟨rfl, hB⟩
  ·have hm := condF hb2 hm
   rewrite [hb2]
   refine wS_pure 4 [(40, .bool (!(y5.2 == y3.2))), (39, .bool (!(y5.2 == y3.2))), (38, .bool (y3.2)), (37, .bool (y5.2))] (by kernel_rfl) ?_
   refine wS_end (by rfl) ?_
   refine eX_then ?_
   refine cW_cond (t := !(y5.2 == y3.2)) (by kernel_rfl) (fun hb3 => ?_) (fun hb3 => ?_)
   ·have hm := condT hb3 hm
    refine cW_seq ?_
    refine cW_region ?_
    refine wS_pure 1 [(2, .bool (false))] (by kernel_rfl) ?_
    refine wS_end (by rfl) ?_
    refine eX_then ?_
    refine cW_ret ?_
    refine eX_then_ret ?_
    have hq : (some false : Option ((Bool))) = some _ := hm
    replace hq := someE hq
    subst hq
    refine eX_ret (vs := [.bool (false)]) [.tmp 2] (by rfl) ⟨by (show lkE _ _ _ = _); kernel_rfl, trivial⟩ ?_
    exact ⟨rfl, hB⟩
   ·have hm := condF hb3 hm
    refine cW_skip ?_
    refine eX_then ?_
    refine cW_seq ?_
    refine cW_seq ?_
    refine cW_drawnTail [] 3 (by kernel_rfl) (by kernel_rfl) (fun w10 hc10 => ?_)
    replace F0_0 := F0_0.chg hc10 Dj.nil
    replace F0_1 := F0_1.chg hc10 Dj.nil
    replace FG := FG.chg hc10 Dj.nil
    replace F1 := F1.chg hc10 notNil
    replace F2 := F2.chg hc10 Dj.nil
    replace F3 := F3.chg hc10 Dj.nil
    replace F4 := F4.chg hc10 Dj.nil
    replace F5 := F5.chg hc10 Dj.nil
    replace F6 := F6.chg hc10 Dj.nil
    replace F8 := F8.chg hc10 notNil
    replace F9 := F9.chg hc10 Dj.nil
    replace hB := hB.inS hc10 inNil
    replace hZ := Nat.le_trans hZ hc10.size
    have hS := Chg.refl [] w10
    have Z1 := F0_0
    have Z2 := F0_1
    have Z3 := FG
    have Z4 := F1
    have Z5 := F2
    have Z6 := F3
    have Z7 := F4
    have Z8 := F5
    have Z9 := F6
    have Z10 := F8
    have Z11 := F9
    refine wH_loadA (i := 0) (d := 41) (T := 26) (ad := ⟨b2, 0, none⟩) (vs := [.slice A4 (y4.1).length cap4, .slice A5 (y4.2).length cap5]) (by kernel_rfl) (qT (qT (qT qZ))) (by kernel_rfl) (by kernel_rfl) vt26 (fun W hW i u hu => box_cells (Z10.chg hW notNil) 0 hu (by rfl)) ?_
    refine wH_loadA (i := 1) (d := 42) (T := 39) (ad := ⟨b1, 0, none⟩) (vs := [.slice A0_0 (l0_0).length cap0_0, .slice A0_1 (l0_1).length cap0_1]) (by kernel_rfl) (qT (qT (qT qZ))) (by kernel_rfl) (by kernel_rfl) vt39 (fun W hW i u hu => box_cells (Z4.chg hW notNil) 0 hu (by rfl)) ?_
    refine wH_all [2] (by rfl) (by kernel_rfl) (by simp) ⟨⟨by kernel_rfl, ?_⟩, trivial⟩
    obtain ⟨y7, hy7, hm⟩ := bindE hm
    refine wS_calls (d := 43) (f := 22) (vs := [.agg #[.slice A0_0 (l0_0).length cap0_0, .slice A0_1 (l0_1).length cap0_1]]) (by kernel_rfl) ent22 (c_laws_toChannel hy7 F0_0 F0_1) ?_
    rintro _ w11 ⟨A7, cap7, fp7, A8, cap8, fp8, rfl, F10, G9, F11, G10, D29, hc11⟩
    have D30 : Dj [b1] fp7 := Dj.of (lt1 F1.lt) G9
    have D31 : Dj fp1 fp7 := Dj.of F2.low G9
    have D32 : Dj fp2 fp7 := Dj.of F3.low G9
    have D33 : Dj (fp3 ++ fr1) fp7 := Dj.of F4.low G9
    have D34 : Dj fp4 fp7 := Dj.of F5.low G9
    have D35 : Dj fp5 fp7 := Dj.of F6.low G9
    have D36 : Dj [b2] fp7 := Dj.of (lt1 F8.lt) G9
    have D37 : Dj (fp6 ++ fr2) fp7 := Dj.of F9.low G9
    have D38 : Dj [b1] fp8 := Dj.of (lt1 F1.lt) G10
    have D39 : Dj fp1 fp8 := Dj.of F2.low G10
    have D40 : Dj fp2 fp8 := Dj.of F3.low G10
    have D41 : Dj (fp3 ++ fr1) fp8 := Dj.of F4.low G10
    have D42 : Dj fp4 fp8 := Dj.of F5.low G10
    have D43 : Dj fp5 fp8 := Dj.of F6.low G10
    have D44 : Dj [b2] fp8 := Dj.of (lt1 F8.lt) G10
    have D45 : Dj (fp6 ++ fr2) fp8 := Dj.of F9.low G10
    replace F0_0 := F0_0.chg hc11 Dj.nil
    replace F0_1 := F0_1.chg hc11 Dj.nil
    replace FG := FG.chg hc11 Dj.nil
    replace F1 := F1.chg hc11 notNil
    replace F2 := F2.chg hc11 Dj.nil
    replace F3 := F3.chg hc11 Dj.nil
    replace F4 := F4.chg hc11 Dj.nil
    replace F5 := F5.chg hc11 Dj.nil
    replace F6 := F6.chg hc11 Dj.nil
    replace F8 := F8.chg hc11 notNil
    replace F9 := F9.chg hc11 Dj.nil
    replace hB := hB.inS hc11 inNil
    have hSz := hS
    replace hS := hS.inS hc11 inNil
    replace G9 := low_le hZ G9
    replace G10 := low_le hZ G10
    replace hZ := Nat.le_trans hZ hc11.size
    refine ⟨.agg #[.slice A7 (y7.1).length cap7, .slice A8 (y7.2).length cap8], rfl, ?_⟩
    refine wS_end (by kernel_rfl) ?_
    refine eX_KH hS ?_
    refine wH_done (by kernel_rfl) ?_
    refine eX_tail ?_
    obtain ⟨y8, hy8, hm⟩ := bindE hm
    refine wS_calls (d := 44) (f := 24) (vs := [.agg #[.slice A4 (y4.1).length cap4, .slice A5 (y4.2).length cap5], .agg #[.slice A7 (y7.1).length cap7, .slice A8 (y7.2).length cap8]]) (by kernel_rfl) ent24 (c_laws_eqChannel hy8 (F5.sl encI_ok) (F6.sl encI_ok) (F10.sl encI_ok) (F11.sl encI_ok)) ?_
    rintro _ w12 ⟨rfl, hc12⟩
    replace F0_0 := F0_0.chg hc12 Dj.nil
    replace F0_1 := F0_1.chg hc12 Dj.nil
    replace FG := FG.chg hc12 Dj.nil
    replace F1 := F1.chg hc12 notNil
    replace F2 := F2.chg hc12 Dj.nil
    replace F3 := F3.chg hc12 Dj.nil
    replace F4 := F4.chg hc12 Dj.nil
    replace F5 := F5.chg hc12 Dj.nil
    replace F6 := F6.chg hc12 Dj.nil
    replace F8 := F8.chg hc12 notNil
    replace F9 := F9.chg hc12 Dj.nil
    replace F10 := F10.chg hc12 Dj.nil
    replace F11 := F11.chg hc12 Dj.nil
    replace hB := hB.inS hc12 inNil
    replace hZ := Nat.le_trans hZ hc12.size
    refine ⟨.bool (y8), rfl, ?_⟩
    refine wS_pure 1 [(45, .bool (!y8))] (by kernel_rfl) ?_
    refine wS_end (by rfl) ?_
    refine eX_then ?_
    refine cW_cond (t := !y8) (by kernel_rfl) (fun hb4 => ?_) (fun hb4 => ?_)
    ·have hm := condT hb4 hm
     refine cW_seq ?_
     refine cW_region ?_
     refine wS_pure 1 [(2, .bool (false))] (by kernel_rfl) ?_
     refine wS_end (by rfl) ?_
     refine eX_then ?_
     refine cW_ret ?_
     refine eX_then_ret ?_
     have hq : (some false : Option ((Bool))) = some _ := hm
     replace hq := someE hq
     subst hq
     refine eX_ret (vs := [.bool (false)]) [.tmp 2] (by rfl) ⟨by (show lkE _ _ _ = _); kernel_rfl, trivial⟩ ?_
     exact ⟨rfl, hB⟩
    ·have hm := condF hb4 hm
     refine cW_skip ?_
     refine eX_then ?_
     refine cW_seq ?_
     refine cW_region ?_
     refine wS_pure 1 [(9, .int .i64 (1))] (by kernel_rfl) ?_
     refine wS_end (by rfl) ?_
     refine eX_then ?_
     refine cW_seq ?_
     refine cW_region ?_
     refine wS_loadA (d := 46) (T := 26) (ad := ⟨b2, 0, none⟩) (vs := [.slice A4 (y4.1).length cap4, .slice A5 (y4.2).length cap5]) (by kernel_rfl) vt26 (fun i u hu => box_cells F8 0 hu (by rfl)) ?_
     refine wS_pure 1 [(47, .int .i64 (1))] (by kernel_rfl) ?_
     obtain ⟨y9, hy9, hm⟩ := bindE hm
     refine wS_calls (d := 48) (f := 25) (vs := [.agg #[.slice A4 (y4.1).length cap4, .slice A5 (y4.2).length cap5], .int .i64 (1)]) (by kernel_rfl) ent25 (c_laws_markChannel hy9 F5 F6 D7) ?_
     rintro _ w13 ⟨rfl, F12, hl1, F13, hl2, hc13⟩
     replace F0_0 := F0_0.chg hc13 (Dj.app (Dj.of L0_0 G5) (Dj.app (Dj.of L0_0 G6) Dj.nil))
     replace F0_1 := F0_1.chg hc13 (Dj.app (Dj.of L0_1 G5) (Dj.app (Dj.of L0_1 G6) Dj.nil))
     replace FG := FG.chg hc13 (Dj.app (Dj.of Lg G5) (Dj.app (Dj.of Lg G6) Dj.nil))
     replace F1 := F1.chg hc13 (dj1 (Dj.app D8 (Dj.app D12 Dj.nil)))
     replace F2 := F2.chg hc13 (Dj.app D9 (Dj.app D13 Dj.nil))
     replace F3 := F3.chg hc13 (Dj.app D10 (Dj.app D14 Dj.nil))
     replace F4 := F4.chg hc13 (Dj.app D11 (Dj.app D15 Dj.nil))
     replace F8 := F8.chg hc13 (dj1 (Dj.app (D20).symm (Dj.app (D21).symm Dj.nil)))
     replace F9 := F9.chg hc13 (Dj.app (D26).symm (Dj.app (D27).symm Dj.nil))
     replace F10 := F10.chg hc13 (Dj.app (D34).symm (Dj.app (D35).symm Dj.nil))
     replace F11 := F11.chg hc13 (Dj.app (D42).symm (Dj.app (D43).symm Dj.nil))
     replace hB := hB.inS hc13 (inApp (inLow G5) (inApp (inLow G6) inNil))
     replace hZ := Nat.le_trans hZ hc13.size
     clear F5
     clear F6
     refine ⟨.int .i64 (y9.1), rfl, ?_⟩
     rewrite [(show (y4.1).length = (y9.2.1).length from hl1.symm)]
     try rewrite [(show (y4.1).length = (y9.2.1).length from hl1.symm)] at F1
     try rewrite [(show (y4.1).length = (y9.2.1).length from hl1.symm)] at F8
     rewrite [(show (y4.2).length = (y9.2.2).length from hl2.symm)]
     try rewrite [(show (y4.2).length = (y9.2.2).length from hl2.symm)] at F1
     try rewrite [(show (y4.2).length = (y9.2.2).length from hl2.symm)] at F8
     refine wS_pure 1 [(9, .int .i64 (y9.1))] (by kernel_rfl) ?_
     refine wS_end (by rfl) ?_
     refine eX_then ?_
     refine cW_prune [(1, .pointer (some ⟨b1, 0, none⟩)), (4, .slice A3 (y3.1).length cap3), (5, .bool (y3.2)), (7, .slice A6 (y5.1).length cap6), (8, .bool (y5.2)), (9, .int .i64 (y9.1))] (by kernel_rfl) (by kernel_rfl) (fun a2 => ?_)
     refine cW_seq ?_
     refine cW_seq ?_
     refine cW_region ?_
     refine wS_pure 3 [(51, .bool (decide (y9.1 < 0))), (50, .bool (decide (y9.1 < 0))), (49, .int .i64 (y9.1))] (by kernel_rfl) ?_
     refine wS_bool (decide (y9.1 < 0)) (fun hb5 => ?_) (fun hb5 => ?_)
     ·have hm := condT hb5 hm
      rewrite [hb5]
      refine wS_pure 10 [(61, .bool (true)), (60, undef), (59, undef), (58, undef), (57, .bool (true)), (56, .bool (true)), (55, undef), (54, undef), (53, undef), (52, undef)] (by kernel_rfl) ?_
      refine wS_end (by rfl) ?_
      refine eX_then ?_
      refine cW_cond_t (by kernel_rfl) ?_
      refine cW_seq ?_
      refine cW_region ?_
      refine wS_pure 1 [(2, .bool (false))] (by kernel_rfl) ?_
      refine wS_end (by rfl) ?_
      refine eX_then ?_
      refine cW_ret ?_
      refine eX_then_ret ?_
      have hq : (some false : Option ((Bool))) = some _ := hm
      replace hq := someE hq
      subst hq
      refine eX_ret (vs := [.bool (false)]) [.tmp 2] (by rfl) ⟨by (show lkE _ _ _ = _); kernel_rfl, trivial⟩ ?_
      exact ⟨rfl, hB⟩
     ·have hm := condF hb5 hm
      rewrite [hb5]
      refine wS_pure 2 [(53, .slice A3 (y3.1).length cap3), (52, .slice A6 (y5.1).length cap6)] (by kernel_rfl) ?_
      obtain ⟨y10, hy10, hm⟩ := bindE hm
      refine wS_calls (d := 54) (f := 23) (vs := [.slice A6 (y5.1).length cap6, .slice A3 (y3.1).length cap3]) (by kernel_rfl) ent23 (c_laws_eqInt64SS hy10 (F9.slr encI_ok) (F4.slr encI_ok)) ?_
      rintro _ w14 ⟨rfl, hc14⟩
      replace F0_0 := F0_0.chg hc14 Dj.nil
      replace F0_1 := F0_1.chg hc14 Dj.nil
      replace FG := FG.chg hc14 Dj.nil
      replace F1 := F1.chg hc14 notNil
      replace F2 := F2.chg hc14 Dj.nil
      replace F3 := F3.chg hc14 Dj.nil
      replace F4 := F4.chg hc14 Dj.nil
      replace F12 := F12.chg hc14 Dj.nil
      replace F13 := F13.chg hc14 Dj.nil
      replace F8 := F8.chg hc14 notNil
      replace F9 := F9.chg hc14 Dj.nil
      replace F10 := F10.chg hc14 Dj.nil
      replace F11 := F11.chg hc14 Dj.nil
      replace hB := hB.inS hc14 inNil
      replace hZ := Nat.le_trans hZ hc14.size
      refine ⟨.bool (y10), rfl, ?_⟩
      refine wS_pure 3 [(57, .bool (!y10)), (56, .bool (!y10)), (55, .bool (!y10))] (by kernel_rfl) ?_
      refine wS_bool (!y10) (fun hb6 => ?_) (fun hb6 => ?_)
      ·have hm := condT hb6 hm
       rewrite [hb6]
       refine wS_pure 4 [(61, .bool (true)), (60, undef), (59, undef), (58, undef)] (by kernel_rfl) ?_
       refine wS_end (by rfl) ?_
       refine eX_then ?_
       refine cW_cond_t (by kernel_rfl) ?_
       refine cW_seq ?_
       refine cW_region ?_
       refine wS_pure 1 [(2, .bool (false))] (by kernel_rfl) ?_
       refine wS_end (by rfl) ?_
       refine eX_then ?_
       refine cW_ret ?_
       refine eX_then_ret ?_
       have hq : (some false : Option ((Bool))) = some _ := hm
       replace hq := someE hq
       subst hq
       refine eX_ret (vs := [.bool (false)]) [.tmp 2] (by rfl) ⟨by (show lkE _ _ _ = _); kernel_rfl, trivial⟩ ?_
       exact ⟨rfl, hB⟩
      ·have hm := condF hb6 hm
       rewrite [hb6]
       refine wS_pure 4 [(61, .bool (!(y5.2 == y3.2))), (60, .bool (!(y5.2 == y3.2))), (59, .bool (y3.2)), (58, .bool (y5.2))] (by kernel_rfl) ?_
       refine wS_end (by rfl) ?_
       refine eX_then ?_
       refine cW_cond (t := !(y5.2 == y3.2)) (by kernel_rfl) (fun hb7 => ?_) (fun hb7 => ?_)
       ·have hm := condT hb7 hm
        refine cW_seq ?_
        refine cW_region ?_
        refine wS_pure 1 [(2, .bool (false))] (by kernel_rfl) ?_
        refine wS_end (by rfl) ?_
        refine eX_then ?_
        refine cW_ret ?_
        refine eX_then_ret ?_
        have hq : (some false : Option ((Bool))) = some _ := hm
        replace hq := someE hq
        subst hq
        refine eX_ret (vs := [.bool (false)]) [.tmp 2] (by rfl) ⟨by (show lkE _ _ _ = _); kernel_rfl, trivial⟩ ?_
        exact ⟨rfl, hB⟩
       ·have hm := condF hb7 hm
        refine cW_skip ?_
        refine eX_then ?_
        refine cW_seq ?_
        refine cW_region ?_
        refine wS_pure 1 [(10, .int .i64 (1))] (by kernel_rfl) ?_
        refine wS_end (by rfl) ?_
        refine eX_then ?_
        refine cW_seq ?_
        refine cW_region ?_
        refine wS_pure 2 [(63, .int .i64 (1)), (62, .slice A6 (y5.1).length cap6)] (by kernel_rfl) ?_
        obtain ⟨y11, hy11, hm⟩ := bindE hm
        refine wS_calls (d := 64) (f := 26) (vs := [.slice A6 (y5.1).length cap6, .int .i64 (1)]) (by kernel_rfl) ent26 (c_laws_markInt64SS hy11 F9) ?_
        rintro _ w15 ⟨rfl, F14, hl3, hc15⟩
        replace F0_0 := F0_0.chg hc15 (Dj.app (Dj.of L0_0 G8) Dj.nil)
        replace F0_1 := F0_1.chg hc15 (Dj.app (Dj.of L0_1 G8) Dj.nil)
        replace FG := FG.chg hc15 (Dj.app (Dj.of Lg G8) Dj.nil)
        replace F1 := F1.chg hc15 (dj1 (Dj.app D22 Dj.nil))
        replace F2 := F2.chg hc15 (Dj.app D23 Dj.nil)
        replace F3 := F3.chg hc15 (Dj.app D24 Dj.nil)
        replace F4 := F4.chg hc15 (Dj.app D25 Dj.nil)
        replace F12 := F12.chg hc15 (Dj.app D26 Dj.nil)
        replace F13 := F13.chg hc15 (Dj.app D27 Dj.nil)
        replace F8 := F8.chg hc15 (dj1 (Dj.app D28 Dj.nil))
        replace F10 := F10.chg hc15 (Dj.app (D37).symm Dj.nil)
        replace F11 := F11.chg hc15 (Dj.app (D45).symm Dj.nil)
        replace hB := hB.inS hc15 (inApp (inLow G8) inNil)
        replace hZ := Nat.le_trans hZ hc15.size
        clear F9
        refine ⟨.int .i64 (y11.1), rfl, ?_⟩
        rewrite [(show (y5.1).length = (y11.2).length from hl3.symm)]
        try rewrite [(show (y5.1).length = (y11.2).length from hl3.symm)] at F1
        try rewrite [(show (y5.1).length = (y11.2).length from hl3.symm)] at F8
        refine wS_pure 1 [(10, .int .i64 (y11.1))] (by kernel_rfl) ?_
        refine wS_end (by rfl) ?_
        refine eX_then ?_
        refine cW_seq ?_
        refine cW_region ?_
        refine wS_pure 1 [(11, .int .i64 (1))] (by kernel_rfl) ?_
        refine wS_end (by rfl) ?_
        refine eX_then ?_
        refine cW_prune [(1, .pointer (some ⟨b1, 0, none⟩)), (4, .slice A3 (y3.1).length cap3), (5, .bool (y3.2)), (7, .slice A6 (y11.2).length cap6), (10, .int .i64 (y11.1)), (11, .int .i64 (1))] (by kernel_rfl) (by kernel_rfl) (fun a3 => ?_)
        refine cW_seq ?_
        refine cW_region ?_
        refine wS_pure 2 [(66, .int .i64 (1)), (65, .slice A6 (y11.2).length cap6)] (by kernel_rfl) ?_
        obtain ⟨y12, hy12, hm⟩ := bindE hm
        refine wS_calls (d := 67) (f := 27) (vs := [.slice A6 (y11.2).length cap6, .int .i64 (1)]) (by kernel_rfl) ent27 (c_laws_heldInt64SS hy12 (F14.slr encI_ok)) ?_
        rintro _ w16 ⟨rfl, hc16⟩
        replace F0_0 := F0_0.chg hc16 Dj.nil
        replace F0_1 := F0_1.chg hc16 Dj.nil
        replace FG := FG.chg hc16 Dj.nil
        replace F1 := F1.chg hc16 notNil
        replace F2 := F2.chg hc16 Dj.nil
        replace F3 := F3.chg hc16 Dj.nil
        replace F4 := F4.chg hc16 Dj.nil
        replace F12 := F12.chg hc16 Dj.nil
        replace F13 := F13.chg hc16 Dj.nil
        replace F8 := F8.chg hc16 notNil
        replace F14 := F14.chg hc16 Dj.nil
        replace F10 := F10.chg hc16 Dj.nil
        replace F11 := F11.chg hc16 Dj.nil
        replace hB := hB.inS hc16 inNil
        replace hZ := Nat.le_trans hZ hc16.size
        refine ⟨.int .i64 (y12), rfl, ?_⟩
        refine wS_pure 1 [(11, .int .i64 (y12))] (by kernel_rfl) ?_
        refine wS_end (by rfl) ?_
        refine eX_then ?_
        refine cW_seq ?_
        refine cW_seq ?_
        refine cW_region ?_
        refine wS_pure 2 [(69, .bool (decide (y12 < 0))), (68, .int .i64 (y12))] (by kernel_rfl) ?_
        refine wS_end (by rfl) ?_
        refine eX_then ?_
        refine cW_cond (t := decide (y12 < 0)) (by kernel_rfl) (fun hb8 => ?_) (fun hb8 => ?_)
        ·have hm := condT hb8 hm
         refine cW_seq ?_
         refine cW_region ?_
         refine wS_pure 1 [(2, .bool (false))] (by kernel_rfl) ?_
         refine wS_end (by rfl) ?_
         refine eX_then ?_
         refine cW_ret ?_
         refine eX_then_ret ?_
         have hq : (some false : Option ((Bool))) = some _ := hm
         replace hq := someE hq
         subst hq
         refine eX_ret (vs := [.bool (false)]) [.tmp 2] (by rfl) ⟨by (show lkE _ _ _ = _); kernel_rfl, trivial⟩ ?_
         exact ⟨rfl, hB⟩
        ·have hm := condF hb8 hm
         refine cW_skip ?_
         refine eX_then ?_
         refine cW_seq ?_
         refine cW_seq ?_
         refine cW_region ?_
         refine wS_pure 3 [(72, .bool (y12 != y11.1)), (71, .int .i64 (y11.1)), (70, .int .i64 (y12))] (by kernel_rfl) ?_
         refine wS_end (by rfl) ?_
         refine eX_then ?_
         refine cW_cond (t := y12 != y11.1) (by kernel_rfl) (fun hb9 => ?_) (fun hb9 => ?_)
         ·have hm := condT hb9 hm
          refine cW_seq ?_
          refine cW_region ?_
          refine wS_pure 1 [(2, .bool (false))] (by kernel_rfl) ?_
          refine wS_end (by rfl) ?_
          refine eX_then ?_
          refine cW_ret ?_
          refine eX_then_ret ?_
          have hq : (some false : Option ((Bool))) = some _ := hm
          replace hq := someE hq
          subst hq
          refine eX_ret (vs := [.bool (false)]) [.tmp 2] (by rfl) ⟨by (show lkE _ _ _ = _); kernel_rfl, trivial⟩ ?_
          exact ⟨rfl, hB⟩
         ·have hm := condF hb9 hm
          refine cW_skip ?_
          refine eX_then ?_
          refine cW_seq ?_
          refine cW_region ?_
          refine wS_loadA (d := 74) (T := 39) (ad := ⟨b1, 0, none⟩) (vs := [.slice A0_0 (l0_0).length cap0_0, .slice A0_1 (l0_1).length cap0_1]) (by kernel_rfl) vt39 (fun i u hu => box_cells F1 0 hu (by rfl)) ?_
          obtain ⟨y13, hy13, hm⟩ := bindE hm
          refine wS_calls (d := 75) (f := 22) (vs := [.agg #[.slice A0_0 (l0_0).length cap0_0, .slice A0_1 (l0_1).length cap0_1]]) (by kernel_rfl) ent22 (c_laws_toChannel hy13 F0_0 F0_1) ?_
          rintro _ w17 ⟨A9, cap9, fp9, A10, cap10, fp10, rfl, F15, G11, F16, G12, D46, hc17⟩
          have D47 : Dj [b1] fp9 := Dj.of (lt1 F1.lt) G11
          have D48 : Dj fp1 fp9 := Dj.of F2.low G11
          have D49 : Dj fp2 fp9 := Dj.of F3.low G11
          have D50 : Dj (fp3 ++ fr1) fp9 := Dj.of F4.low G11
          have D51 : Dj fp4 fp9 := Dj.of F12.low G11
          have D52 : Dj fp5 fp9 := Dj.of F13.low G11
          have D53 : Dj [b2] fp9 := Dj.of (lt1 F8.lt) G11
          have D54 : Dj (fp6 ++ fr2) fp9 := Dj.of F14.low G11
          have D55 : Dj fp7 fp9 := Dj.of F10.low G11
          have D56 : Dj fp8 fp9 := Dj.of F11.low G11
          have D57 : Dj [b1] fp10 := Dj.of (lt1 F1.lt) G12
          have D58 : Dj fp1 fp10 := Dj.of F2.low G12
          have D59 : Dj fp2 fp10 := Dj.of F3.low G12
          have D60 : Dj (fp3 ++ fr1) fp10 := Dj.of F4.low G12
          have D61 : Dj fp4 fp10 := Dj.of F12.low G12
          have D62 : Dj fp5 fp10 := Dj.of F13.low G12
          have D63 : Dj [b2] fp10 := Dj.of (lt1 F8.lt) G12
          have D64 : Dj (fp6 ++ fr2) fp10 := Dj.of F14.low G12
          have D65 : Dj fp7 fp10 := Dj.of F10.low G12
          have D66 : Dj fp8 fp10 := Dj.of F11.low G12
          replace F0_0 := F0_0.chg hc17 Dj.nil
          replace F0_1 := F0_1.chg hc17 Dj.nil
          replace FG := FG.chg hc17 Dj.nil
          replace F1 := F1.chg hc17 notNil
          replace F2 := F2.chg hc17 Dj.nil
          replace F3 := F3.chg hc17 Dj.nil
          replace F4 := F4.chg hc17 Dj.nil
          replace F12 := F12.chg hc17 Dj.nil
          replace F13 := F13.chg hc17 Dj.nil
          replace F8 := F8.chg hc17 notNil
          replace F14 := F14.chg hc17 Dj.nil
          replace F10 := F10.chg hc17 Dj.nil
          replace F11 := F11.chg hc17 Dj.nil
          replace hB := hB.inS hc17 inNil
          replace G11 := low_le hZ G11
          replace G12 := low_le hZ G12
          replace hZ := Nat.le_trans hZ hc17.size
          refine ⟨.agg #[.slice A9 (y13.1).length cap9, .slice A10 (y13.2).length cap10], rfl, ?_⟩
          obtain ⟨y14, hy14, hm⟩ := bindE hm
          refine wS_calls (d := 76) (f := 29) (vs := [.agg #[.slice A9 (y13.1).length cap9, .slice A10 (y13.2).length cap10]]) (by kernel_rfl) ent29 (c_impl_FewestWithDoglegs hy14 (F15.sl encI_ok) F15.cap_le (F16.sl encI_ok) F16.cap_le FG) ?_
          rintro _ w18 ⟨A11, cap11, fp11, fr3, rfl, F17, G13, hc18⟩
          have D67 : Dj [b1] (fp11 ++ fr3) := Dj.of (lt1 F1.lt) G13
          have D68 : Dj fp1 (fp11 ++ fr3) := Dj.of F2.low G13
          have D69 : Dj fp2 (fp11 ++ fr3) := Dj.of F3.low G13
          have D70 : Dj (fp3 ++ fr1) (fp11 ++ fr3) := Dj.of F4.low G13
          have D71 : Dj fp4 (fp11 ++ fr3) := Dj.of F12.low G13
          have D72 : Dj fp5 (fp11 ++ fr3) := Dj.of F13.low G13
          have D73 : Dj [b2] (fp11 ++ fr3) := Dj.of (lt1 F8.lt) G13
          have D74 : Dj (fp6 ++ fr2) (fp11 ++ fr3) := Dj.of F14.low G13
          have D75 : Dj fp7 (fp11 ++ fr3) := Dj.of F10.low G13
          have D76 : Dj fp8 (fp11 ++ fr3) := Dj.of F11.low G13
          have D77 : Dj fp9 (fp11 ++ fr3) := Dj.of F15.low G13
          have D78 : Dj fp10 (fp11 ++ fr3) := Dj.of F16.low G13
          replace F0_0 := F0_0.chg hc18 Dj.nil
          replace F0_1 := F0_1.chg hc18 Dj.nil
          replace FG := FG.chg hc18 Dj.nil
          replace F1 := F1.chg hc18 notNil
          replace F2 := F2.chg hc18 Dj.nil
          replace F3 := F3.chg hc18 Dj.nil
          replace F4 := F4.chg hc18 Dj.nil
          replace F12 := F12.chg hc18 Dj.nil
          replace F13 := F13.chg hc18 Dj.nil
          replace F8 := F8.chg hc18 notNil
          replace F14 := F14.chg hc18 Dj.nil
          replace F10 := F10.chg hc18 Dj.nil
          replace F11 := F11.chg hc18 Dj.nil
          replace F15 := F15.chg hc18 Dj.nil
          replace F16 := F16.chg hc18 Dj.nil
          replace hB := hB.inS hc18 inNil
          replace G13 := low_le hZ G13
          replace hZ := Nat.le_trans hZ hc18.size
          refine ⟨.tuple #[.slice A11 (y14.1).length cap11, .bool (y14.2)], rfl, ?_⟩
          refine wS_pure 5 [(13, .bool (y14.2)), (12, .slice A11 (y14.1).length cap11), (78, .bool (y14.2)), (77, .slice A11 (y14.1).length cap11), (73, .tuple #[.slice A11 (y14.1).length cap11, .bool (y14.2)])] (by kernel_rfl) ?_
          refine wS_end (by rfl) ?_
          refine eX_then ?_
          refine cW_seq ?_
          refine cW_seq ?_
          refine cW_region ?_
          refine wS_pure 2 [(80, .slice A3 (y3.1).length cap3), (79, .slice A11 (y14.1).length cap11)] (by kernel_rfl) ?_
          obtain ⟨y15, hy15, hm⟩ := bindE hm
          refine wS_calls (d := 81) (f := 23) (vs := [.slice A11 (y14.1).length cap11, .slice A3 (y3.1).length cap3]) (by kernel_rfl) ent23 (c_laws_eqInt64SS hy15 (F17.slr encI_ok) (F4.slr encI_ok)) ?_
          rintro _ w19 ⟨rfl, hc19⟩
          replace F0_0 := F0_0.chg hc19 Dj.nil
          replace F0_1 := F0_1.chg hc19 Dj.nil
          replace FG := FG.chg hc19 Dj.nil
          replace F1 := F1.chg hc19 notNil
          replace F2 := F2.chg hc19 Dj.nil
          replace F3 := F3.chg hc19 Dj.nil
          replace F4 := F4.chg hc19 Dj.nil
          replace F12 := F12.chg hc19 Dj.nil
          replace F13 := F13.chg hc19 Dj.nil
          replace F8 := F8.chg hc19 notNil
          replace F14 := F14.chg hc19 Dj.nil
          replace F10 := F10.chg hc19 Dj.nil
          replace F11 := F11.chg hc19 Dj.nil
          replace F15 := F15.chg hc19 Dj.nil
          replace F16 := F16.chg hc19 Dj.nil
          replace F17 := F17.chg hc19 Dj.nil
          replace hB := hB.inS hc19 inNil
          replace hZ := Nat.le_trans hZ hc19.size
          refine ⟨.bool (y15), rfl, ?_⟩
          refine wS_pure 2 [(83, .bool (!y15)), (82, .bool (!y15))] (by kernel_rfl) ?_
          refine wS_bool (!y15) (fun hb10 => ?_) (fun hb10 => ?_)
          ·have hm := condT hb10 hm
           rewrite [hb10]
           refine wS_pure 4 [(87, .bool (true)), (86, undef), (85, undef), (84, undef)] (by kernel_rfl) ?_
           refine wS_end (by rfl) ?_
           refine eX_then ?_
           refine cW_prune [(7, .slice A6 (y11.2).length cap6), (10, .int .i64 (y11.1)), (87, .bool (true))] (by kernel_rfl) (by kernel_rfl) (fun a4 => ?_)
           refine cW_cond_t (by kernel_rfl) ?_
           refine cW_seq ?_
           refine cW_region ?_
           refine wS_pure 1 [(2, .bool (false))] (by kernel_rfl) ?_
           refine wS_end (by rfl) ?_
           refine eX_then ?_
           refine cW_ret ?_
           refine eX_then_ret ?_
           have hq : (some false : Option ((Bool))) = some _ := hm
           replace hq := someE hq
           subst hq
           refine eX_ret (vs := [.bool (false)]) [.tmp 2] (by rfl) ⟨by (show lkE _ _ _ = _); kernel_rfl, trivial⟩ ?_
           exact ⟨rfl, hB⟩
          ·have hm := condF hb10 hm
           rewrite [hb10]
           refine wS_pure 4 [(87, .bool (!(y14.2 == y3.2))), (86, .bool (!(y14.2 == y3.2))), (85, .bool (y3.2)), (84, .bool (y14.2))] (by kernel_rfl) ?_
           refine wS_end (by rfl) ?_
           refine eX_then ?_
           refine cW_prune [(7, .slice A6 (y11.2).length cap6), (10, .int .i64 (y11.1)), (87, .bool (!(y14.2 == y3.2)))] (by kernel_rfl) (by kernel_rfl) (fun a5 => ?_)
           refine cW_cond (t := !(y14.2 == y3.2)) (by kernel_rfl) (fun hb11 => ?_) (fun hb11 => ?_)
           ·have hm := condT hb11 hm
            refine cW_seq ?_
            refine cW_region ?_
            refine wS_pure 1 [(2, .bool (false))] (by kernel_rfl) ?_
            refine wS_end (by rfl) ?_
            refine eX_then ?_
            refine cW_ret ?_
            refine eX_then_ret ?_
            have hq : (some false : Option ((Bool))) = some _ := hm
            replace hq := someE hq
            subst hq
            refine eX_ret (vs := [.bool (false)]) [.tmp 2] (by rfl) ⟨by (show lkE _ _ _ = _); kernel_rfl, trivial⟩ ?_
            exact ⟨rfl, hB⟩
           ·have hm := condF hb11 hm
            refine cW_skip ?_
            refine eX_then ?_
            refine cW_seq ?_
            refine cW_region ?_
            refine wS_pure 1 [(11, .int .i64 (1))] (by kernel_rfl) ?_
            refine wS_end (by rfl) ?_
            refine eX_then ?_
            refine cW_seq ?_
            refine cW_region ?_
            refine wS_pure 2 [(89, .int .i64 (1)), (88, .slice A6 (y11.2).length cap6)] (by kernel_rfl) ?_
            obtain ⟨y16, hy16, hm⟩ := bindE hm
            refine wS_calls (d := 90) (f := 27) (vs := [.slice A6 (y11.2).length cap6, .int .i64 (1)]) (by kernel_rfl) ent27 (c_laws_heldInt64SS hy16 (F14.slr encI_ok)) ?_
            rintro _ w20 ⟨rfl, hc20⟩
            replace F0_0 := F0_0.chg hc20 Dj.nil
            replace F0_1 := F0_1.chg hc20 Dj.nil
            replace FG := FG.chg hc20 Dj.nil
            replace F1 := F1.chg hc20 notNil
            replace F2 := F2.chg hc20 Dj.nil
            replace F3 := F3.chg hc20 Dj.nil
            replace F4 := F4.chg hc20 Dj.nil
            replace F12 := F12.chg hc20 Dj.nil
            replace F13 := F13.chg hc20 Dj.nil
            replace F8 := F8.chg hc20 notNil
            replace F14 := F14.chg hc20 Dj.nil
            replace F10 := F10.chg hc20 Dj.nil
            replace F11 := F11.chg hc20 Dj.nil
            replace F15 := F15.chg hc20 Dj.nil
            replace F16 := F16.chg hc20 Dj.nil
            replace F17 := F17.chg hc20 Dj.nil
            replace hB := hB.inS hc20 inNil
            replace hZ := Nat.le_trans hZ hc20.size
            refine ⟨.int .i64 (y16), rfl, ?_⟩
            refine wS_pure 1 [(11, .int .i64 (y16))] (by kernel_rfl) ?_
            refine wS_end (by rfl) ?_
            refine eX_then ?_
            refine cW_seq ?_
            refine cW_seq ?_
            refine cW_region ?_
            refine wS_pure 2 [(92, .bool (decide (y16 < 0))), (91, .int .i64 (y16))] (by kernel_rfl) ?_
            refine wS_end (by rfl) ?_
            refine eX_then ?_
            refine cW_cond (t := decide (y16 < 0)) (by kernel_rfl) (fun hb12 => ?_) (fun hb12 => ?_)
            ·have hm := condT hb12 hm
             refine cW_seq ?_
             refine cW_region ?_
             refine wS_pure 1 [(2, .bool (false))] (by kernel_rfl) ?_
             refine wS_end (by rfl) ?_
             refine eX_then ?_
             refine cW_ret ?_
             refine eX_then_ret ?_
             have hq : (some false : Option ((Bool))) = some _ := hm
             replace hq := someE hq
             subst hq
             refine eX_ret (vs := [.bool (false)]) [.tmp 2] (by rfl) ⟨by (show lkE _ _ _ = _); kernel_rfl, trivial⟩ ?_
             exact ⟨rfl, hB⟩
            ·have hm := condF hb12 hm
             refine cW_skip ?_
             refine eX_then ?_
             refine cW_seq ?_
             refine cW_seq ?_
             refine cW_region ?_
             refine wS_pure 3 [(95, .bool (y16 != y11.1)), (94, .int .i64 (y11.1)), (93, .int .i64 (y16))] (by kernel_rfl) ?_
             refine wS_end (by rfl) ?_
             refine eX_then ?_
             refine cW_cond (t := y16 != y11.1) (by kernel_rfl) (fun hb13 => ?_) (fun hb13 => ?_)
             ·have hm := condT hb13 hm
              refine cW_seq ?_
              refine cW_region ?_
              refine wS_pure 1 [(2, .bool (false))] (by kernel_rfl) ?_
              refine wS_end (by rfl) ?_
              refine eX_then ?_
              refine cW_ret ?_
              refine eX_then_ret ?_
              have hq : (some false : Option ((Bool))) = some _ := hm
              replace hq := someE hq
              subst hq
              refine eX_ret (vs := [.bool (false)]) [.tmp 2] (by rfl) ⟨by (show lkE _ _ _ = _); kernel_rfl, trivial⟩ ?_
              exact ⟨rfl, hB⟩
             ·have hm := condF hb13 hm
              refine cW_skip ?_
              refine eX_then ?_
              refine cW_seq ?_
              refine cW_region ?_
              refine wS_pure 1 [(2, .bool (true))] (by kernel_rfl) ?_
              refine wS_end (by rfl) ?_
              refine eX_then ?_
              refine cW_ret ?_
              have hq : (some true : Option ((Bool))) = some _ := hm
              replace hq := someE hq
              subst hq
              refine eX_ret (vs := [.bool (true)]) [.tmp 2] (by rfl) ⟨by (show lkE _ _ _ = _); kernel_rfl, trivial⟩ ?_
              exact ⟨rfl, hB⟩

end Go.Proofs.YtbfjekmefcpkmaaDoor
