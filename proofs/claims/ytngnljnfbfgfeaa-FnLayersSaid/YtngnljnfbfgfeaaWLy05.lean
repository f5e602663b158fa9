/- Printed walks: laws.FnLayers. -/
import Derived.Test.YtngnljnfbfgfeaaProg
import Derived.Test.YtngnljnfbfgfeaaWLy04
set_option linter.unusedSimpArgs false
set_option linter.unusedVariables false
namespace Go.Proofs.Ytngnljnfbfgfeaa
open Go.RowKit
attribute [local irreducible] wS cW eX wH

theorem ent11 : Ent Try.prog 11 := fun _ => by kernel_rfl
theorem ent12 : Ent Try.prog 12 := fun _ => by kernel_rfl
theorem ent13 : Ent Try.prog 13 := fun _ => by kernel_rfl
theorem ent14 : Ent Try.prog 14 := fun _ => by kernel_rfl
theorem ent15 : Ent Try.prog 15 := fun _ => by kernel_rfl
theorem ent17 : Ent Try.prog 17 := fun _ => by kernel_rfl
theorem ent18 : Ent Try.prog 18 := fun _ => by kernel_rfl
theorem ent19 : Ent Try.prog 19 := fun _ => by kernel_rfl
theorem ent20 : Ent Try.prog 20 := fun _ => by kernel_rfl

set_option maxHeartbeats 20000000 in
set_option maxRecDepth 100000 in
/-- laws.FnLayers -/
theorem c_laws_FnLayers {w0 : World} {l0 : List (Int)} {A0 : Option Addr} {cap0 : Nat} {fp0 : List Nat} {l1 : List (Int)} {A1 : Option Addr} {cap1 : Nat} {fp1 : List Nat} {r : (Bool)} (hm : m_laws_FnLayers l0 l1 = some r) (F0 : Sl 1 encU w0 fp0 A0 l0) (F1 : Sl 1 encU w0 fp1 A1 l1) :
  Calls Try.prog 3 #[.slice A0 (l0).length cap0, .slice A1 (l1).length cap1] w0 fun e w' => e = .returned (.bool (r)) ∧ Chg [] w0 w' := by
 have L0 := F0.low
 have L1 := F1.low
 have hB : Chg [] w0 w0 := Chg.refl _ _
 have hZ := Nat.le_refl w0.heap.size
 unfold m_laws_FnLayers at hm
 refine enterE (N := 228) Try.func3 (by rfl) Try.ntmps3 (by simp) [(0, .slice A0 (l0).length cap0), (1, .slice A1 (l1).length cap1)] (by rfl) (by kernel_rfl) (fun a => ?_)
 refine cW_seq ?_
 refine cW_region ?_
 refine wS_pure 1 [(4, .bool (false))] (by kernel_rfl) ?_
 refine wS_end (by rfl) ?_
 refine eX_then ?_
 refine cW_seq ?_
 refine cW_seq ?_
 refine cW_region ?_
 refine wS_pure 2 [(26, .slice A1 (l1).length cap1), (25, .slice A0 (l0).length cap0)] (by kernel_rfl) ?_
 obtain ⟨y1, hy1, hm⟩ := bindE hm
 refine wS_calls (d := 27) (f := 11) (vs := [.slice A0 (l0).length cap0, .slice A1 (l1).length cap1]) (by kernel_rfl) ent11 (c_laws_b10Long hy1 F0 F1) ?_
 rintro _ w1 ⟨rfl, hc1⟩
 replace F0 := F0.chg hc1 Dj.nil
 replace F1 := F1.chg hc1 Dj.nil
 replace hB := hB.inS hc1 inNil
 replace hZ := Nat.le_trans hZ hc1.size
 refine ⟨.bool (y1), rfl, ?_⟩
 refine wS_end (by rfl) ?_
 refine eX_then ?_
 refine cW_cond (t := y1) (by kernel_rfl) (fun hb1 => ?_) (fun hb1 => ?_)
 ·have hm := condT hb1 hm
  refine cW_seq ?_
  refine cW_region ?_
  refine wS_pure 1 [(4, .bool (true))] (by kernel_rfl) ?_
  refine wS_end (by rfl) ?_
  refine eX_then ?_
  refine cW_ret ?_
  refine eX_then_ret ?_
  have hq : (some true : Option ((Bool))) = some _ := hm
  replace hq := someE hq
  subst hq
  refine eX_ret (vs := [.bool (true)]) [.tmp 4] (by rfl) ⟨by (show lkE _ _ _ = _); kernel_rfl, trivial⟩ ?_
  exact ⟨rfl, hB⟩
 ·have hm := condF hb1 hm
  refine cW_skip ?_
  refine eX_then ?_
  refine cW_seq ?_
  refine cW_region ?_
  refine wS_pure 1 [(28, .slice A0 (l0).length cap0)] (by kernel_rfl) ?_
  obtain ⟨y2, hy2, hm⟩ := bindE hm
  refine wS_calls (d := 29) (f := 12) (vs := [.slice A0 (l0).length cap0]) (by kernel_rfl) ent12 (c_spec_B10Wiring hy2 F0) ?_
  rintro _ w2 ⟨A3, cap3, fp2, fr1, A4, cap4, fp3, fr2, A5, cap5, fp4, rfl, F2, G1, F3, G2, F4, G3, D1, D2, D3, hc2⟩
  replace F0 := F0.chg hc2 Dj.nil
  replace F1 := F1.chg hc2 Dj.nil
  replace hB := hB.inS hc2 inNil
  replace G1 := low_le hZ G1
  replace G2 := low_le hZ G2
  replace G3 := low_le hZ G3
  replace hZ := Nat.le_trans hZ hc2.size
  refine ⟨.agg #[.int .i64 (y2.1), .slice A3 (y2.2.1).length cap3, .slice A4 (y2.2.2.1).length cap4, .slice A5 (y2.2.2.2).length cap5], rfl, ?_⟩
  refine wS_alloc (d := 5) (T := 27) (z := .agg #[.int .i64 (0), .slice none 0 0, .slice none 0 0, .slice none 0 0]) (by kernel_rfl) (by kernel_rfl) ?_
  intro b1 w3 G4 F5 hc3
  replace F5 : Cl w3 b1 27 [.int .i64 (0), .slice none 0 0, .slice none 0 0, .slice none 0 0] := F5
  have D4 : Dj (fp2 ++ fr1) [b1] := Dj.of F2.low (low1 G4)
  have D5 : Dj (fp3 ++ fr2) [b1] := Dj.of F3.low (low1 G4)
  have D6 : Dj fp4 [b1] := Dj.of F4.low (low1 G4)
  replace F0 := F0.chg hc3 Dj.nil
  replace F1 := F1.chg hc3 Dj.nil
  replace F2 := F2.chg hc3 Dj.nil
  replace F3 := F3.chg hc3 Dj.nil
  replace F4 := F4.chg hc3 Dj.nil
  replace hB := hB.inS hc3 inNil
  replace G4 := Nat.le_trans hZ G4
  replace hZ := Nat.le_trans hZ hc3.size
  refine wS_store (T := 27) (g := b1) (o := 0) (ad := ⟨b1, 0, none⟩) (v := .agg #[.int .i64 (y2.1), .slice A3 (y2.2.1).length cap3, .slice A4 (y2.2.2.1).length cap4, .slice A5 (y2.2.2.2).length cap5]) (vs := [.int .i64 (y2.1), .slice A3 (y2.2.1).length cap3, .slice A4 (y2.2.2.1).length cap4, .slice A5 (y2.2.2.2).length cap5]) (by kernel_rfl) (by rfl) sz27 (by rfl) (by rfl) F5 (by simp only [List.length_cons, List.length_nil]; omega) ?_
  intro w4 F6 hc4
  replace F0 := F0.chg hc4 (Dj.of L0 (low1 G4))
  replace F1 := F1.chg hc4 (Dj.of L1 (low1 G4))
  replace F2 := F2.chg hc4 D4
  replace F3 := F3.chg hc4 D5
  replace F4 := F4.chg hc4 D6
  replace hB := hB.inS hc4 (inLow (low1 G4))
  replace hZ := Nat.le_trans hZ hc4.size
  replace F6 : Cl w4 b1 27 [.int .i64 (y2.1), .slice A3 (y2.2.1).length cap3, .slice A4 (y2.2.2.1).length cap4, .slice A5 (y2.2.2.2).length cap5] := F6
  clear F5
  refine wS_end (by rfl) ?_
  refine eX_then ?_
  refine cW_seq ?_
  refine cW_region ?_
  refine wS_loadA (d := 31) (T := 27) (ad := ⟨b1, 0, none⟩) (vs := [.int .i64 (y2.1), .slice A3 (y2.2.1).length cap3, .slice A4 (y2.2.2.1).length cap4, .slice A5 (y2.2.2.2).length cap5]) (by kernel_rfl) vt27 (fun i u hu => box_cells F6 0 hu (by rfl)) ?_
  obtain ⟨y3, hy3, hm⟩ := bindE hm
  refine wS_calls (d := 32) (f := 13) (vs := [.agg #[.int .i64 (y2.1), .slice A3 (y2.2.1).length cap3, .slice A4 (y2.2.2.1).length cap4, .slice A5 (y2.2.2.2).length cap5]]) (by kernel_rfl) ent13 (c_impl_FewestVias hy3 (F2.slr encI_ok) (F3.slr encI_ok) (F4.sl encI_ok)) ?_
  rintro _ w5 ⟨A6, cap6, fp5, rfl, F7, G5, hc5⟩
  have D7 : Dj (fp2 ++ fr1) fp5 := Dj.of F2.low G5
  have D8 : Dj (fp3 ++ fr2) fp5 := Dj.of F3.low G5
  have D9 : Dj fp4 fp5 := Dj.of F4.low G5
  have D10 : Dj [b1] fp5 := Dj.of (lt1 F6.lt) G5
  replace F0 := F0.chg hc5 Dj.nil
  replace F1 := F1.chg hc5 Dj.nil
  replace F2 := F2.chg hc5 Dj.nil
  replace F3 := F3.chg hc5 Dj.nil
  replace F4 := F4.chg hc5 Dj.nil
  replace F6 := F6.chg hc5 notNil
  replace hB := hB.inS hc5 inNil
  replace G5 := low_le hZ G5
  replace hZ := Nat.le_trans hZ hc5.size
  refine ⟨.tuple #[.slice A6 (y3.1).length cap6, .int .i64 (y3.2.1), .bool (y3.2.2)], rfl, ?_⟩
  refine wS_pure 7 [(8, .bool (y3.2.2)), (7, .int .i64 (y3.2.1)), (6, .slice A6 (y3.1).length cap6), (35, .bool (y3.2.2)), (34, .int .i64 (y3.2.1)), (33, .slice A6 (y3.1).length cap6), (30, .tuple #[.slice A6 (y3.1).length cap6, .int .i64 (y3.2.1), .bool (y3.2.2)])] (by kernel_rfl) ?_
  refine wS_end (by rfl) ?_
  refine eX_then ?_
  refine cW_seq ?_
  refine cW_region ?_
  refine wS_loadA (d := 37) (T := 27) (ad := ⟨b1, 0, none⟩) (vs := [.int .i64 (y2.1), .slice A3 (y2.2.1).length cap3, .slice A4 (y2.2.2.1).length cap4, .slice A5 (y2.2.2.2).length cap5]) (by kernel_rfl) vt27 (fun i u hu => box_cells F6 0 hu (by rfl)) ?_
  obtain ⟨y4, hy4, hm⟩ := bindE hm
  refine wS_calls (d := 38) (f := 14) (vs := [.agg #[.int .i64 (y2.1), .slice A3 (y2.2.1).length cap3, .slice A4 (y2.2.2.1).length cap4, .slice A5 (y2.2.2.2).length cap5]]) (by kernel_rfl) ent14 (c_impl_OddRing hy4 (F2.slr encI_ok) (F3.slr encI_ok) (F4.sl encI_ok)) ?_
  rintro _ w6 ⟨A7, cap7, fp6, rfl, F8, G6, hc6⟩
  have D11 : Dj (fp2 ++ fr1) fp6 := Dj.of F2.low G6
  have D12 : Dj (fp3 ++ fr2) fp6 := Dj.of F3.low G6
  have D13 : Dj fp4 fp6 := Dj.of F4.low G6
  have D14 : Dj [b1] fp6 := Dj.of (lt1 F6.lt) G6
  have D15 : Dj fp5 fp6 := Dj.of F7.low G6
  replace F0 := F0.chg hc6 Dj.nil
  replace F1 := F1.chg hc6 Dj.nil
  replace F2 := F2.chg hc6 Dj.nil
  replace F3 := F3.chg hc6 Dj.nil
  replace F4 := F4.chg hc6 Dj.nil
  replace F6 := F6.chg hc6 notNil
  replace F7 := F7.chg hc6 Dj.nil
  replace hB := hB.inS hc6 inNil
  replace G6 := low_le hZ G6
  replace hZ := Nat.le_trans hZ hc6.size
  refine ⟨.tuple #[.slice A7 (y4.1).length cap7, .bool (y4.2)], rfl, ?_⟩
  refine wS_pure 5 [(10, .bool (y4.2)), (9, .slice A7 (y4.1).length cap7), (40, .bool (y4.2)), (39, .slice A7 (y4.1).length cap7), (36, .tuple #[.slice A7 (y4.1).length cap7, .bool (y4.2)])] (by kernel_rfl) ?_
  refine wS_end (by rfl) ?_
  refine eX_then ?_
  refine cW_prune [(5, .pointer (some ⟨b1, 0, none⟩)), (6, .slice A6 (y3.1).length cap6), (7, .int .i64 (y3.2.1)), (8, .bool (y3.2.2)), (9, .slice A7 (y4.1).length cap7), (10, .bool (y4.2))] (by kernel_rfl) (by kernel_rfl) (fun a1 => ?_)
  refine cW_seq ?_
  refine cW_region ?_
  refine wS_loadA (d := 42) (T := 27) (ad := ⟨b1, 0, none⟩) (vs := [.int .i64 (y2.1), .slice A3 (y2.2.1).length cap3, .slice A4 (y2.2.2.1).length cap4, .slice A5 (y2.2.2.2).length cap5]) (by kernel_rfl) vt27 (fun i u hu => box_cells F6 0 hu (by rfl)) ?_
  obtain ⟨y5, hy5, hm⟩ := bindE hm
  refine wS_calls (d := 43) (f := 15) (vs := [.agg #[.int .i64 (y2.1), .slice A3 (y2.2.1).length cap3, .slice A4 (y2.2.2.1).length cap4, .slice A5 (y2.2.2.2).length cap5]]) (by kernel_rfl) ent15 (c_impl_CountBest hy5 (F2.slr encI_ok) (F3.slr encI_ok) (F4.sl encI_ok)) ?_
  rintro _ w7 ⟨rfl, hc7⟩
  replace F0 := F0.chg hc7 Dj.nil
  replace F1 := F1.chg hc7 Dj.nil
  replace F2 := F2.chg hc7 Dj.nil
  replace F3 := F3.chg hc7 Dj.nil
  replace F4 := F4.chg hc7 Dj.nil
  replace F6 := F6.chg hc7 notNil
  replace F7 := F7.chg hc7 Dj.nil
  replace F8 := F8.chg hc7 Dj.nil
  replace hB := hB.inS hc7 inNil
  replace hZ := Nat.le_trans hZ hc7.size
  refine ⟨.tuple #[.int .i64 (y5.1), .bool (y5.2)], rfl, ?_⟩
  refine wS_pure 5 [(12, .bool (y5.2)), (11, .int .i64 (y5.1)), (45, .bool (y5.2)), (44, .int .i64 (y5.1)), (41, .tuple #[.int .i64 (y5.1), .bool (y5.2)])] (by kernel_rfl) ?_
  refine wS_end (by rfl) ?_
  refine eX_then ?_
  refine cW_seq ?_
  refine cW_seq ?_
  refine cW_region ?_
  refine wS_pure 3 [(48, .bool (!y5.2)), (47, .bool (!y5.2)), (46, .bool (y5.2))] (by kernel_rfl) ?_
  refine wS_bool (!y5.2) (fun hb2 => ?_) (fun hb2 => ?_)
  ·have hm := condT hb2 hm
   rewrite [hb2]
   refine wS_pure 10 [(58, .bool (true)), (57, undef), (56, undef), (55, undef), (54, undef), (53, .bool (true)), (52, .bool (true)), (51, undef), (50, undef), (49, undef)] (by kernel_rfl) ?_
   refine wS_end (by rfl) ?_
   refine eX_then ?_
   refine cW_prune [(5, .pointer (some ⟨b1, 0, none⟩)), (6, .slice A6 (y3.1).length cap6), (7, .int .i64 (y3.2.1)), (8, .bool (y3.2.2)), (9, .slice A7 (y4.1).length cap7), (10, .bool (y4.2)), (11, .int .i64 (y5.1)), (58, .bool (true))] (by kernel_rfl) (by kernel_rfl) (fun a2 => ?_)
   refine cW_cond_t (by kernel_rfl) ?_
   refine cW_seq ?_
   refine cW_region ?_
   refine wS_pure 1 [(4, .bool (false))] (by kernel_rfl) ?_
   refine wS_end (by rfl) ?_
   refine eX_then ?_
   refine cW_ret ?_
   refine eX_then_ret ?_
   have hq : (some false : Option ((Bool))) = some _ := hm
   replace hq := someE hq
   subst hq
   refine eX_ret (vs := [.bool (false)]) [.tmp 4] (by rfl) ⟨by (show lkE _ _ _ = _); kernel_rfl, trivial⟩ ?_
   exact ⟨rfl, hB⟩
  ·have hm := condF hb2 hm
   rewrite [hb2]
   refine wS_loadA (d := 49) (T := 27) (ad := ⟨b1, 0, none⟩) (vs := [.int .i64 (y2.1), .slice A3 (y2.2.1).length cap3, .slice A4 (y2.2.2.1).length cap4, .slice A5 (y2.2.2.2).length cap5]) (by kernel_rfl) vt27 (fun i u hu => box_cells F6 0 hu (by rfl)) ?_
   obtain ⟨y6, hy6, hm⟩ := bindE hm
   refine wS_calls (d := 50) (f := 16) (vs := [.agg #[.int .i64 (y2.1), .slice A3 (y2.2.1).length cap3, .slice A4 (y2.2.2.1).length cap4, .slice A5 (y2.2.2.2).length cap5]]) (by kernel_rfl) ent16 (c_impl_ValidWiring hy6 (F2.slr encI_ok) (F3.slr encI_ok) (F4.sl encI_ok)) ?_
   rintro _ w8 ⟨rfl, hc8⟩
   replace F0 := F0.chg hc8 Dj.nil
   replace F1 := F1.chg hc8 Dj.nil
   replace F2 := F2.chg hc8 Dj.nil
   replace F3 := F3.chg hc8 Dj.nil
   replace F4 := F4.chg hc8 Dj.nil
   replace F6 := F6.chg hc8 notNil
   replace F7 := F7.chg hc8 Dj.nil
   replace F8 := F8.chg hc8 Dj.nil
   replace hB := hB.inS hc8 inNil
   replace hZ := Nat.le_trans hZ hc8.size
   refine ⟨.bool (y6), rfl, ?_⟩
   refine wS_pure 3 [(53, .bool (!y6)), (52, .bool (!y6)), (51, .bool (!y6))] (by kernel_rfl) ?_
   refine wS_bool (!y6) (fun hb3 => ?_) (fun hb3 => ?_)
   ·have hm := condT hb3 hm
    rewrite [hb3]
    refine wS_pure 5 [(58, .bool (true)), (57, undef), (56, undef), (55, undef), (54, undef)] (by kernel_rfl) ?_
    refine wS_end (by rfl) ?_
    refine eX_then ?_
    refine cW_prune [(5, .pointer (some ⟨b1, 0, none⟩)), (6, .slice A6 (y3.1).length cap6), (7, .int .i64 (y3.2.1)), (8, .bool (y3.2.2)), (9, .slice A7 (y4.1).length cap7), (10, .bool (y4.2)), (11, .int .i64 (y5.1)), (58, .bool (true))] (by kernel_rfl) (by kernel_rfl) (fun a3 => ?_)
    refine cW_cond_t (by kernel_rfl) ?_
    refine cW_seq ?_
    refine cW_region ?_
    refine wS_pure 1 [(4, .bool (false))] (by kernel_rfl) ?_
    refine wS_end (by rfl) ?_
    refine eX_then ?_
    refine cW_ret ?_
    refine eX_then_ret ?_
    have hq : (some false : Option ((Bool))) = some _ := hm
    replace hq := someE hq
    subst hq
    refine eX_ret (vs := [.bool (false)]) [.tmp 4] (by rfl) ⟨by (show lkE _ _ _ = _); kernel_rfl, trivial⟩ ?_
    exact ⟨rfl, hB⟩
   ·have hm := condF hb3 hm
    rewrite [hb3]
    refine wS_pure 2 [(55, .bool (y3.2.2)), (54, .bool (y3.2.2))] (by kernel_rfl) ?_
    refine wS_bool y3.2.2 (fun hb4 => ?_) (fun hb4 => ?_)
    ·have hm := condT hb4 hm
     rewrite [hb4]
     refine wS_pure 3 [(58, .bool (y4.2)), (57, .bool (y4.2)), (56, .bool (y4.2))] (by kernel_rfl) ?_
     refine wS_end (by rfl) ?_
     refine eX_then ?_
     refine cW_prune [(5, .pointer (some ⟨b1, 0, none⟩)), (6, .slice A6 (y3.1).length cap6), (7, .int .i64 (y3.2.1)), (8, .bool (true)), (9, .slice A7 (y4.1).length cap7), (10, .bool (y4.2)), (11, .int .i64 (y5.1)), (58, .bool (y4.2))] (by kernel_rfl) (by kernel_rfl) (fun a4 => ?_)
     refine cW_cond (t := y4.2) (by kernel_rfl) (fun hb5 => ?_) (fun hb5 => ?_)
     ·have hm := condT hb5 hm
      refine cW_seq ?_
      refine cW_region ?_
      refine wS_pure 1 [(4, .bool (false))] (by kernel_rfl) ?_
      refine wS_end (by rfl) ?_
      refine eX_then ?_
      refine cW_ret ?_
      refine eX_then_ret ?_
      have hq : (some false : Option ((Bool))) = some _ := hm
      replace hq := someE hq
      subst hq
      refine eX_ret (vs := [.bool (false)]) [.tmp 4] (by rfl) ⟨by (show lkE _ _ _ = _); kernel_rfl, trivial⟩ ?_
      exact ⟨rfl, hB⟩
     ·have hm := condF hb5 hm
      refine cW_skip ?_
      refine eX_then ?_
      refine cW_seq ?_
      refine cW_region ?_
      refine wS_pure 1 [(13, .int .i64 (0))] (by kernel_rfl) ?_
      refine wS_end (by rfl) ?_
      refine eX_then ?_
      refine cW_seq ?_
      refine cW_region ?_
      refine wS_pure 1 [(14, .bool (false))] (by kernel_rfl) ?_
      refine wS_end (by rfl) ?_
      refine eX_then ?_
      refine cW_seq ?_
      refine cW_seq ?_
      refine cW_region ?_
      refine wS_pure 1 [(15, .int .i64 (0))] (by kernel_rfl) ?_
      refine wS_end (by rfl) ?_
      refine eX_then ?_
      obtain ⟨r1, hr1, hm⟩ := bindE hm
      have hm1 := hm
      refine cW_cut (fun a' w' => ∃ x1 : Int, ∃ x2 : Bool, Sum.inl ((x1, x2)) = r1 ∧ Fr 228 [(5, .pointer (some ⟨b1, 0, none⟩)), (8, .bool (true)), (9, .slice A7 (y4.1).length cap7), (10, .bool (y4.2)), (11, .int .i64 (y5.1)), (13, .int .i64 (x1)), (14, .bool (x2))] a' ∧ OwR 1 encI 25 2 w' fp2 fr1 A3 cap3 y2.2.1 ∧ OwR 1 encI 25 2 w' fp3 fr2 A4 cap4 y2.2.2.1 ∧ Ow 1 encI 2 w' fp4 A5 cap5 y2.2.2.2 ∧ Cl w' b1 27 [.int .i64 (y2.1), .slice A3 (y2.2.1).length cap3, .slice A4 (y2.2.2.1).length cap4, .slice A5 (y2.2.2.2).length cap5] ∧ Ow 1 encI 2 w' fp6 A7 cap7 y4.1 ∧ Chg [] w0 w' ∧ w0.heap.size ≤ w'.heap.size) ?_ ?_
      ·refine cW_block ?_
       refine cW_loop _ (fun (s1 : Int × Bool × Int) a' w' => ∃ x3 : Int, ∃ x4 : Bool, ∃ x5 : Int, (x3, x4, x5) = s1 ∧ Fr 228 [(5, .pointer (some ⟨b1, 0, none⟩)), (6, .slice A6 (y3.1).length cap6), (7, .int .i64 (y3.2.1)), (8, .bool (true)), (9, .slice A7 (y4.1).length cap7), (10, .bool (y4.2)), (11, .int .i64 (y5.1)), (13, .int .i64 (x3)), (14, .bool (x4)), (15, .int .i64 (x5))] a' ∧ OwR 1 encI 25 2 w' fp2 fr1 A3 cap3 y2.2.1 ∧ OwR 1 encI 25 2 w' fp3 fr2 A4 cap4 y2.2.2.1 ∧ Ow 1 encI 2 w' fp4 A5 cap5 y2.2.2.2 ∧ Cl w' b1 27 [.int .i64 (y2.1), .slice A3 (y2.2.1).length cap3, .slice A4 (y2.2.2.1).length cap4, .slice A5 (y2.2.2.2).length cap5] ∧ Ow 1 encI 2 w' fp5 A6 cap6 y3.1 ∧ Ow 1 encI 2 w' fp6 A7 cap7 y4.1 ∧ Chg [] w0 w' ∧ w0.heap.size ≤ w'.heap.size) hr1 (fun hst => ⟨0, false, 0, rfl, Fr.of hst (by kernel_rfl), F2, F3, F4, F6, F7, F8, hB, hZ⟩) ?_
       rintro _ c1 a' w9 ⟨x3, x4, x5, rfl, hF1, F9, F10, F11, F12, F13, F14, hB, hZ⟩ hx1
       refine Fr.goOn hF1 (by kernel_rfl) ?_
       have hm := hx1
       unfold m_laws_FnLayers_s3 at hm
       refine cW_seq ?_
       refine cW_seq ?_
       refine cW_region ?_
       refine wS_pure 2 [(60, .pointer (some ⟨b1, 0, none⟩)), (59, .int .i64 (x5))] (by kernel_rfl) ?_
       refine wS_load1 (d := 61) (T := 2) (ad := ⟨b1, 0, none⟩) (v := .int .i64 (y2.1)) (by kernel_rfl) vt2 ((F12).cell 0) ?_
       refine wS_pure 1 [(62, .int .u64 (wu y2.1))] (by kernel_rfl) ?_
       obtain ⟨u1, hu1, hm⟩ := bindE hm
       refine wS_shl (d := 63) (x := 1) (y := wu y2.1) (yk := .u64) (by kernel_rfl) (p0E hu1) ?_
       refine wS_pure 1 [(64, .bool (decide (x5 < (shlI 1 (wu y2.1)))))] (by kernel_rfl) ?_
       refine wS_end (by rfl) ?_
       refine eX_then ?_
       refine cW_cond (t := decide (x5 < (shlI 1 (wu y2.1)))) (by kernel_rfl) (fun hb6 => ?_) (fun hb6 => ?_)
       ·have hm := condT hb6 hm
        refine cW_skip ?_
        refine eX_then ?_
        refine cW_seq ?_
        refine cW_block ?_
        refine cW_seq ?_
        refine cW_region ?_
        refine wS_bs0 (α := Int) (enc := encI) (d := 67) (t := 25) (T := 2) (by kernel_rfl) el25 ?_
        intro b2 w10 G7 F15 hc9
        have D16 : Dj (fp2 ++ fr1) [b2] := Dj.of F9.low (low1 G7)
        have D17 : Dj (fp3 ++ fr2) [b2] := Dj.of F10.low (low1 G7)
        have D18 : Dj fp4 [b2] := Dj.of F11.low (low1 G7)
        have D19 : Dj [b1] [b2] := Dj.of (lt1 F12.lt) (low1 G7)
        have D20 : Dj fp5 [b2] := Dj.of F13.low (low1 G7)
        have D21 : Dj fp6 [b2] := Dj.of F14.low (low1 G7)
        replace F9 := F9.chg hc9 Dj.nil
        replace F10 := F10.chg hc9 Dj.nil
        replace F11 := F11.chg hc9 Dj.nil
        replace F12 := F12.chg hc9 notNil
        replace F13 := F13.chg hc9 Dj.nil
        replace F14 := F14.chg hc9 Dj.nil
        replace hB := hB.inS hc9 inNil
        replace G7 := Nat.le_trans hZ G7
        replace G7 := low1 G7
        replace hZ := Nat.le_trans hZ hc9.size
        refine wS_pure 1 [(16, .slice (some ⟨b2, 0, none⟩) (([] : List (Int))).length 0)] (by kernel_rfl) ?_
        refine wS_end (by rfl) ?_
        refine eX_then ?_
        refine cW_seq ?_
        refine cW_seq ?_
        refine cW_region ?_
        refine wS_pure 1 [(17, .int .i64 (0))] (by kernel_rfl) ?_
        refine wS_end (by rfl) ?_
        refine eX_then ?_
        obtain ⟨r2, hr2, hm⟩ := bindE hm
        have hm2 := hm
        refine cW_cut (fun a' w' => ∃ l3 : List (Int), ∃ A8 : Option Addr, ∃ cap8 : Nat, ∃ fp7 : List Nat, l3 = r2 ∧ Fr 228 [(5, .pointer (some ⟨b1, 0, none⟩)), (6, .slice A6 (y3.1).length cap6), (7, .int .i64 (y3.2.1)), (8, .bool (true)), (9, .slice A7 (y4.1).length cap7), (10, .bool (y4.2)), (11, .int .i64 (y5.1)), (13, .int .i64 (x3)), (14, .bool (x4)), (15, .int .i64 (x5)), (16, .slice A8 (l3).length cap8)] a' ∧ OwR 1 encI 25 2 w' fp2 fr1 A3 cap3 y2.2.1 ∧ OwR 1 encI 25 2 w' fp3 fr2 A4 cap4 y2.2.2.1 ∧ Ow 1 encI 2 w' fp4 A5 cap5 y2.2.2.2 ∧ Cl w' b1 27 [.int .i64 (y2.1), .slice A3 (y2.2.1).length cap3, .slice A4 (y2.2.2.1).length cap4, .slice A5 (y2.2.2.2).length cap5] ∧ Ow 1 encI 2 w' fp5 A6 cap6 y3.1 ∧ Ow 1 encI 2 w' fp6 A7 cap7 y4.1 ∧ Ow 1 encI 2 w' fp7 A8 cap8 l3 ∧ (∀ x ∈ fp7, w0.heap.size ≤ x) ∧ Dj (fp2 ++ fr1) fp7 ∧ Dj (fp3 ++ fr2) fp7 ∧ Dj fp4 fp7 ∧ Dj [b1] fp7 ∧ Dj fp5 fp7 ∧ Dj fp6 fp7 ∧ Chg [] w0 w' ∧ w0.heap.size ≤ w'.heap.size) ?_ ?_
        ·refine cW_block ?_
         refine cW_loop _ (fun (s2 : (List (Int)) × Int) a' w' => ∃ l4 : List (Int), ∃ A9 : Option Addr, ∃ cap9 : Nat, ∃ fp8 : List Nat, ∃ x6 : Int, (l4, x6) = s2 ∧ Fr 228 [(5, .pointer (some ⟨b1, 0, none⟩)), (6, .slice A6 (y3.1).length cap6), (7, .int .i64 (y3.2.1)), (8, .bool (true)), (9, .slice A7 (y4.1).length cap7), (10, .bool (y4.2)), (11, .int .i64 (y5.1)), (13, .int .i64 (x3)), (14, .bool (x4)), (15, .int .i64 (x5)), (16, .slice A9 (l4).length cap9), (17, .int .i64 (x6))] a' ∧ OwR 1 encI 25 2 w' fp2 fr1 A3 cap3 y2.2.1 ∧ OwR 1 encI 25 2 w' fp3 fr2 A4 cap4 y2.2.2.1 ∧ Ow 1 encI 2 w' fp4 A5 cap5 y2.2.2.2 ∧ Cl w' b1 27 [.int .i64 (y2.1), .slice A3 (y2.2.1).length cap3, .slice A4 (y2.2.2.1).length cap4, .slice A5 (y2.2.2.2).length cap5] ∧ Ow 1 encI 2 w' fp5 A6 cap6 y3.1 ∧ Ow 1 encI 2 w' fp6 A7 cap7 y4.1 ∧ Ow 1 encI 2 w' fp8 A9 cap9 l4 ∧ (∀ x ∈ fp8, w0.heap.size ≤ x) ∧ Dj (fp2 ++ fr1) fp8 ∧ Dj (fp3 ++ fr2) fp8 ∧ Dj fp4 fp8 ∧ Dj [b1] fp8 ∧ Dj fp5 fp8 ∧ Dj fp6 fp8 ∧ Chg [] w0 w' ∧ w0.heap.size ≤ w'.heap.size) hr2 (fun hst => ⟨([] : List (Int)), (some ⟨b2, 0, none⟩), 0, [b2], 0, rfl, Fr.of hst (by kernel_rfl), F9, F10, F11, F12, F13, F14, F15, G7, D16, D17, D18, D19, D20, D21, hB, hZ⟩) ?_
         rintro _ c2 a' w11 ⟨l4, A9, cap9, fp8, x6, rfl, hF2, F16, F17, F18, F19, F20, F21, F22, G8, D22, D23, D24, D25, D26, D27, hB, hZ⟩ hx2
         refine Fr.goOn hF2 (by kernel_rfl) ?_
         have hm := hx2
         unfold m_laws_FnLayers_s4 at hm
         refine cW_seq ?_
         refine cW_seq ?_
         refine cW_region ?_
         refine wS_pure 2 [(69, .pointer (some ⟨b1, 0, none⟩)), (68, .int .i64 (x6))] (by kernel_rfl) ?_
         refine wS_load1 (d := 70) (T := 2) (ad := ⟨b1, 0, none⟩) (v := .int .i64 (y2.1)) (by kernel_rfl) vt2 ((F19).cell 0) ?_
         refine wS_pure 1 [(71, .bool (decide (x6 < y2.1)))] (by kernel_rfl) ?_
         refine wS_end (by rfl) ?_
         refine eX_then ?_
         refine cW_cond (t := decide (x6 < y2.1)) (by kernel_rfl) (fun hb7 => ?_) (fun hb7 => ?_)
         ·have hm := condT hb7 hm
          refine cW_skip ?_
          refine eX_then ?_
          refine cW_seq ?_
          refine cW_block ?_
          refine cW_region ?_
          refine wS_pure 3 [(76, .pointer (some ⟨b1, 0, none⟩)), (75, .int .i64 (x5)), (74, .slice A9 (l4).length cap9)] (by kernel_rfl) ?_
          refine wS_load1 (d := 77) (T := 2) (ad := ⟨b1, 0, none⟩) (v := .int .i64 (y2.1)) (by kernel_rfl) vt2 ((F19).cell 0) ?_
          refine wS_pure 4 [(81, .int .u64 (wu (wr ((wr (y2.1 - 1)) - x6)))), (80, .int .i64 (wr ((wr (y2.1 - 1)) - x6))), (79, .int .i64 (x6)), (78, .int .i64 (wr (y2.1 - 1)))] (by kernel_rfl) ?_
          obtain ⟨u2, hu2, hm⟩ := bindE hm
          refine wS_shr (d := 82) (x := x5) (y := wu (wr ((wr (y2.1 - 1)) - x6))) (yk := .u64) (by kernel_rfl) (p0E hu2) ?_
          refine wS_pure 1 [(83, .int .i64 (andI (shrI x5 (wu (wr ((wr (y2.1 - 1)) - x6)))) 1))] (by kernel_rfl) ?_
          refine wS_bs (enc := encI) ([andI (shrI x5 (wu (wr ((wr (y2.1 - 1)) - x6)))) 1] : List (Int)) [.int .i64 (andI (shrI x5 (wu (wr ((wr (y2.1 - 1)) - x6)))) 1)] (d := 84) (t := 25) (T := 2) (n := 1) (ps := [(0, .int .i64 (andI (shrI x5 (wu (wr ((wr (y2.1 - 1)) - x6)))) 1))]) (by kernel_rfl) el25 encI_ok (by rfl) (by omega) (by omega) (by kernel_rfl) (by rfl) ?_
          intro b3 w12 G9 F23 hc10
          have D28 : Dj (fp2 ++ fr1) [b3] := Dj.of F16.low (low1 G9)
          have D29 : Dj (fp3 ++ fr2) [b3] := Dj.of F17.low (low1 G9)
          have D30 : Dj fp4 [b3] := Dj.of F18.low (low1 G9)
          have D31 : Dj [b1] [b3] := Dj.of (lt1 F19.lt) (low1 G9)
          have D32 : Dj fp5 [b3] := Dj.of F20.low (low1 G9)
          have D33 : Dj fp6 [b3] := Dj.of F21.low (low1 G9)
          have D34 : Dj fp8 [b3] := Dj.of F22.low (low1 G9)
          replace F16 := F16.chg hc10 Dj.nil
          replace F17 := F17.chg hc10 Dj.nil
          replace F18 := F18.chg hc10 Dj.nil
          replace F19 := F19.chg hc10 notNil
          replace F20 := F20.chg hc10 Dj.nil
          replace F21 := F21.chg hc10 Dj.nil
          replace F22 := F22.chg hc10 Dj.nil
          replace hB := hB.inS hc10 inNil
          replace G9 := Nat.le_trans hZ G9
          replace G9 := low1 G9
          replace hZ := Nat.le_trans hZ hc10.size
          obtain ⟨_, hk1, hm⟩ := bindE hm
          replace hk1 := apE hk1
          refine wS_append (enc := encI) (l := (l4 : List (Int))) (l2 := (([andI (shrI x5 (wu (wr ((wr (y2.1 - 1)) - x6)))) 1] : List (Int)) : List (Int))) (d := 85) (t := 25) (T := 2) (A := A9) (A2 := (some ⟨b3, 0, none⟩)) (cap := cap9) (cap2 := 1) (by kernel_rfl) el25 encI_ok F22 (F23.sl encI_ok) (by rfl) hk1 ?_
          intro w13 fp9 A10 cap10 F24 hc11 hp1
          have G10 := low_ap G8 hZ hp1
          have D35 : Dj (fp2 ++ fr1) fp9 := Dj.ap D22 F16.low hp1
          have D36 : Dj (fp3 ++ fr2) fp9 := Dj.ap D23 F17.low hp1
          have D37 : Dj fp4 fp9 := Dj.ap D24 F18.low hp1
          have D38 : Dj [b1] fp9 := Dj.ap D25 (lt1 F19.lt) hp1
          have D39 : Dj fp5 fp9 := Dj.ap D26 F20.low hp1
          have D40 : Dj fp6 fp9 := Dj.ap D27 F21.low hp1
          have D41 : Dj [b3] fp9 := Dj.ap (D34).symm F23.low hp1
          replace F16 := F16.chg hc11 D22
          replace F17 := F17.chg hc11 D23
          replace F18 := F18.chg hc11 D24
          replace F19 := F19.chg hc11 (dj1 D25)
          replace F20 := F20.chg hc11 D26
          replace F21 := F21.chg hc11 D27
          replace F23 := F23.chg hc11 (D34).symm
          replace hB := hB.inS hc11 (inLow G8)
          replace hZ := Nat.le_trans hZ hc11.size
          refine wS_pure 1 [(16, .slice A10 (l4 ++ (([andI (shrI x5 (wu (wr ((wr (y2.1 - 1)) - x6)))) 1] : List (Int)))).length cap10)] (by kernel_rfl) ?_
          refine wS_end (by rfl) ?_
          refine eX_block ?_
          refine eX_then ?_
          refine cW_prune [(5, .pointer (some ⟨b1, 0, none⟩)), (6, .slice A6 (y3.1).length cap6), (7, .int .i64 (y3.2.1)), (8, .bool (true)), (9, .slice A7 (y4.1).length cap7), (10, .bool (y4.2)), (11, .int .i64 (y5.1)), (13, .int .i64 (x3)), (14, .bool (x4)), (15, .int .i64 (x5)), (16, .slice A10 (l4 ++ (([andI (shrI x5 (wu (wr ((wr (y2.1 - 1)) - x6)))) 1] : List (Int)))).length cap10), (17, .int .i64 (x6))] (by kernel_rfl) (by kernel_rfl) (fun a5 => ?_)
          refine cW_region ?_
          refine wS_pure 3 [(17, .int .i64 (wr (x6 + 1))), (73, .int .i64 (wr (x6 + 1))), (72, .int .i64 (x6))] (by kernel_rfl) ?_
          refine wS_end (by rfl) ?_
          have hq : (some (Ctl.next ((l4 ++ (([andI (shrI x5 (wu (wr ((wr (y2.1 - 1)) - x6)))) 1] : List (Int))), wr (x6 + 1)))) : Option (Ctl ((List (Int)) × Int) ((List (Int))))) = some _ := hm
          replace hq := someE hq
          subst hq
          exact eX_next hx2 (fun hst => ⟨l4 ++ (([andI (shrI x5 (wu (wr ((wr (y2.1 - 1)) - x6)))) 1] : List (Int))), A10, cap10, fp9, wr (x6 + 1), rfl, Fr.of hst (by kernel_rfl), F16, F17, F18, F19, F20, F21, F24, G10, D35, D36, D37, D38, D39, D40, hB, hZ⟩)
         ·have hm := condF hb7 hm
          refine cW_exit ?_
          refine eX_then_exit ?_
          have hq : (some (Ctl.out l4) : Option (Ctl ((List (Int)) × Int) ((List (Int))))) = some _ := hm
          replace hq := someE hq
          subst hq
          refine eX_outX hx2 (fun hr3 => ?_)
          replace hr3 := hr3.symm
          subst hr3
          refine eX_block_hit ?_
          exact eX_J (fun hst => ⟨l4, A9, cap9, fp8, rfl, Fr.of hst (by kernel_rfl), F16, F17, F18, F19, F20, F21, F22, G8, D22, D23, D24, D25, D26, D27, hB, hZ⟩)
        ·rintro a' w14 ⟨l3, A8, cap8, fp7, hJ, hF3, F25, F26, F27, F28, F29, F30, F31, G11, D42, D43, D44, D45, D46, D47, hB, hZ⟩
         subst hJ
         refine Fr.goX hF3 (by kernel_rfl) ?_
         refine eX_then ?_
         refine cW_seq ?_
         refine cW_region ?_
         refine wS_loadA (d := 87) (T := 27) (ad := ⟨b1, 0, none⟩) (vs := [.int .i64 (y2.1), .slice A3 (y2.2.1).length cap3, .slice A4 (y2.2.2.1).length cap4, .slice A5 (y2.2.2.2).length cap5]) (by kernel_rfl) vt27 (fun i u hu => box_cells F28 0 hu (by rfl)) ?_
         refine wS_pure 1 [(88, .slice A8 (l3).length cap8)] (by kernel_rfl) ?_
         obtain ⟨y7, hy7, hm⟩ := bindE hm
         refine wS_calls (d := 89) (f := 17) (vs := [.agg #[.int .i64 (y2.1), .slice A3 (y2.2.1).length cap3, .slice A4 (y2.2.2.1).length cap4, .slice A5 (y2.2.2.2).length cap5], .slice A8 (l3).length cap8]) (by kernel_rfl) ent17 (c_spec_CostOf hy7 (F25.slr encI_ok) (F26.slr encI_ok) (F27.sl encI_ok) (F31.sl encI_ok)) ?_
         rintro _ w15 ⟨rfl, hc12⟩
         replace F25 := F25.chg hc12 Dj.nil
         replace F26 := F26.chg hc12 Dj.nil
         replace F27 := F27.chg hc12 Dj.nil
         replace F28 := F28.chg hc12 notNil
         replace F29 := F29.chg hc12 Dj.nil
         replace F30 := F30.chg hc12 Dj.nil
         replace F31 := F31.chg hc12 Dj.nil
         replace hB := hB.inS hc12 inNil
         replace hZ := Nat.le_trans hZ hc12.size
         refine ⟨.tuple #[.int .i64 (y7.1), .bool (y7.2)], rfl, ?_⟩
         refine wS_pure 5 [(19, .bool (y7.2)), (18, .int .i64 (y7.1)), (91, .bool (y7.2)), (90, .int .i64 (y7.1)), (86, .tuple #[.int .i64 (y7.1), .bool (y7.2)])] (by kernel_rfl) ?_
         refine wS_end (by rfl) ?_
         refine eX_then ?_
         refine cW_seq ?_
         refine cW_seq ?_
         refine cW_region ?_
         refine wS_pure 1 [(92, .bool (y7.2))] (by kernel_rfl) ?_
         refine wS_loadA (d := 93) (T := 27) (ad := ⟨b1, 0, none⟩) (vs := [.int .i64 (y2.1), .slice A3 (y2.2.1).length cap3, .slice A4 (y2.2.2.1).length cap4, .slice A5 (y2.2.2.2).length cap5]) (by kernel_rfl) vt27 (fun i u hu => box_cells F28 0 hu (by rfl)) ?_
         refine wS_pure 1 [(94, .slice A8 (l3).length cap8)] (by kernel_rfl) ?_
         obtain ⟨y8, hy8, hm⟩ := bindE hm
         refine wS_calls (d := 95) (f := 18) (vs := [.agg #[.int .i64 (y2.1), .slice A3 (y2.2.1).length cap3, .slice A4 (y2.2.2.1).length cap4, .slice A5 (y2.2.2.2).length cap5], .slice A8 (l3).length cap8]) (by kernel_rfl) ent18 (c_impl_IsLayering hy8 (F25.slr encI_ok) (F26.slr encI_ok) (F27.sl encI_ok) (F31.sl encI_ok)) ?_
         rintro _ w16 ⟨rfl, hc13⟩
         replace F25 := F25.chg hc13 Dj.nil
         replace F26 := F26.chg hc13 Dj.nil
         replace F27 := F27.chg hc13 Dj.nil
         replace F28 := F28.chg hc13 notNil
         replace F29 := F29.chg hc13 Dj.nil
         replace F30 := F30.chg hc13 Dj.nil
         replace F31 := F31.chg hc13 Dj.nil
         replace hB := hB.inS hc13 inNil
         replace hZ := Nat.le_trans hZ hc13.size
         refine ⟨.bool (y8), rfl, ?_⟩
         refine wS_pure 1 [(96, .bool (!(y7.2 == y8)))] (by kernel_rfl) ?_
         refine wS_end (by rfl) ?_
         refine eX_then ?_
         refine cW_prune [(5, .pointer (some ⟨b1, 0, none⟩)), (6, .slice A6 (y3.1).length cap6), (7, .int .i64 (y3.2.1)), (8, .bool (true)), (9, .slice A7 (y4.1).length cap7), (10, .bool (y4.2)), (11, .int .i64 (y5.1)), (13, .int .i64 (x3)), (14, .bool (x4)), (15, .int .i64 (x5)), (16, .slice A8 (l3).length cap8), (18, .int .i64 (y7.1)), (19, .bool (y7.2)), (96, .bool (!(y7.2 == y8)))] (by kernel_rfl) (by kernel_rfl) (fun a6 => ?_)
         refine cW_cond (t := !(y7.2 == y8)) (by kernel_rfl) (fun hb8 => ?_) (fun hb8 => ?_)
         ·have hm := condT hb8 hm
          refine cW_seq ?_
          refine cW_region ?_
          refine wS_pure 1 [(4, .bool (false))] (by kernel_rfl) ?_
          refine wS_end (by rfl) ?_
          refine eX_then ?_
          refine cW_ret ?_
          refine eX_then_ret ?_
          refine eX_block_ret ?_
          refine eX_then_ret ?_
          have hq : (some (Ctl.out (Sum.inr false)) : Option (Ctl (Int × Bool × Int) (Sum (Int × Bool) ((Bool))))) = some _ := hm
          replace hq := someE hq
          subst hq
          refine eX_outR hx1 (fun hr => ?_)
          subst hr
          refine eX_block_ret ?_
          refine eX_then_ret ?_
          refine eX_then_ret ?_
          have hq : (some false : Option ((Bool))) = some _ := hm1
          replace hq := someE hq
          subst hq
          refine eX_ret (vs := [.bool (false)]) [.tmp 4] (by rfl) ⟨by (show lkE _ _ _ = _); kernel_rfl, trivial⟩ ?_
          exact ⟨rfl, hB⟩
         ·have hm := condF hb8 hm
          refine cW_skip ?_
          refine eX_then ?_
          refine cW_seq ?_
          refine cW_seq ?_
          refine cW_region ?_
          refine wS_pure 2 [(98, .bool (!y7.2)), (97, .bool (y7.2))] (by kernel_rfl) ?_
          refine wS_end (by rfl) ?_
          refine eX_then ?_
          refine cW_cond (t := !y7.2) (by kernel_rfl) (fun hb9 => ?_) (fun hb9 => ?_)
          ·have hm := condT hb9 hm
           refine cW_exit ?_
           refine eX_then_exit ?_
           refine eX_block_hit ?_
           refine eX_then ?_
           refine cW_region ?_
           refine wS_pure 3 [(15, .int .i64 (wr (x5 + 1))), (66, .int .i64 (wr (x5 + 1))), (65, .int .i64 (x5))] (by kernel_rfl) ?_
           refine wS_end (by rfl) ?_
           have hq : (some (Ctl.next ((x3, x4, wr (x5 + 1)))) : Option (Ctl (Int × Bool × Int) (Sum (Int × Bool) ((Bool))))) = some _ := hm
           replace hq := someE hq
           subst hq
           exact eX_next hx1 (fun hst => ⟨x3, x4, wr (x5 + 1), rfl, Fr.of hst (by kernel_rfl), F25, F26, F27, F28, F29, F30, hB, hZ⟩)
          ·have hm := condF hb9 hm
           refine cW_skip ?_
           refine eX_then ?_
           refine cW_seq ?_
           refine cW_seq ?_
           refine cW_region ?_
           refine wS_pure 3 [(101, .bool (!x4)), (100, .bool (!x4)), (99, .bool (x4))] (by kernel_rfl) ?_
           refine wS_bool (!x4) (fun hb10 => ?_) (fun hb10 => ?_)
           ·have hm := condT hb10 hm
            rewrite [hb10]
            refine wS_pure 9 [(110, .bool (decide (y7.1 < y3.2.1))), (109, .bool (decide (y7.1 < y3.2.1))), (108, .bool (decide (y7.1 < y3.2.1))), (107, .int .i64 (y3.2.1)), (106, .int .i64 (y7.1)), (105, .bool (false)), (104, .bool (false)), (103, .bool (false)), (102, .bool (true))] (by kernel_rfl) ?_
            refine wS_bool (decide (y7.1 < y3.2.1)) (fun hb11 => ?_) (fun hb11 => ?_)
            ·have hm := condT hb11 hm
             rewrite [hb11]
             refine wS_pure 14 [(124, .bool (true)), (123, undef), (122, undef), (121, undef), (120, undef), (119, undef), (118, undef), (117, undef), (116, undef), (115, undef), (114, undef), (113, undef), (112, undef), (111, undef)] (by kernel_rfl) ?_
             refine wS_end (by rfl) ?_
             refine eX_then ?_
             refine cW_prune [(5, .pointer (some ⟨b1, 0, none⟩)), (6, .slice A6 (y3.1).length cap6), (7, .int .i64 (y3.2.1)), (8, .bool (true)), (9, .slice A7 (y4.1).length cap7), (10, .bool (y4.2)), (11, .int .i64 (y5.1)), (13, .int .i64 (x3)), (15, .int .i64 (x5)), (18, .int .i64 (y7.1)), (124, .bool (true))] (by kernel_rfl) (by kernel_rfl) (fun a7 => ?_)
             refine cW_cond_t (by kernel_rfl) ?_
             refine cW_seq ?_
             refine cW_region ?_
             refine wS_pure 1 [(4, .bool (false))] (by kernel_rfl) ?_
             refine wS_end (by rfl) ?_
             refine eX_then ?_
             refine cW_ret ?_
             refine eX_then_ret ?_
             refine eX_block_ret ?_
             refine eX_then_ret ?_
             have hq : (some (Ctl.out (Sum.inr false)) : Option (Ctl (Int × Bool × Int) (Sum (Int × Bool) ((Bool))))) = some _ := hm
             replace hq := someE hq
             subst hq
             refine eX_outR hx1 (fun hr => ?_)
             subst hr
             refine eX_block_ret ?_
             refine eX_then_ret ?_
             refine eX_then_ret ?_
             have hq : (some false : Option ((Bool))) = some _ := hm1
             replace hq := someE hq
             subst hq
             refine eX_ret (vs := [.bool (false)]) [.tmp 4] (by rfl) ⟨by (show lkE _ _ _ = _); kernel_rfl, trivial⟩ ?_
             exact ⟨rfl, hB⟩
            ·have hm := condF hb11 hm
             rewrite [hb11]
             refine wS_pure 4 [(114, .bool (y7.1 == y3.2.1)), (113, .bool (y7.1 == y3.2.1)), (112, .int .i64 (y3.2.1)), (111, .int .i64 (y7.1))] (by kernel_rfl) ?_
             refine wS_bool (y7.1 == y3.2.1) (fun hb12 => ?_) (fun hb12 => ?_)
             ·have hm := condT hb12 hm
              rewrite [hb12]
              refine wS_pure 4 [(118, .bool (x3 == 0)), (117, .bool (x3 == 0)), (116, .bool (x3 == 0)), (115, .int .i64 (x3))] (by kernel_rfl) ?_
              refine wS_bool (x3 == 0) (fun hb13 => ?_) (fun hb13 => ?_)
              ·have hm := condT hb13 hm
               rewrite [hb13]
               refine wS_pure 2 [(120, .slice A6 (y3.1).length cap6), (119, .slice A8 (l3).length cap8)] (by kernel_rfl) ?_
               obtain ⟨y9, hy9, hm⟩ := bindE hm
               refine wS_calls (d := 121) (f := 19) (vs := [.slice A8 (l3).length cap8, .slice A6 (y3.1).length cap6]) (by kernel_rfl) ent19 (c_laws_b10Nums hy9 (F31.sl encI_ok) (F29.sl encI_ok)) ?_
               rintro _ w17 ⟨rfl, hc14⟩
               replace F25 := F25.chg hc14 Dj.nil
               replace F26 := F26.chg hc14 Dj.nil
               replace F27 := F27.chg hc14 Dj.nil
               replace F28 := F28.chg hc14 notNil
               replace F29 := F29.chg hc14 Dj.nil
               replace F30 := F30.chg hc14 Dj.nil
               replace F31 := F31.chg hc14 Dj.nil
               replace hB := hB.inS hc14 inNil
               replace hZ := Nat.le_trans hZ hc14.size
               refine ⟨.bool (y9), rfl, ?_⟩
               refine wS_pure 3 [(124, .bool (!y9)), (123, .bool (!y9)), (122, .bool (!y9))] (by kernel_rfl) ?_
               refine wS_end (by rfl) ?_
               refine eX_then ?_
               refine cW_prune [(5, .pointer (some ⟨b1, 0, none⟩)), (6, .slice A6 (y3.1).length cap6), (7, .int .i64 (y3.2.1)), (8, .bool (true)), (9, .slice A7 (y4.1).length cap7), (10, .bool (y4.2)), (11, .int .i64 (y5.1)), (13, .int .i64 (x3)), (15, .int .i64 (x5)), (18, .int .i64 (y7.1)), (124, .bool (!y9))] (by kernel_rfl) (by kernel_rfl) (fun a8 => ?_)
               refine cW_cond (t := !y9) (by kernel_rfl) (fun hb14 => ?_) (fun hb14 => ?_)
               ·have hm := condT hb14 hm
                refine cW_seq ?_
                refine cW_region ?_
                refine wS_pure 1 [(4, .bool (false))] (by kernel_rfl) ?_
                refine wS_end (by rfl) ?_
                refine eX_then ?_
                refine cW_ret ?_
                refine eX_then_ret ?_
                refine eX_block_ret ?_
                refine eX_then_ret ?_
                have hq : (some (Ctl.out (Sum.inr false)) : Option (Ctl (Int × Bool × Int) (Sum (Int × Bool) ((Bool))))) = some _ := hm
                replace hq := someE hq
                subst hq
                refine eX_outR hx1 (fun hr => ?_)
                subst hr
                refine eX_block_ret ?_
                refine eX_then_ret ?_
                refine eX_then_ret ?_
                have hq : (some false : Option ((Bool))) = some _ := hm1
                replace hq := someE hq
                subst hq
                refine eX_ret (vs := [.bool (false)]) [.tmp 4] (by rfl) ⟨by (show lkE _ _ _ = _); kernel_rfl, trivial⟩ ?_
                exact ⟨rfl, hB⟩
               ·have hm := condF hb14 hm
                refine cW_skip ?_
                refine eX_then ?_
                obtain ⟨s3, hs1, hm⟩ := bindE hm
                refine cW_cut (fun a' w' => ∃ x7 : Int, ∃ x8 : Bool, (x7, x8) = s3 ∧ Fr 228 [(5, .pointer (some ⟨b1, 0, none⟩)), (6, .slice A6 (y3.1).length cap6), (7, .int .i64 (y3.2.1)), (8, .bool (true)), (9, .slice A7 (y4.1).length cap7), (10, .bool (y4.2)), (11, .int .i64 (y5.1)), (13, .int .i64 (x7)), (14, .bool (x8)), (15, .int .i64 (x5))] a' ∧ OwR 1 encI 25 2 w' fp2 fr1 A3 cap3 y2.2.1 ∧ OwR 1 encI 25 2 w' fp3 fr2 A4 cap4 y2.2.2.1 ∧ Ow 1 encI 2 w' fp4 A5 cap5 y2.2.2.2 ∧ Cl w' b1 27 [.int .i64 (y2.1), .slice A3 (y2.2.1).length cap3, .slice A4 (y2.2.2.1).length cap4, .slice A5 (y2.2.2.2).length cap5] ∧ Ow 1 encI 2 w' fp5 A6 cap6 y3.1 ∧ Ow 1 encI 2 w' fp6 A7 cap7 y4.1 ∧ Chg [] w0 w' ∧ w0.heap.size ≤ w'.heap.size) ?_ ?_
                ·have hm := hs1
                 refine cW_seq ?_
                 refine cW_region ?_
                 refine wS_pure 1 [(14, .bool (true))] (by kernel_rfl) ?_
                 refine wS_end (by rfl) ?_
                 refine eX_then ?_
                 refine cW_seq ?_
                 refine cW_region ?_
                 refine wS_pure 3 [(127, .bool (y7.1 == y3.2.1)), (126, .int .i64 (y3.2.1)), (125, .int .i64 (y7.1))] (by kernel_rfl) ?_
                 refine wS_end (by rfl) ?_
                 refine eX_then ?_
                 refine cW_cond (t := y7.1 == y3.2.1) (by kernel_rfl) (fun hb15 => ?_) (fun hb15 => ?_)
                 ·have hm := condT hb15 hm
                  refine cW_region ?_
                  refine wS_pure 3 [(13, .int .i64 (wr (x3 + 1))), (129, .int .i64 (wr (x3 + 1))), (128, .int .i64 (x3))] (by kernel_rfl) ?_
                  refine wS_end (by rfl) ?_
                  have hq : (some ((wr (x3 + 1), true)) : Option (Int × Bool)) = some _ := hm
                  replace hq := someE hq
                  subst hq
                  exact eX_J (fun hst => ⟨wr (x3 + 1), true, rfl, Fr.of hst (by kernel_rfl), F25, F26, F27, F28, F29, F30, hB, hZ⟩)
                 ·have hm := condF hb15 hm
                  refine cW_skip ?_
                  have hq : (some ((x3, true)) : Option (Int × Bool)) = some _ := hm
                  replace hq := someE hq
                  subst hq
                  exact eX_J (fun hst => ⟨x3, true, rfl, Fr.of hst (by kernel_rfl), F25, F26, F27, F28, F29, F30, hB, hZ⟩)
                ·rintro a' w18 ⟨x7, x8, hJ, hF4, F32, F33, F34, F35, F36, F37, hB, hZ⟩
                 subst hJ
                 refine Fr.goX hF4 (by kernel_rfl) ?_
                 refine eX_block ?_
                 refine eX_then ?_
                 refine cW_region ?_
                 refine wS_pure 3 [(15, .int .i64 (wr (x5 + 1))), (66, .int .i64 (wr (x5 + 1))), (65, .int .i64 (x5))] (by kernel_rfl) ?_
                 refine wS_end (by rfl) ?_
                 have hq : (some (Ctl.next ((x7, x8, wr (x5 + 1)))) : Option (Ctl (Int × Bool × Int) (Sum (Int × Bool) ((Bool))))) = some _ := hm
                 replace hq := someE hq
                 subst hq
                 exact eX_next hx1 (fun hst => ⟨x7, x8, wr (x5 + 1), rfl, Fr.of hst (by kernel_rfl), F32, F33, F34, F35, F36, F37, hB, hZ⟩)
              ·have hm := condF hb13 hm
               rewrite [hb13]
               refine wS_pure 6 [(124, .bool (false)), (123, .bool (false)), (122, undef), (121, undef), (120, undef), (119, undef)] (by kernel_rfl) ?_
               refine wS_end (by rfl) ?_
               refine eX_then ?_
               refine cW_prune [(5, .pointer (some ⟨b1, 0, none⟩)), (6, .slice A6 (y3.1).length cap6), (7, .int .i64 (y3.2.1)), (8, .bool (true)), (9, .slice A7 (y4.1).length cap7), (10, .bool (y4.2)), (11, .int .i64 (y5.1)), (13, .int .i64 (x3)), (15, .int .i64 (x5)), (18, .int .i64 (y7.1)), (124, .bool (false))] (by kernel_rfl) (by kernel_rfl) (fun a9 => ?_)
               refine cW_cond_f (by kernel_rfl) ?_
               refine cW_skip ?_
               refine eX_then ?_
               obtain ⟨s4, hs2, hm⟩ := bindE hm
               refine cW_cut (fun a' w' => ∃ x9 : Int, ∃ x10 : Bool, (x9, x10) = s4 ∧ Fr 228 [(5, .pointer (some ⟨b1, 0, none⟩)), (6, .slice A6 (y3.1).length cap6), (7, .int .i64 (y3.2.1)), (8, .bool (true)), (9, .slice A7 (y4.1).length cap7), (10, .bool (y4.2)), (11, .int .i64 (y5.1)), (13, .int .i64 (x9)), (14, .bool (x10)), (15, .int .i64 (x5))] a' ∧ OwR 1 encI 25 2 w' fp2 fr1 A3 cap3 y2.2.1 ∧ OwR 1 encI 25 2 w' fp3 fr2 A4 cap4 y2.2.2.1 ∧ Ow 1 encI 2 w' fp4 A5 cap5 y2.2.2.2 ∧ Cl w' b1 27 [.int .i64 (y2.1), .slice A3 (y2.2.1).length cap3, .slice A4 (y2.2.2.1).length cap4, .slice A5 (y2.2.2.2).length cap5] ∧ Ow 1 encI 2 w' fp5 A6 cap6 y3.1 ∧ Ow 1 encI 2 w' fp6 A7 cap7 y4.1 ∧ Chg [] w0 w' ∧ w0.heap.size ≤ w'.heap.size) ?_ ?_
               ·have hm := hs2
                refine cW_seq ?_
                refine cW_region ?_
                refine wS_pure 1 [(14, .bool (true))] (by kernel_rfl) ?_
                refine wS_end (by rfl) ?_
                refine eX_then ?_
                refine cW_seq ?_
                refine cW_region ?_
                refine wS_pure 3 [(127, .bool (y7.1 == y3.2.1)), (126, .int .i64 (y3.2.1)), (125, .int .i64 (y7.1))] (by kernel_rfl) ?_
                refine wS_end (by rfl) ?_
                refine eX_then ?_
                refine cW_cond (t := y7.1 == y3.2.1) (by kernel_rfl) (fun hb16 => ?_) (fun hb16 => ?_)
                ·have hm := condT hb16 hm
                 refine cW_region ?_
                 refine wS_pure 3 [(13, .int .i64 (wr (x3 + 1))), (129, .int .i64 (wr (x3 + 1))), (128, .int .i64 (x3))] (by kernel_rfl) ?_
                 refine wS_end (by rfl) ?_
                 have hq : (some ((wr (x3 + 1), true)) : Option (Int × Bool)) = some _ := hm
                 replace hq := someE hq
                 subst hq
                 exact eX_J (fun hst => ⟨wr (x3 + 1), true, rfl, Fr.of hst (by kernel_rfl), F25, F26, F27, F28, F29, F30, hB, hZ⟩)
                ·have hm := condF hb16 hm
                 refine cW_skip ?_
                 have hq : (some ((x3, true)) : Option (Int × Bool)) = some _ := hm
                 replace hq := someE hq
                 subst hq
                 exact eX_J (fun hst => ⟨x3, true, rfl, Fr.of hst (by kernel_rfl), F25, F26, F27, F28, F29, F30, hB, hZ⟩)
               ·rintro a' w19 ⟨x9, x10, hJ, hF5, F38, F39, F40, F41, F42, F43, hB, hZ⟩
                subst hJ
                refine Fr.goX hF5 (by kernel_rfl) ?_
                refine eX_block ?_
                refine eX_then ?_
                refine cW_region ?_
                refine wS_pure 3 [(15, .int .i64 (wr (x5 + 1))), (66, .int .i64 (wr (x5 + 1))), (65, .int .i64 (x5))] (by kernel_rfl) ?_
                refine wS_end (by rfl) ?_
                have hq : (some (Ctl.next ((x9, x10, wr (x5 + 1)))) : Option (Ctl (Int × Bool × Int) (Sum (Int × Bool) ((Bool))))) = some _ := hm
                replace hq := someE hq
                subst hq
                exact eX_next hx1 (fun hst => ⟨x9, x10, wr (x5 + 1), rfl, Fr.of hst (by kernel_rfl), F38, F39, F40, F41, F42, F43, hB, hZ⟩)
             ·have hm := condF hb12 hm
              rewrite [hb12]
              refine wS_pure 10 [(124, .bool (false)), (123, .bool (false)), (122, undef), (121, undef), (120, undef), (119, undef), (118, .bool (false)), (117, .bool (false)), (116, undef), (115, undef)] (by kernel_rfl) ?_
              refine wS_end (by rfl) ?_
              refine eX_then ?_
              refine cW_prune [(5, .pointer (some ⟨b1, 0, none⟩)), (6, .slice A6 (y3.1).length cap6), (7, .int .i64 (y3.2.1)), (8, .bool (true)), (9, .slice A7 (y4.1).length cap7), (10, .bool (y4.2)), (11, .int .i64 (y5.1)), (13, .int .i64 (x3)), (15, .int .i64 (x5)), (18, .int .i64 (y7.1)), (124, .bool (false))] (by kernel_rfl) (by kernel_rfl) (fun a10 => ?_)
              refine cW_cond_f (by kernel_rfl) ?_
              refine cW_skip ?_
              refine eX_then ?_
              obtain ⟨s5, hs3, hm⟩ := bindE hm
              refine cW_cut (fun a' w' => ∃ x11 : Int, ∃ x12 : Bool, (x11, x12) = s5 ∧ Fr 228 [(5, .pointer (some ⟨b1, 0, none⟩)), (6, .slice A6 (y3.1).length cap6), (7, .int .i64 (y3.2.1)), (8, .bool (true)), (9, .slice A7 (y4.1).length cap7), (10, .bool (y4.2)), (11, .int .i64 (y5.1)), (13, .int .i64 (x11)), (14, .bool (x12)), (15, .int .i64 (x5))] a' ∧ OwR 1 encI 25 2 w' fp2 fr1 A3 cap3 y2.2.1 ∧ OwR 1 encI 25 2 w' fp3 fr2 A4 cap4 y2.2.2.1 ∧ Ow 1 encI 2 w' fp4 A5 cap5 y2.2.2.2 ∧ Cl w' b1 27 [.int .i64 (y2.1), .slice A3 (y2.2.1).length cap3, .slice A4 (y2.2.2.1).length cap4, .slice A5 (y2.2.2.2).length cap5] ∧ Ow 1 encI 2 w' fp5 A6 cap6 y3.1 ∧ Ow 1 encI 2 w' fp6 A7 cap7 y4.1 ∧ Chg [] w0 w' ∧ w0.heap.size ≤ w'.heap.size) ?_ ?_
              ·have hm := hs3
               refine cW_seq ?_
               refine cW_region ?_
               refine wS_pure 1 [(14, .bool (true))] (by kernel_rfl) ?_
               refine wS_end (by rfl) ?_
               refine eX_then ?_
               refine cW_seq ?_
               refine cW_region ?_
               refine wS_pure 3 [(127, .bool (y7.1 == y3.2.1)), (126, .int .i64 (y3.2.1)), (125, .int .i64 (y7.1))] (by kernel_rfl) ?_
               refine wS_end (by rfl) ?_
               refine eX_then ?_
               refine cW_cond (t := y7.1 == y3.2.1) (by kernel_rfl) (fun hb17 => ?_) (fun hb17 => ?_)
               ·have hm := condT hb17 hm
                refine cW_region ?_
                refine wS_pure 3 [(13, .int .i64 (wr (x3 + 1))), (129, .int .i64 (wr (x3 + 1))), (128, .int .i64 (x3))] (by kernel_rfl) ?_
                refine wS_end (by rfl) ?_
                have hq : (some ((wr (x3 + 1), true)) : Option (Int × Bool)) = some _ := hm
                replace hq := someE hq
                subst hq
                exact eX_J (fun hst => ⟨wr (x3 + 1), true, rfl, Fr.of hst (by kernel_rfl), F25, F26, F27, F28, F29, F30, hB, hZ⟩)
               ·have hm := condF hb17 hm
                refine cW_skip ?_
                have hq : (some ((x3, true)) : Option (Int × Bool)) = some _ := hm
                replace hq := someE hq
                subst hq
                exact eX_J (fun hst => ⟨x3, true, rfl, Fr.of hst (by kernel_rfl), F25, F26, F27, F28, F29, F30, hB, hZ⟩)
              ·rintro a' w20 ⟨x11, x12, hJ, hF6, F44, F45, F46, F47, F48, F49, hB, hZ⟩
               subst hJ
               refine Fr.goX hF6 (by kernel_rfl) ?_
               refine eX_block ?_
               refine eX_then ?_
               refine cW_region ?_
               refine wS_pure 3 [(15, .int .i64 (wr (x5 + 1))), (66, .int .i64 (wr (x5 + 1))), (65, .int .i64 (x5))] (by kernel_rfl) ?_
               refine wS_end (by rfl) ?_
               have hq : (some (Ctl.next ((x11, x12, wr (x5 + 1)))) : Option (Ctl (Int × Bool × Int) (Sum (Int × Bool) ((Bool))))) = some _ := hm
               replace hq := someE hq
               subst hq
               exact eX_next hx1 (fun hst => ⟨x11, x12, wr (x5 + 1), rfl, Fr.of hst (by kernel_rfl), F44, F45, F46, F47, F48, F49, hB, hZ⟩)
           ·have hm := condF hb10 hm
            rewrite [hb10]
            refine wS_pure 9 [(110, .bool (decide (y7.1 < y3.2.1))), (109, .bool (decide (y7.1 < y3.2.1))), (108, .bool (decide (y7.1 < y3.2.1))), (107, .int .i64 (y3.2.1)), (106, .int .i64 (y7.1)), (105, .bool (false)), (104, .bool (false)), (103, undef), (102, undef)] (by kernel_rfl) ?_
            refine wS_bool (decide (y7.1 < y3.2.1)) (fun hb18 => ?_) (fun hb18 => ?_)
            ·have hm := condT hb18 hm
             rewrite [hb18]
             refine wS_pure 14 [(124, .bool (true)), (123, undef), (122, undef), (121, undef), (120, undef), (119, undef), (118, undef), (117, undef), (116, undef), (115, undef), (114, undef), (113, undef), (112, undef), (111, undef)] (by kernel_rfl) ?_
             refine wS_end (by rfl) ?_
             refine eX_then ?_
             refine cW_prune [(5, .pointer (some ⟨b1, 0, none⟩)), (6, .slice A6 (y3.1).length cap6), (7, .int .i64 (y3.2.1)), (8, .bool (true)), (9, .slice A7 (y4.1).length cap7), (10, .bool (y4.2)), (11, .int .i64 (y5.1)), (13, .int .i64 (x3)), (15, .int .i64 (x5)), (18, .int .i64 (y7.1)), (124, .bool (true))] (by kernel_rfl) (by kernel_rfl) (fun a11 => ?_)
             refine cW_cond_t (by kernel_rfl) ?_
             refine cW_seq ?_
             refine cW_region ?_
             refine wS_pure 1 [(4, .bool (false))] (by kernel_rfl) ?_
             refine wS_end (by rfl) ?_
             refine eX_then ?_
             refine cW_ret ?_
             refine eX_then_ret ?_
             refine eX_block_ret ?_
             refine eX_then_ret ?_
             have hq : (some (Ctl.out (Sum.inr false)) : Option (Ctl (Int × Bool × Int) (Sum (Int × Bool) ((Bool))))) = some _ := hm
             replace hq := someE hq
             subst hq
             refine eX_outR hx1 (fun hr => ?_)
             subst hr
             refine eX_block_ret ?_
             refine eX_then_ret ?_
             refine eX_then_ret ?_
             have hq : (some false : Option ((Bool))) = some _ := hm1
             replace hq := someE hq
             subst hq
             refine eX_ret (vs := [.bool (false)]) [.tmp 4] (by rfl) ⟨by (show lkE _ _ _ = _); kernel_rfl, trivial⟩ ?_
             exact ⟨rfl, hB⟩
            ·have hm := condF hb18 hm
             rewrite [hb18]
             refine wS_pure 4 [(114, .bool (y7.1 == y3.2.1)), (113, .bool (y7.1 == y3.2.1)), (112, .int .i64 (y3.2.1)), (111, .int .i64 (y7.1))] (by kernel_rfl) ?_
             refine wS_bool (y7.1 == y3.2.1) (fun hb19 => ?_) (fun hb19 => ?_)
             ·have hm := condT hb19 hm
              rewrite [hb19]
              refine wS_pure 4 [(118, .bool (x3 == 0)), (117, .bool (x3 == 0)), (116, .bool (x3 == 0)), (115, .int .i64 (x3))] (by kernel_rfl) ?_
              refine wS_bool (x3 == 0) (fun hb20 => ?_) (fun hb20 => ?_)
              ·have hm := condT hb20 hm
               rewrite [hb20]
               refine wS_pure 2 [(120, .slice A6 (y3.1).length cap6), (119, .slice A8 (l3).length cap8)] (by kernel_rfl) ?_
               obtain ⟨y10, hy10, hm⟩ := bindE hm
               refine wS_calls (d := 121) (f := 19) (vs := [.slice A8 (l3).length cap8, .slice A6 (y3.1).length cap6]) (by kernel_rfl) ent19 (c_laws_b10Nums hy10 (F31.sl encI_ok) (F29.sl encI_ok)) ?_
               rintro _ w21 ⟨rfl, hc15⟩
               replace F25 := F25.chg hc15 Dj.nil
               replace F26 := F26.chg hc15 Dj.nil
               replace F27 := F27.chg hc15 Dj.nil
               replace F28 := F28.chg hc15 notNil
               replace F29 := F29.chg hc15 Dj.nil
               replace F30 := F30.chg hc15 Dj.nil
               replace F31 := F31.chg hc15 Dj.nil
               replace hB := hB.inS hc15 inNil
               replace hZ := Nat.le_trans hZ hc15.size
               refine ⟨.bool (y10), rfl, ?_⟩
               refine wS_pure 3 [(124, .bool (!y10)), (123, .bool (!y10)), (122, .bool (!y10))] (by kernel_rfl) ?_
               refine wS_end (by rfl) ?_
               refine eX_then ?_
               refine cW_prune [(5, .pointer (some ⟨b1, 0, none⟩)), (6, .slice A6 (y3.1).length cap6), (7, .int .i64 (y3.2.1)), (8, .bool (true)), (9, .slice A7 (y4.1).length cap7), (10, .bool (y4.2)), (11, .int .i64 (y5.1)), (13, .int .i64 (x3)), (15, .int .i64 (x5)), (18, .int .i64 (y7.1)), (124, .bool (!y10))] (by kernel_rfl) (by kernel_rfl) (fun a12 => ?_)
               refine cW_cond (t := !y10) (by kernel_rfl) (fun hb21 => ?_) (fun hb21 => ?_)
               ·have hm := condT hb21 hm
                refine cW_seq ?_
                refine cW_region ?_
                refine wS_pure 1 [(4, .bool (false))] (by kernel_rfl) ?_
                refine wS_end (by rfl) ?_
                refine eX_then ?_
                refine cW_ret ?_
                refine eX_then_ret ?_
                refine eX_block_ret ?_
                refine eX_then_ret ?_
                have hq : (some (Ctl.out (Sum.inr false)) : Option (Ctl (Int × Bool × Int) (Sum (Int × Bool) ((Bool))))) = some _ := hm
                replace hq := someE hq
                subst hq
                refine eX_outR hx1 (fun hr => ?_)
                subst hr
                refine eX_block_ret ?_
                refine eX_then_ret ?_
                refine eX_then_ret ?_
                have hq : (some false : Option ((Bool))) = some _ := hm1
                replace hq := someE hq
                subst hq
                refine eX_ret (vs := [.bool (false)]) [.tmp 4] (by rfl) ⟨by (show lkE _ _ _ = _); kernel_rfl, trivial⟩ ?_
                exact ⟨rfl, hB⟩
               ·have hm := condF hb21 hm
                refine cW_skip ?_
                refine eX_then ?_
                obtain ⟨s6, hs4, hm⟩ := bindE hm
                refine cW_cut (fun a' w' => ∃ x13 : Int, ∃ x14 : Bool, (x13, x14) = s6 ∧ Fr 228 [(5, .pointer (some ⟨b1, 0, none⟩)), (6, .slice A6 (y3.1).length cap6), (7, .int .i64 (y3.2.1)), (8, .bool (true)), (9, .slice A7 (y4.1).length cap7), (10, .bool (y4.2)), (11, .int .i64 (y5.1)), (13, .int .i64 (x13)), (14, .bool (x14)), (15, .int .i64 (x5))] a' ∧ OwR 1 encI 25 2 w' fp2 fr1 A3 cap3 y2.2.1 ∧ OwR 1 encI 25 2 w' fp3 fr2 A4 cap4 y2.2.2.1 ∧ Ow 1 encI 2 w' fp4 A5 cap5 y2.2.2.2 ∧ Cl w' b1 27 [.int .i64 (y2.1), .slice A3 (y2.2.1).length cap3, .slice A4 (y2.2.2.1).length cap4, .slice A5 (y2.2.2.2).length cap5] ∧ Ow 1 encI 2 w' fp5 A6 cap6 y3.1 ∧ Ow 1 encI 2 w' fp6 A7 cap7 y4.1 ∧ Chg [] w0 w' ∧ w0.heap.size ≤ w'.heap.size) ?_ ?_
                ·have hm := hs4
                 refine cW_seq ?_
                 refine cW_region ?_
                 refine wS_pure 1 [(14, .bool (true))] (by kernel_rfl) ?_
                 refine wS_end (by rfl) ?_
                 refine eX_then ?_
                 refine cW_seq ?_
                 refine cW_region ?_
                 refine wS_pure 3 [(127, .bool (y7.1 == y3.2.1)), (126, .int .i64 (y3.2.1)), (125, .int .i64 (y7.1))] (by kernel_rfl) ?_
                 refine wS_end (by rfl) ?_
                 refine eX_then ?_
                 refine cW_cond (t := y7.1 == y3.2.1) (by kernel_rfl) (fun hb22 => ?_) (fun hb22 => ?_)
                 ·have hm := condT hb22 hm
                  refine cW_region ?_
                  refine wS_pure 3 [(13, .int .i64 (wr (x3 + 1))), (129, .int .i64 (wr (x3 + 1))), (128, .int .i64 (x3))] (by kernel_rfl) ?_
                  refine wS_end (by rfl) ?_
                  have hq : (some ((wr (x3 + 1), true)) : Option (Int × Bool)) = some _ := hm
                  replace hq := someE hq
                  subst hq
                  exact eX_J (fun hst => ⟨wr (x3 + 1), true, rfl, Fr.of hst (by kernel_rfl), F25, F26, F27, F28, F29, F30, hB, hZ⟩)
                 ·have hm := condF hb22 hm
                  refine cW_skip ?_
                  have hq : (some ((x3, true)) : Option (Int × Bool)) = some _ := hm
                  replace hq := someE hq
                  subst hq
                  exact eX_J (fun hst => ⟨x3, true, rfl, Fr.of hst (by kernel_rfl), F25, F26, F27, F28, F29, F30, hB, hZ⟩)
                ·rintro a' w22 ⟨x13, x14, hJ, hF7, F50, F51, F52, F53, F54, F55, hB, hZ⟩
                 subst hJ
                 refine Fr.goX hF7 (by kernel_rfl) ?_
                 refine eX_block ?_
                 refine eX_then ?_
                 refine cW_region ?_
                 refine wS_pure 3 [(15, .int .i64 (wr (x5 + 1))), (66, .int .i64 (wr (x5 + 1))), (65, .int .i64 (x5))] (by kernel_rfl) ?_
                 refine wS_end (by rfl) ?_
                 have hq : (some (Ctl.next ((x13, x14, wr (x5 + 1)))) : Option (Ctl (Int × Bool × Int) (Sum (Int × Bool) ((Bool))))) = some _ := hm
                 replace hq := someE hq
                 subst hq
                 exact eX_next hx1 (fun hst => ⟨x13, x14, wr (x5 + 1), rfl, Fr.of hst (by kernel_rfl), F50, F51, F52, F53, F54, F55, hB, hZ⟩)
              ·have hm := condF hb20 hm
               rewrite [hb20]
               refine wS_pure 6 [(124, .bool (false)), (123, .bool (false)), (122, undef), (121, undef), (120, undef), (119, undef)] (by kernel_rfl) ?_
               refine wS_end (by rfl) ?_
               refine eX_then ?_
               refine cW_prune [(5, .pointer (some ⟨b1, 0, none⟩)), (6, .slice A6 (y3.1).length cap6), (7, .int .i64 (y3.2.1)), (8, .bool (true)), (9, .slice A7 (y4.1).length cap7), (10, .bool (y4.2)), (11, .int .i64 (y5.1)), (13, .int .i64 (x3)), (15, .int .i64 (x5)), (18, .int .i64 (y7.1)), (124, .bool (false))] (by kernel_rfl) (by kernel_rfl) (fun a13 => ?_)
               refine cW_cond_f (by kernel_rfl) ?_
               refine cW_skip ?_
               refine eX_then ?_
               obtain ⟨s7, hs5, hm⟩ := bindE hm
               refine cW_cut (fun a' w' => ∃ x15 : Int, ∃ x16 : Bool, (x15, x16) = s7 ∧ Fr 228 [(5, .pointer (some ⟨b1, 0, none⟩)), (6, .slice A6 (y3.1).length cap6), (7, .int .i64 (y3.2.1)), (8, .bool (true)), (9, .slice A7 (y4.1).length cap7), (10, .bool (y4.2)), (11, .int .i64 (y5.1)), (13, .int .i64 (x15)), (14, .bool (x16)), (15, .int .i64 (x5))] a' ∧ OwR 1 encI 25 2 w' fp2 fr1 A3 cap3 y2.2.1 ∧ OwR 1 encI 25 2 w' fp3 fr2 A4 cap4 y2.2.2.1 ∧ Ow 1 encI 2 w' fp4 A5 cap5 y2.2.2.2 ∧ Cl w' b1 27 [.int .i64 (y2.1), .slice A3 (y2.2.1).length cap3, .slice A4 (y2.2.2.1).length cap4, .slice A5 (y2.2.2.2).length cap5] ∧ Ow 1 encI 2 w' fp5 A6 cap6 y3.1 ∧ Ow 1 encI 2 w' fp6 A7 cap7 y4.1 ∧ Chg [] w0 w' ∧ w0.heap.size ≤ w'.heap.size) ?_ ?_
               ·have hm := hs5
                refine cW_seq ?_
                refine cW_region ?_
                refine wS_pure 1 [(14, .bool (true))] (by kernel_rfl) ?_
                refine wS_end (by rfl) ?_
                refine eX_then ?_
                refine cW_seq ?_
                refine cW_region ?_
                refine wS_pure 3 [(127, .bool (y7.1 == y3.2.1)), (126, .int .i64 (y3.2.1)), (125, .int .i64 (y7.1))] (by kernel_rfl) ?_
                refine wS_end (by rfl) ?_
                refine eX_then ?_
                refine cW_cond (t := y7.1 == y3.2.1) (by kernel_rfl) (fun hb23 => ?_) (fun hb23 => ?_)
                ·have hm := condT hb23 hm
                 refine cW_region ?_
                 refine wS_pure 3 [(13, .int .i64 (wr (x3 + 1))), (129, .int .i64 (wr (x3 + 1))), (128, .int .i64 (x3))] (by kernel_rfl) ?_
                 refine wS_end (by rfl) ?_
                 have hq : (some ((wr (x3 + 1), true)) : Option (Int × Bool)) = some _ := hm
                 replace hq := someE hq
                 subst hq
                 exact eX_J (fun hst => ⟨wr (x3 + 1), true, rfl, Fr.of hst (by kernel_rfl), F25, F26, F27, F28, F29, F30, hB, hZ⟩)
                ·have hm := condF hb23 hm
                 refine cW_skip ?_
                 have hq : (some ((x3, true)) : Option (Int × Bool)) = some _ := hm
                 replace hq := someE hq
                 subst hq
                 exact eX_J (fun hst => ⟨x3, true, rfl, Fr.of hst (by kernel_rfl), F25, F26, F27, F28, F29, F30, hB, hZ⟩)
               ·rintro a' w23 ⟨x15, x16, hJ, hF8, F56, F57, F58, F59, F60, F61, hB, hZ⟩
                subst hJ
                refine Fr.goX hF8 (by kernel_rfl) ?_
                refine eX_block ?_
                refine eX_then ?_
                refine cW_region ?_
                refine wS_pure 3 [(15, .int .i64 (wr (x5 + 1))), (66, .int .i64 (wr (x5 + 1))), (65, .int .i64 (x5))] (by kernel_rfl) ?_
                refine wS_end (by rfl) ?_
                have hq : (some (Ctl.next ((x15, x16, wr (x5 + 1)))) : Option (Ctl (Int × Bool × Int) (Sum (Int × Bool) ((Bool))))) = some _ := hm
                replace hq := someE hq
                subst hq
                exact eX_next hx1 (fun hst => ⟨x15, x16, wr (x5 + 1), rfl, Fr.of hst (by kernel_rfl), F56, F57, F58, F59, F60, F61, hB, hZ⟩)
             ·have hm := condF hb19 hm
              rewrite [hb19]
              refine wS_pure 10 [(124, .bool (false)), (123, .bool (false)), (122, undef), (121, undef), (120, undef), (119, undef), (118, .bool (false)), (117, .bool (false)), (116, undef), (115, undef)] (by kernel_rfl) ?_
              refine wS_end (by rfl) ?_
              refine eX_then ?_
              refine cW_prune [(5, .pointer (some ⟨b1, 0, none⟩)), (6, .slice A6 (y3.1).length cap6), (7, .int .i64 (y3.2.1)), (8, .bool (true)), (9, .slice A7 (y4.1).length cap7), (10, .bool (y4.2)), (11, .int .i64 (y5.1)), (13, .int .i64 (x3)), (15, .int .i64 (x5)), (18, .int .i64 (y7.1)), (124, .bool (false))] (by kernel_rfl) (by kernel_rfl) (fun a14 => ?_)
              refine cW_cond_f (by kernel_rfl) ?_
              refine cW_skip ?_
              refine eX_then ?_
              obtain ⟨s8, hs6, hm⟩ := bindE hm
              refine cW_cut (fun a' w' => ∃ x17 : Int, ∃ x18 : Bool, (x17, x18) = s8 ∧ Fr 228 [(5, .pointer (some ⟨b1, 0, none⟩)), (6, .slice A6 (y3.1).length cap6), (7, .int .i64 (y3.2.1)), (8, .bool (true)), (9, .slice A7 (y4.1).length cap7), (10, .bool (y4.2)), (11, .int .i64 (y5.1)), (13, .int .i64 (x17)), (14, .bool (x18)), (15, .int .i64 (x5))] a' ∧ OwR 1 encI 25 2 w' fp2 fr1 A3 cap3 y2.2.1 ∧ OwR 1 encI 25 2 w' fp3 fr2 A4 cap4 y2.2.2.1 ∧ Ow 1 encI 2 w' fp4 A5 cap5 y2.2.2.2 ∧ Cl w' b1 27 [.int .i64 (y2.1), .slice A3 (y2.2.1).length cap3, .slice A4 (y2.2.2.1).length cap4, .slice A5 (y2.2.2.2).length cap5] ∧ Ow 1 encI 2 w' fp5 A6 cap6 y3.1 ∧ Ow 1 encI 2 w' fp6 A7 cap7 y4.1 ∧ Chg [] w0 w' ∧ w0.heap.size ≤ w'.heap.size) ?_ ?_
              ·have hm := hs6
               refine cW_seq ?_
               refine cW_region ?_
               refine wS_pure 1 [(14, .bool (true))] (by kernel_rfl) ?_
               refine wS_end (by rfl) ?_
               refine eX_then ?_
               refine cW_seq ?_
               refine cW_region ?_
               refine wS_pure 3 [(127, .bool (y7.1 == y3.2.1)), (126, .int .i64 (y3.2.1)), (125, .int .i64 (y7.1))] (by kernel_rfl) ?_
               refine wS_end (by rfl) ?_
               refine eX_then ?_
               refine cW_cond (t := y7.1 == y3.2.1) (by kernel_rfl) (fun hb24 => ?_) (fun hb24 => ?_)
               ·have hm := condT hb24 hm
                refine cW_region ?_
                refine wS_pure 3 [(13, .int .i64 (wr (x3 + 1))), (129, .int .i64 (wr (x3 + 1))), (128, .int .i64 (x3))] (by kernel_rfl) ?_
                refine wS_end (by rfl) ?_
                have hq : (some ((wr (x3 + 1), true)) : Option (Int × Bool)) = some _ := hm
                replace hq := someE hq
                subst hq
                exact eX_J (fun hst => ⟨wr (x3 + 1), true, rfl, Fr.of hst (by kernel_rfl), F25, F26, F27, F28, F29, F30, hB, hZ⟩)
               ·have hm := condF hb24 hm
                refine cW_skip ?_
                have hq : (some ((x3, true)) : Option (Int × Bool)) = some _ := hm
                replace hq := someE hq
                subst hq
                exact eX_J (fun hst => ⟨x3, true, rfl, Fr.of hst (by kernel_rfl), F25, F26, F27, F28, F29, F30, hB, hZ⟩)
              ·rintro a' w24 ⟨x17, x18, hJ, hF9, F62, F63, F64, F65, F66, F67, hB, hZ⟩
               subst hJ
               refine Fr.goX hF9 (by kernel_rfl) ?_
               refine eX_block ?_
               refine eX_then ?_
               refine cW_region ?_
               refine wS_pure 3 [(15, .int .i64 (wr (x5 + 1))), (66, .int .i64 (wr (x5 + 1))), (65, .int .i64 (x5))] (by kernel_rfl) ?_
               refine wS_end (by rfl) ?_
               have hq : (some (Ctl.next ((x17, x18, wr (x5 + 1)))) : Option (Ctl (Int × Bool × Int) (Sum (Int × Bool) ((Bool))))) = some _ := hm
               replace hq := someE hq
               subst hq
               exact eX_next hx1 (fun hst => ⟨x17, x18, wr (x5 + 1), rfl, Fr.of hst (by kernel_rfl), F62, F63, F64, F65, F66, F67, hB, hZ⟩)
       ·have hm := condF hb6 hm
        refine cW_exit ?_
        refine eX_then_exit ?_
        have hq : (some (Ctl.out (Sum.inl ((x3, x4)))) : Option (Ctl (Int × Bool × Int) (Sum (Int × Bool) ((Bool))))) = some _ := hm
        replace hq := someE hq
        subst hq
        refine eX_outX hx1 (fun hr4 => ?_)
        replace hr4 := hr4.symm
        subst hr4
        refine eX_block_hit ?_
        exact eX_J (fun hst => ⟨x3, x4, rfl, Fr.of hst (by kernel_rfl), F9, F10, F11, F12, F14, hB, hZ⟩)
      ·rintro a' w25 ⟨x1, x2, hJ, hF10, F68, F69, F70, F71, F72, hB, hZ⟩
       subst hJ
       refine Fr.goX hF10 (by kernel_rfl) ?_
       refine eX_then ?_
       refine cW_seq ?_
       refine cW_seq ?_
       refine cW_region ?_
       refine wS_pure 4 [(133, .bool (!(x2 == true))), (132, .bool (!(x2 == true))), (131, .bool (true)), (130, .bool (x2))] (by kernel_rfl) ?_
       refine wS_bool (!(x2 == true)) (fun hb25 => ?_) (fun hb25 => ?_)
       ·have hm := condT hb25 hm
        rewrite [hb25]
        refine wS_pure 4 [(137, .bool (true)), (136, undef), (135, undef), (134, undef)] (by kernel_rfl) ?_
        refine wS_end (by rfl) ?_
        refine eX_then ?_
        refine cW_cond_t (by kernel_rfl) ?_
        refine cW_seq ?_
        refine cW_region ?_
        refine wS_pure 1 [(4, .bool (false))] (by kernel_rfl) ?_
        refine wS_end (by rfl) ?_
        refine eX_then ?_
        refine cW_ret ?_
        refine eX_then_ret ?_
        have hq : (some false : Option ((Bool))) = some _ := hm
        replace hq := someE hq
        subst hq
        refine eX_ret (vs := [.bool (false)]) [.tmp 4] (by rfl) ⟨by (show lkE _ _ _ = _); kernel_rfl, trivial⟩ ?_
        exact ⟨rfl, hB⟩
       ·have hm := condF hb25 hm
        rewrite [hb25]
        refine wS_pure 4 [(137, .bool (x1 != y5.1)), (136, .bool (x1 != y5.1)), (135, .int .i64 (y5.1)), (134, .int .i64 (x1))] (by kernel_rfl) ?_
        refine wS_end (by rfl) ?_
        refine eX_then ?_
        refine cW_cond (t := x1 != y5.1) (by kernel_rfl) (fun hb26 => ?_) (fun hb26 => ?_)
        ·have hm := condT hb26 hm
         refine cW_seq ?_
         refine cW_region ?_
         refine wS_pure 1 [(4, .bool (false))] (by kernel_rfl) ?_
         refine wS_end (by rfl) ?_
         refine eX_then ?_
         refine cW_ret ?_
         refine eX_then_ret ?_
         have hq : (some false : Option ((Bool))) = some _ := hm
         replace hq := someE hq
         subst hq
         refine eX_ret (vs := [.bool (false)]) [.tmp 4] (by rfl) ⟨by (show lkE _ _ _ = _); kernel_rfl, trivial⟩ ?_
         exact ⟨rfl, hB⟩
        ·have hm := condF hb26 hm
         refine cW_skip ?_
         refine eX_then ?_
         refine cW_seq ?_
         refine cW_seq ?_
         refine cW_region ?_
         refine wS_pure 2 [(139, .bool (!y4.2)), (138, .bool (y4.2))] (by kernel_rfl) ?_
         refine wS_end (by rfl) ?_
         refine eX_then ?_
         refine cW_cond (t := !y4.2) (by kernel_rfl) (fun hb27 => ?_) (fun hb27 => ?_)
         ·have hm := condT hb27 hm
          refine cW_seq ?_
          refine cW_region ?_
          refine wS_pure 1 [(4, .bool (true))] (by kernel_rfl) ?_
          refine wS_end (by rfl) ?_
          refine eX_then ?_
          refine cW_ret ?_
          refine eX_then_ret ?_
          have hq : (some true : Option ((Bool))) = some _ := hm
          replace hq := someE hq
          subst hq
          refine eX_ret (vs := [.bool (true)]) [.tmp 4] (by rfl) ⟨by (show lkE _ _ _ = _); kernel_rfl, trivial⟩ ?_
          exact ⟨rfl, hB⟩
         ·have hm := condF hb27 hm
          refine cW_skip ?_
          refine eX_then ?_
          refine cW_seq ?_
          refine cW_seq ?_
          refine cW_region ?_
          refine wS_pure 1 [(20, .int .i64 (0))] (by kernel_rfl) ?_
          refine wS_end (by rfl) ?_
          refine eX_then ?_
          obtain ⟨r3, hr5, hm⟩ := bindE hm
          have hm3 := hm
          refine cW_cut (fun a' w' => Sum.inl (()) = r3 ∧ Fr 228 [(9, .slice A7 (y4.1).length cap7)] a' ∧ Ow 1 encI 2 w' fp6 A7 cap7 y4.1 ∧ Chg [] w0 w' ∧ w0.heap.size ≤ w'.heap.size) ?_ ?_
          ·refine cW_block ?_
           refine cW_loop _ (fun (s9 : Int) a' w' => ∃ x19 : Int, x19 = s9 ∧ Fr 228 [(5, .pointer (some ⟨b1, 0, none⟩)), (9, .slice A7 (y4.1).length cap7), (20, .int .i64 (x19))] a' ∧ OwR 1 encI 25 2 w' fp2 fr1 A3 cap3 y2.2.1 ∧ OwR 1 encI 25 2 w' fp3 fr2 A4 cap4 y2.2.2.1 ∧ Ow 1 encI 2 w' fp4 A5 cap5 y2.2.2.2 ∧ Cl w' b1 27 [.int .i64 (y2.1), .slice A3 (y2.2.1).length cap3, .slice A4 (y2.2.2.1).length cap4, .slice A5 (y2.2.2.2).length cap5] ∧ Ow 1 encI 2 w' fp6 A7 cap7 y4.1 ∧ Chg [] w0 w' ∧ w0.heap.size ≤ w'.heap.size) hr5 (fun hst => ⟨0, rfl, Fr.of hst (by kernel_rfl), F68, F69, F70, F71, F72, hB, hZ⟩) ?_
           rintro _ c3 a' w26 ⟨x19, rfl, hF11, F73, F74, F75, F76, F77, hB, hZ⟩ hx3
           refine Fr.goOn hF11 (by kernel_rfl) ?_
           have hm := hx3
           unfold m_laws_FnLayers_s7 at hm
           refine cW_seq ?_
           refine cW_seq ?_
           refine cW_region ?_
           refine wS_pure 4 [(143, .bool (decide (x19 < (((y4.1).length : Int))))), (142, .int .i64 (((y4.1).length : Int))), (141, .slice A7 (y4.1).length cap7), (140, .int .i64 (x19))] (by kernel_rfl) ?_
           refine wS_end (by rfl) ?_
           refine eX_then ?_
           refine cW_cond (t := decide (x19 < (((y4.1).length : Int)))) (by kernel_rfl) (fun hb28 => ?_) (fun hb28 => ?_)
           ·have hm := condT hb28 hm
            refine cW_skip ?_
            refine eX_then ?_
            refine cW_seq ?_
            refine cW_block ?_
            refine cW_seq ?_
            refine cW_region ?_
            refine wS_pure 2 [(147, .int .i64 (x19)), (146, .slice A7 (y4.1).length cap7)] (by kernel_rfl) ?_
            obtain ⟨x20, hx4, hm⟩ := bindE hm
            refine wS_idx (d := 148) (T := 25) (A := A7) (n := (y4.1).length) (cap := cap7) (kd := .i64) (m := x19) (by kernel_rfl) sl25 ((F77.sl encI_ok).is hx4) ?_
            refine wS_load1 (d := 149) (T := 2) (ad := (elA A7 1 (x19) 0)) (v := .int .i64 (x20)) (by kernel_rfl) vt2 (Sl.cell (F77.sl encI_ok) hx4 0 (by rfl)) ?_
            refine wS_pure 1 [(21, .int .i64 (x20))] (by kernel_rfl) ?_
            refine wS_end (by rfl) ?_
            refine eX_then ?_
            refine cW_seq ?_
            refine cW_region ?_
            refine wS_pure 5 [(154, .int .i64 (((y4.1).length : Int))), (153, .slice A7 (y4.1).length cap7), (152, .int .i64 (wr (x19 + 1))), (151, .int .i64 (x19)), (150, .slice A7 (y4.1).length cap7)] (by kernel_rfl) ?_
            obtain ⟨u3, hu3, hm⟩ := bindE hm
            refine wS_rem (d := 155) (x := wr (x19 + 1)) (y := ((y4.1).length : Int)) (by kernel_rfl) (nzE hu3) ?_
            obtain ⟨x21, hx5, hm⟩ := bindE hm
            refine wS_idx (d := 156) (T := 25) (A := A7) (n := (y4.1).length) (cap := cap7) (kd := .i64) (m := Int.tmod (wr (x19 + 1)) (((y4.1).length : Int))) (by kernel_rfl) sl25 ((F77.sl encI_ok).is hx5) ?_
            refine wS_load1 (d := 157) (T := 2) (ad := (elA A7 1 (Int.tmod (wr (x19 + 1)) (((y4.1).length : Int))) 0)) (v := .int .i64 (x21)) (by kernel_rfl) vt2 (Sl.cell (F77.sl encI_ok) hx5 0 (by rfl)) ?_
            refine wS_pure 1 [(22, .int .i64 (x21))] (by kernel_rfl) ?_
            refine wS_end (by rfl) ?_
            refine eX_then ?_
            refine cW_seq ?_
            refine cW_region ?_
            refine wS_pure 1 [(23, .bool (false))] (by kernel_rfl) ?_
            refine wS_end (by rfl) ?_
            refine eX_then ?_
            refine cW_seq ?_
            refine cW_seq ?_
            refine cW_region ?_
            refine wS_pure 1 [(24, .int .i64 (0))] (by kernel_rfl) ?_
            refine wS_end (by rfl) ?_
            refine eX_then ?_
            obtain ⟨r4, hr6, hm⟩ := bindE hm
            have hm4 := hm
            refine cW_cut (fun a' w' => ∃ x22 : Bool, x22 = r4 ∧ Fr 228 [(5, .pointer (some ⟨b1, 0, none⟩)), (9, .slice A7 (y4.1).length cap7), (20, .int .i64 (x19)), (21, .int .i64 (x20)), (23, .bool (x22))] a' ∧ OwR 1 encI 25 2 w' fp2 fr1 A3 cap3 y2.2.1 ∧ OwR 1 encI 25 2 w' fp3 fr2 A4 cap4 y2.2.2.1 ∧ Ow 1 encI 2 w' fp4 A5 cap5 y2.2.2.2 ∧ Cl w' b1 27 [.int .i64 (y2.1), .slice A3 (y2.2.1).length cap3, .slice A4 (y2.2.2.1).length cap4, .slice A5 (y2.2.2.2).length cap5] ∧ Ow 1 encI 2 w' fp6 A7 cap7 y4.1 ∧ Chg [] w0 w' ∧ w0.heap.size ≤ w'.heap.size) ?_ ?_
            ·refine cW_block ?_
             refine cW_loop _ (fun (s10 : Bool × Int) a' w' => ∃ x23 : Bool, ∃ x24 : Int, (x23, x24) = s10 ∧ Fr 228 [(5, .pointer (some ⟨b1, 0, none⟩)), (9, .slice A7 (y4.1).length cap7), (20, .int .i64 (x19)), (21, .int .i64 (x20)), (22, .int .i64 (x21)), (23, .bool (x23)), (24, .int .i64 (x24))] a' ∧ OwR 1 encI 25 2 w' fp2 fr1 A3 cap3 y2.2.1 ∧ OwR 1 encI 25 2 w' fp3 fr2 A4 cap4 y2.2.2.1 ∧ Ow 1 encI 2 w' fp4 A5 cap5 y2.2.2.2 ∧ Cl w' b1 27 [.int .i64 (y2.1), .slice A3 (y2.2.1).length cap3, .slice A4 (y2.2.2.1).length cap4, .slice A5 (y2.2.2.2).length cap5] ∧ Ow 1 encI 2 w' fp6 A7 cap7 y4.1 ∧ Chg [] w0 w' ∧ w0.heap.size ≤ w'.heap.size) hr6 (fun hst => ⟨false, 0, rfl, Fr.of hst (by kernel_rfl), F73, F74, F75, F76, F77, hB, hZ⟩) ?_
             rintro _ c4 a' w27 ⟨x23, x24, rfl, hF12, F78, F79, F80, F81, F82, hB, hZ⟩ hx6
             refine Fr.goOn hF12 (by kernel_rfl) ?_
             have hm := hx6
             unfold m_laws_FnLayers_s8 at hm
             refine cW_seq ?_
             refine cW_seq ?_
             refine cW_region ?_
             refine wS_pure 2 [(159, .pointer (some ⟨b1, 1, none⟩)), (158, .int .i64 (x24))] (by kernel_rfl) ?_
             refine wS_load1 (d := 160) (T := 24) (ad := ⟨b1, 1, none⟩) (v := .slice A3 (y2.2.1).length cap3) (by kernel_rfl) vt24 ((F81).cell 1) ?_
             refine wS_pure 2 [(162, .bool (decide (x24 < (((y2.2.1).length : Int))))), (161, .int .i64 (((y2.2.1).length : Int)))] (by kernel_rfl) ?_
             refine wS_end (by rfl) ?_
             refine eX_then ?_
             refine cW_cond (t := decide (x24 < (((y2.2.1).length : Int)))) (by kernel_rfl) (fun hb29 => ?_) (fun hb29 => ?_)
             ·have hm := condT hb29 hm
              refine cW_skip ?_
              refine eX_then ?_
              refine cW_seq ?_
              refine cW_block ?_
              refine cW_region ?_
              refine wS_pure 2 [(166, .bool (x23)), (165, .bool (x23))] (by kernel_rfl) ?_
              refine wS_bool x23 (fun hb30 => ?_) (fun hb30 => ?_)
              ·have hm := condT hb30 hm
               subst hb30
               refine wS_pure 44 [(23, .bool (true)), (209, .bool (true)), (208, undef), (207, undef), (206, undef), (205, undef), (204, undef), (203, undef), (202, undef), (201, undef), (200, undef), (199, undef), (198, undef), (197, undef), (196, undef), (195, undef), (194, undef), (193, undef), (192, undef), (191, undef), (190, undef), (189, undef), (188, .bool (true)), (187, .bool (true)), (186, undef), (185, undef), (184, undef), (183, undef), (182, undef), (181, undef), (180, undef), (179, undef), (178, undef), (177, undef), (176, undef), (175, undef), (174, undef), (173, undef), (172, undef), (171, undef), (170, undef), (169, undef), (168, undef), (167, undef)] (by kernel_rfl) ?_
               refine wS_end (by rfl) ?_
               refine eX_block ?_
               refine eX_then ?_
               refine cW_prune [(5, .pointer (some ⟨b1, 0, none⟩)), (9, .slice A7 (y4.1).length cap7), (20, .int .i64 (x19)), (21, .int .i64 (x20)), (22, .int .i64 (x21)), (23, .bool (true)), (24, .int .i64 (x24))] (by kernel_rfl) (by kernel_rfl) (fun a15 => ?_)
               refine cW_region ?_
               refine wS_pure 3 [(24, .int .i64 (wr (x24 + 1))), (164, .int .i64 (wr (x24 + 1))), (163, .int .i64 (x24))] (by kernel_rfl) ?_
               refine wS_end (by rfl) ?_
               have hq : (some (Ctl.next ((true, wr (x24 + 1)))) : Option (Ctl (Bool × Int) (Bool))) = some _ := hm
               replace hq := someE hq
               subst hq
               exact eX_next hx6 (fun hst => ⟨true, wr (x24 + 1), rfl, Fr.of hst (by kernel_rfl), F78, F79, F80, F81, F82, hB, hZ⟩)
              ·have hm := condF hb30 hm
               subst hb30
               refine wS_pure 1 [(167, .pointer (some ⟨b1, 1, none⟩))] (by kernel_rfl) ?_
               refine wS_load1 (d := 168) (T := 24) (ad := ⟨b1, 1, none⟩) (v := .slice A3 (y2.2.1).length cap3) (by kernel_rfl) vt24 ((F81).cell 1) ?_
               refine wS_pure 1 [(169, .int .i64 (x24))] (by kernel_rfl) ?_
               obtain ⟨x25, hx7, hm⟩ := bindE hm
               refine wS_idx (d := 170) (T := 24) (A := A3) (n := (y2.2.1).length) (cap := cap3) (kd := .i64) (m := x24) (by kernel_rfl) sl24 ((F78.slr encI_ok).is hx7) ?_
               obtain ⟨A11, cap11, hc16, F83, K1⟩ := OwR.row F78 encI_ok hx7
               have G12 := low_inr G1
               have Dm1 := (F78.dj).symm
               refine wS_load1 (d := 171) (T := 25) (ad := (elA A3 1 (x24) 0)) (v := .slice A11 (x25).length cap11) (by kernel_rfl) vt25 hc16 ?_
               obtain ⟨x26, hx8, hm⟩ := bindE hm
               refine wS_idx (d := 172) (T := 25) (A := A11) (n := (x25).length) (cap := cap11) (kd := .i64) (m := 0) (by kernel_rfl) sl25 (F83.is hx8) ?_
               refine wS_load1 (d := 173) (T := 2) (ad := (elA A11 1 (0) 0)) (v := .int .i64 (x26)) (by kernel_rfl) vt2 (Sl.cell F83 hx8 0 (by rfl)) ?_
               refine wS_pure 3 [(176, .bool (x26 == x20)), (175, .bool (x26 == x20)), (174, .int .i64 (x20))] (by kernel_rfl) ?_
               refine wS_bool (x26 == x20) (fun hb31 => ?_) (fun hb31 => ?_)
               ·have hm := condT hb31 hm
                rewrite [hb31]
                refine wS_pure 1 [(177, .pointer (some ⟨b1, 1, none⟩))] (by kernel_rfl) ?_
                refine wS_load1 (d := 178) (T := 24) (ad := ⟨b1, 1, none⟩) (v := .slice A3 (y2.2.1).length cap3) (by kernel_rfl) vt24 ((F81).cell 1) ?_
                refine wS_pure 1 [(179, .int .i64 (x24))] (by kernel_rfl) ?_
                obtain ⟨x27, hx9, hm⟩ := bindE hm
                refine wS_idx (d := 180) (T := 24) (A := A3) (n := (y2.2.1).length) (cap := cap3) (kd := .i64) (m := x24) (by kernel_rfl) sl24 ((F78.slr encI_ok).is hx9) ?_
                obtain ⟨A12, cap12, hc17, F84, K2⟩ := OwR.row F78 encI_ok hx9
                have G13 := low_inr G1
                have Dm2 := (F78.dj).symm
                refine wS_load1 (d := 181) (T := 25) (ad := (elA A3 1 (x24) 0)) (v := .slice A12 (x27).length cap12) (by kernel_rfl) vt25 hc17 ?_
                obtain ⟨x28, hx10, hm⟩ := bindE hm
                refine wS_idx (d := 182) (T := 25) (A := A12) (n := (x27).length) (cap := cap12) (kd := .i64) (m := 1) (by kernel_rfl) sl25 (F84.is hx10) ?_
                refine wS_load1 (d := 183) (T := 2) (ad := (elA A12 1 (1) 0)) (v := .int .i64 (x28)) (by kernel_rfl) vt2 (Sl.cell F84 hx10 0 (by rfl)) ?_
                refine wS_pure 5 [(188, .bool (x28 == x21)), (187, .bool (x28 == x21)), (186, .bool (x28 == x21)), (185, .bool (x28 == x21)), (184, .int .i64 (x21))] (by kernel_rfl) ?_
                refine wS_bool (x28 == x21) (fun hb32 => ?_) (fun hb32 => ?_)
                ·have hm := condT hb32 hm
                 rewrite [hb32]
                 refine wS_pure 22 [(23, .bool (true)), (209, .bool (true)), (208, undef), (207, undef), (206, undef), (205, undef), (204, undef), (203, undef), (202, undef), (201, undef), (200, undef), (199, undef), (198, undef), (197, undef), (196, undef), (195, undef), (194, undef), (193, undef), (192, undef), (191, undef), (190, undef), (189, undef)] (by kernel_rfl) ?_
                 refine wS_end (by rfl) ?_
                 refine eX_block ?_
                 refine eX_then ?_
                 refine cW_prune [(5, .pointer (some ⟨b1, 0, none⟩)), (9, .slice A7 (y4.1).length cap7), (20, .int .i64 (x19)), (21, .int .i64 (x20)), (22, .int .i64 (x21)), (23, .bool (true)), (24, .int .i64 (x24))] (by kernel_rfl) (by kernel_rfl) (fun a16 => ?_)
                 refine cW_region ?_
                 refine wS_pure 3 [(24, .int .i64 (wr (x24 + 1))), (164, .int .i64 (wr (x24 + 1))), (163, .int .i64 (x24))] (by kernel_rfl) ?_
                 refine wS_end (by rfl) ?_
                 have hq : (some (Ctl.next ((true, wr (x24 + 1)))) : Option (Ctl (Bool × Int) (Bool))) = some _ := hm
                 replace hq := someE hq
                 subst hq
                 exact eX_next hx6 (fun hst => ⟨true, wr (x24 + 1), rfl, Fr.of hst (by kernel_rfl), F78, F79, F80, F81, F82, hB, hZ⟩)
                ·have hm := condF hb32 hm
                 rewrite [hb32]
                 refine wS_pure 1 [(189, .pointer (some ⟨b1, 1, none⟩))] (by kernel_rfl) ?_
                 refine wS_load1 (d := 190) (T := 24) (ad := ⟨b1, 1, none⟩) (v := .slice A3 (y2.2.1).length cap3) (by kernel_rfl) vt24 ((F81).cell 1) ?_
                 refine wS_pure 1 [(191, .int .i64 (x24))] (by kernel_rfl) ?_
                 obtain ⟨x29, hx11, hm⟩ := bindE hm
                 refine wS_idx (d := 192) (T := 24) (A := A3) (n := (y2.2.1).length) (cap := cap3) (kd := .i64) (m := x24) (by kernel_rfl) sl24 ((F78.slr encI_ok).is hx11) ?_
                 obtain ⟨A13, cap13, hc18, F85, K3⟩ := OwR.row F78 encI_ok hx11
                 have G14 := low_inr G1
                 have Dm3 := (F78.dj).symm
                 refine wS_load1 (d := 193) (T := 25) (ad := (elA A3 1 (x24) 0)) (v := .slice A13 (x29).length cap13) (by kernel_rfl) vt25 hc18 ?_
                 obtain ⟨x30, hx12, hm⟩ := bindE hm
                 refine wS_idx (d := 194) (T := 25) (A := A13) (n := (x29).length) (cap := cap13) (kd := .i64) (m := 0) (by kernel_rfl) sl25 (F85.is hx12) ?_
                 refine wS_load1 (d := 195) (T := 2) (ad := (elA A13 1 (0) 0)) (v := .int .i64 (x30)) (by kernel_rfl) vt2 (Sl.cell F85 hx12 0 (by rfl)) ?_
                 refine wS_pure 3 [(198, .bool (x30 == x21)), (197, .bool (x30 == x21)), (196, .int .i64 (x21))] (by kernel_rfl) ?_
                 refine wS_bool (x30 == x21) (fun hb33 => ?_) (fun hb33 => ?_)
                 ·have hm := condT hb33 hm
                  rewrite [hb33]
                  refine wS_pure 1 [(199, .pointer (some ⟨b1, 1, none⟩))] (by kernel_rfl) ?_
                  refine wS_load1 (d := 200) (T := 24) (ad := ⟨b1, 1, none⟩) (v := .slice A3 (y2.2.1).length cap3) (by kernel_rfl) vt24 ((F81).cell 1) ?_
                  refine wS_pure 1 [(201, .int .i64 (x24))] (by kernel_rfl) ?_
                  obtain ⟨x31, hx13, hm⟩ := bindE hm
                  refine wS_idx (d := 202) (T := 24) (A := A3) (n := (y2.2.1).length) (cap := cap3) (kd := .i64) (m := x24) (by kernel_rfl) sl24 ((F78.slr encI_ok).is hx13) ?_
                  obtain ⟨A14, cap14, hc19, F86, K4⟩ := OwR.row F78 encI_ok hx13
                  have G15 := low_inr G1
                  have Dm4 := (F78.dj).symm
                  refine wS_load1 (d := 203) (T := 25) (ad := (elA A3 1 (x24) 0)) (v := .slice A14 (x31).length cap14) (by kernel_rfl) vt25 hc19 ?_
                  obtain ⟨x32, hx14, hm⟩ := bindE hm
                  refine wS_idx (d := 204) (T := 25) (A := A14) (n := (x31).length) (cap := cap14) (kd := .i64) (m := 1) (by kernel_rfl) sl25 (F86.is hx14) ?_
                  refine wS_load1 (d := 205) (T := 2) (ad := (elA A14 1 (1) 0)) (v := .int .i64 (x32)) (by kernel_rfl) vt2 (Sl.cell F86 hx14 0 (by rfl)) ?_
                  refine wS_pure 5 [(23, .bool (x32 == x20)), (209, .bool (x32 == x20)), (208, .bool (x32 == x20)), (207, .bool (x32 == x20)), (206, .int .i64 (x20))] (by kernel_rfl) ?_
                  refine wS_end (by rfl) ?_
                  refine eX_block ?_
                  refine eX_then ?_
                  refine cW_prune [(5, .pointer (some ⟨b1, 0, none⟩)), (9, .slice A7 (y4.1).length cap7), (20, .int .i64 (x19)), (21, .int .i64 (x20)), (22, .int .i64 (x21)), (23, .bool (x32 == x20)), (24, .int .i64 (x24))] (by kernel_rfl) (by kernel_rfl) (fun a17 => ?_)
                  refine cW_region ?_
                  refine wS_pure 3 [(24, .int .i64 (wr (x24 + 1))), (164, .int .i64 (wr (x24 + 1))), (163, .int .i64 (x24))] (by kernel_rfl) ?_
                  refine wS_end (by rfl) ?_
                  have hq : (some (Ctl.next ((x32 == x20, wr (x24 + 1)))) : Option (Ctl (Bool × Int) (Bool))) = some _ := hm
                  replace hq := someE hq
                  subst hq
                  exact eX_next hx6 (fun hst => ⟨x32 == x20, wr (x24 + 1), rfl, Fr.of hst (by kernel_rfl), F78, F79, F80, F81, F82, hB, hZ⟩)
                 ·have hm := condF hb33 hm
                  rewrite [hb33]
                  refine wS_pure 12 [(23, .bool (false)), (209, .bool (false)), (208, .bool (false)), (207, undef), (206, undef), (205, undef), (204, undef), (203, undef), (202, undef), (201, undef), (200, undef), (199, undef)] (by kernel_rfl) ?_
                  refine wS_end (by rfl) ?_
                  refine eX_block ?_
                  refine eX_then ?_
                  refine cW_prune [(5, .pointer (some ⟨b1, 0, none⟩)), (9, .slice A7 (y4.1).length cap7), (20, .int .i64 (x19)), (21, .int .i64 (x20)), (22, .int .i64 (x21)), (23, .bool (false)), (24, .int .i64 (x24))] (by kernel_rfl) (by kernel_rfl) (fun a18 => ?_)
                  refine cW_region ?_
                  refine wS_pure 3 [(24, .int .i64 (wr (x24 + 1))), (164, .int .i64 (wr (x24 + 1))), (163, .int .i64 (x24))] (by kernel_rfl) ?_
                  refine wS_end (by rfl) ?_
                  have hq : (some (Ctl.next ((false, wr (x24 + 1)))) : Option (Ctl (Bool × Int) (Bool))) = some _ := hm
                  replace hq := someE hq
                  subst hq
                  exact eX_next hx6 (fun hst => ⟨false, wr (x24 + 1), rfl, Fr.of hst (by kernel_rfl), F78, F79, F80, F81, F82, hB, hZ⟩)
               ·have hm := condF hb31 hm
                rewrite [hb31]
                refine wS_pure 13 [(189, .pointer (some ⟨b1, 1, none⟩)), (188, .bool (false)), (187, .bool (false)), (186, .bool (false)), (185, undef), (184, undef), (183, undef), (182, undef), (181, undef), (180, undef), (179, undef), (178, undef), (177, undef)] (by kernel_rfl) ?_
                refine wS_load1 (d := 190) (T := 24) (ad := ⟨b1, 1, none⟩) (v := .slice A3 (y2.2.1).length cap3) (by kernel_rfl) vt24 ((F81).cell 1) ?_
                refine wS_pure 1 [(191, .int .i64 (x24))] (by kernel_rfl) ?_
                obtain ⟨x33, hx15, hm⟩ := bindE hm
                refine wS_idx (d := 192) (T := 24) (A := A3) (n := (y2.2.1).length) (cap := cap3) (kd := .i64) (m := x24) (by kernel_rfl) sl24 ((F78.slr encI_ok).is hx15) ?_
                obtain ⟨A15, cap15, hc20, F87, K5⟩ := OwR.row F78 encI_ok hx15
                have G16 := low_inr G1
                have Dm5 := (F78.dj).symm
                refine wS_load1 (d := 193) (T := 25) (ad := (elA A3 1 (x24) 0)) (v := .slice A15 (x33).length cap15) (by kernel_rfl) vt25 hc20 ?_
                obtain ⟨x34, hx16, hm⟩ := bindE hm
                refine wS_idx (d := 194) (T := 25) (A := A15) (n := (x33).length) (cap := cap15) (kd := .i64) (m := 0) (by kernel_rfl) sl25 (F87.is hx16) ?_
                refine wS_load1 (d := 195) (T := 2) (ad := (elA A15 1 (0) 0)) (v := .int .i64 (x34)) (by kernel_rfl) vt2 (Sl.cell F87 hx16 0 (by rfl)) ?_
                refine wS_pure 3 [(198, .bool (x34 == x21)), (197, .bool (x34 == x21)), (196, .int .i64 (x21))] (by kernel_rfl) ?_
                refine wS_bool (x34 == x21) (fun hb34 => ?_) (fun hb34 => ?_)
                ·have hm := condT hb34 hm
                 rewrite [hb34]
                 refine wS_pure 1 [(199, .pointer (some ⟨b1, 1, none⟩))] (by kernel_rfl) ?_
                 refine wS_load1 (d := 200) (T := 24) (ad := ⟨b1, 1, none⟩) (v := .slice A3 (y2.2.1).length cap3) (by kernel_rfl) vt24 ((F81).cell 1) ?_
                 refine wS_pure 1 [(201, .int .i64 (x24))] (by kernel_rfl) ?_
                 obtain ⟨x35, hx17, hm⟩ := bindE hm
                 refine wS_idx (d := 202) (T := 24) (A := A3) (n := (y2.2.1).length) (cap := cap3) (kd := .i64) (m := x24) (by kernel_rfl) sl24 ((F78.slr encI_ok).is hx17) ?_
                 obtain ⟨A16, cap16, hc21, F88, K6⟩ := OwR.row F78 encI_ok hx17
                 have G17 := low_inr G1
                 have Dm6 := (F78.dj).symm
                 refine wS_load1 (d := 203) (T := 25) (ad := (elA A3 1 (x24) 0)) (v := .slice A16 (x35).length cap16) (by kernel_rfl) vt25 hc21 ?_
                 obtain ⟨x36, hx18, hm⟩ := bindE hm
                 refine wS_idx (d := 204) (T := 25) (A := A16) (n := (x35).length) (cap := cap16) (kd := .i64) (m := 1) (by kernel_rfl) sl25 (F88.is hx18) ?_
                 refine wS_load1 (d := 205) (T := 2) (ad := (elA A16 1 (1) 0)) (v := .int .i64 (x36)) (by kernel_rfl) vt2 (Sl.cell F88 hx18 0 (by rfl)) ?_
                 refine wS_pure 5 [(23, .bool (x36 == x20)), (209, .bool (x36 == x20)), (208, .bool (x36 == x20)), (207, .bool (x36 == x20)), (206, .int .i64 (x20))] (by kernel_rfl) ?_
                 refine wS_end (by rfl) ?_
                 refine eX_block ?_
                 refine eX_then ?_
                 refine cW_prune [(5, .pointer (some ⟨b1, 0, none⟩)), (9, .slice A7 (y4.1).length cap7), (20, .int .i64 (x19)), (21, .int .i64 (x20)), (22, .int .i64 (x21)), (23, .bool (x36 == x20)), (24, .int .i64 (x24))] (by kernel_rfl) (by kernel_rfl) (fun a19 => ?_)
                 refine cW_region ?_
                 refine wS_pure 3 [(24, .int .i64 (wr (x24 + 1))), (164, .int .i64 (wr (x24 + 1))), (163, .int .i64 (x24))] (by kernel_rfl) ?_
                 refine wS_end (by rfl) ?_
                 have hq : (some (Ctl.next ((x36 == x20, wr (x24 + 1)))) : Option (Ctl (Bool × Int) (Bool))) = some _ := hm
                 replace hq := someE hq
                 subst hq
                 exact eX_next hx6 (fun hst => ⟨x36 == x20, wr (x24 + 1), rfl, Fr.of hst (by kernel_rfl), F78, F79, F80, F81, F82, hB, hZ⟩)
                ·have hm := condF hb34 hm
                 rewrite [hb34]
                 refine wS_pure 12 [(23, .bool (false)), (209, .bool (false)), (208, .bool (false)), (207, undef), (206, undef), (205, undef), (204, undef), (203, undef), (202, undef), (201, undef), (200, undef), (199, undef)] (by kernel_rfl) ?_
                 refine wS_end (by rfl) ?_
                 refine eX_block ?_
                 refine eX_then ?_
                 refine cW_prune [(5, .pointer (some ⟨b1, 0, none⟩)), (9, .slice A7 (y4.1).length cap7), (20, .int .i64 (x19)), (21, .int .i64 (x20)), (22, .int .i64 (x21)), (23, .bool (false)), (24, .int .i64 (x24))] (by kernel_rfl) (by kernel_rfl) (fun a20 => ?_)
                 refine cW_region ?_
                 refine wS_pure 3 [(24, .int .i64 (wr (x24 + 1))), (164, .int .i64 (wr (x24 + 1))), (163, .int .i64 (x24))] (by kernel_rfl) ?_
                 refine wS_end (by rfl) ?_
                 have hq : (some (Ctl.next ((false, wr (x24 + 1)))) : Option (Ctl (Bool × Int) (Bool))) = some _ := hm
                 replace hq := someE hq
                 subst hq
                 exact eX_next hx6 (fun hst => ⟨false, wr (x24 + 1), rfl, Fr.of hst (by kernel_rfl), F78, F79, F80, F81, F82, hB, hZ⟩)
             ·have hm := condF hb29 hm
              refine cW_exit ?_
              refine eX_then_exit ?_
              have hq : (some (Ctl.out x23) : Option (Ctl (Bool × Int) (Bool))) = some _ := hm
              replace hq := someE hq
              subst hq
              refine eX_outX hx6 (fun hr7 => ?_)
              replace hr7 := hr7.symm
              subst hr7
              refine eX_block_hit ?_
              exact eX_J (fun hst => ⟨x23, rfl, Fr.of hst (by kernel_rfl), F78, F79, F80, F81, F82, hB, hZ⟩)
            ·rintro a' w28 ⟨x22, hJ, hF13, F89, F90, F91, F92, F93, hB, hZ⟩
             subst hJ
             refine Fr.goX hF13 (by kernel_rfl) ?_
             refine eX_then ?_
             refine cW_seq ?_
             refine cW_region ?_
             refine wS_pure 3 [(212, .bool (!x22)), (211, .bool (!x22)), (210, .bool (x22))] (by kernel_rfl) ?_
             refine wS_bool (!x22) (fun hb35 => ?_) (fun hb35 => ?_)
             ·have hm := condT hb35 hm
              rewrite [hb35]
              refine wS_pure 6 [(218, .bool (true)), (217, undef), (216, undef), (215, undef), (214, undef), (213, undef)] (by kernel_rfl) ?_
              refine wS_end (by rfl) ?_
              refine eX_then ?_
              refine cW_cond_t (by kernel_rfl) ?_
              refine cW_seq ?_
              refine cW_region ?_
              refine wS_pure 1 [(4, .bool (false))] (by kernel_rfl) ?_
              refine wS_end (by rfl) ?_
              refine eX_then ?_
              refine cW_ret ?_
              refine eX_block_ret ?_
              refine eX_then_ret ?_
              have hq : (some (Ctl.out (Sum.inr false)) : Option (Ctl (Int) (Sum (Unit) ((Bool))))) = some _ := hm
              replace hq := someE hq
              subst hq
              refine eX_outR hx3 (fun hr => ?_)
              subst hr
              refine eX_block_ret ?_
              refine eX_then_ret ?_
              refine eX_then_ret ?_
              have hq : (some false : Option ((Bool))) = some _ := hm3
              replace hq := someE hq
              subst hq
              refine eX_ret (vs := [.bool (false)]) [.tmp 4] (by rfl) ⟨by (show lkE _ _ _ = _); kernel_rfl, trivial⟩ ?_
              exact ⟨rfl, hB⟩
             ·have hm := condF hb35 hm
              rewrite [hb35]
              refine wS_pure 2 [(214, .int .i64 (x19)), (213, .slice A7 (y4.1).length cap7)] (by kernel_rfl) ?_
              obtain ⟨y11, hy11, hm⟩ := bindE hm
              refine wS_cutA (enc := encI) (l := y4.1) (d := 215) (T := 25) (A := A7) (cap := cap7) (vlo := none) (vhi := some (.int .i64 (x19))) (lo := 0) (hi := x19) (n := 0) (by kernel_rfl) sl25 (Or.inr ⟨rfl, rfl⟩) (Or.inl rfl) (F93.sl encI_ok) F93.cap_le hy11 ?_
              intro A17 cap17 hA1 F94 hcap1
              obtain rfl := slci_slc hy11
              have hlv1 := Eq.refl (y4.1).length
              have hcz1 := F93.cap_le
              refine wS_pure 1 [(216, .int .i64 (x20))] (by kernel_rfl) ?_
              obtain ⟨y12, hy12, hm⟩ := bindE hm
              refine wS_calls (d := 217) (f := 20) (vs := [.slice A17 (slc y4.1 0 x19).length cap17, .int .i64 (x20)]) (by kernel_rfl) ent20 (c_laws_b10Has hy12 F94) ?_
              rintro _ w29 ⟨rfl, hc22⟩
              replace F89 := F89.chg hc22 Dj.nil
              replace F90 := F90.chg hc22 Dj.nil
              replace F91 := F91.chg hc22 Dj.nil
              replace F92 := F92.chg hc22 notNil
              replace F93 := F93.chg hc22 Dj.nil
              replace F94 := F94.chg hc22 Dj.nil
              replace hB := hB.inS hc22 inNil
              replace hZ := Nat.le_trans hZ hc22.size
              refine ⟨.bool (y12), rfl, ?_⟩
              refine wS_pure 1 [(218, .bool (y12))] (by kernel_rfl) ?_
              refine wS_end (by rfl) ?_
              refine eX_then ?_
              refine cW_cond (t := y12) (by kernel_rfl) (fun hb36 => ?_) (fun hb36 => ?_)
              ·have hm := condT hb36 hm
               refine cW_seq ?_
               refine cW_region ?_
               refine wS_pure 1 [(4, .bool (false))] (by kernel_rfl) ?_
               refine wS_end (by rfl) ?_
               refine eX_then ?_
               refine cW_ret ?_
               refine eX_block_ret ?_
               refine eX_then_ret ?_
               have hq : (some (Ctl.out (Sum.inr false)) : Option (Ctl (Int) (Sum (Unit) ((Bool))))) = some _ := hm
               replace hq := someE hq
               subst hq
               refine eX_outR hx3 (fun hr => ?_)
               subst hr
               refine eX_block_ret ?_
               refine eX_then_ret ?_
               refine eX_then_ret ?_
               have hq : (some false : Option ((Bool))) = some _ := hm3
               replace hq := someE hq
               subst hq
               refine eX_ret (vs := [.bool (false)]) [.tmp 4] (by rfl) ⟨by (show lkE _ _ _ = _); kernel_rfl, trivial⟩ ?_
               exact ⟨rfl, hB⟩
              ·have hm := condF hb36 hm
               refine cW_skip ?_
               refine eX_block ?_
               refine eX_then ?_
               refine cW_region ?_
               refine wS_pure 3 [(20, .int .i64 (wr (x19 + 1))), (145, .int .i64 (wr (x19 + 1))), (144, .int .i64 (x19))] (by kernel_rfl) ?_
               refine wS_end (by rfl) ?_
               have hq : (some (Ctl.next (wr (x19 + 1))) : Option (Ctl (Int) (Sum (Unit) ((Bool))))) = some _ := hm
               replace hq := someE hq
               subst hq
               exact eX_next hx3 (fun hst => ⟨wr (x19 + 1), rfl, Fr.of hst (by kernel_rfl), F89, F90, F91, F92, F93, hB, hZ⟩)
           ·have hm := condF hb28 hm
            refine cW_exit ?_
            refine eX_then_exit ?_
            have hq : (some (Ctl.out (Sum.inl (()))) : Option (Ctl (Int) (Sum (Unit) ((Bool))))) = some _ := hm
            replace hq := someE hq
            subst hq
            refine eX_outX hx3 (fun hr8 => ?_)
            replace hr8 := hr8.symm
            subst hr8
            refine eX_block_hit ?_
            exact eX_J (fun hst => ⟨rfl, Fr.of hst (by kernel_rfl), F77, hB, hZ⟩)
          ·rintro a' w30 ⟨hJ, hF14, F95, hB, hZ⟩
           subst hJ
           refine Fr.goX hF14 (by kernel_rfl) ?_
           refine eX_then ?_
           refine cW_seq ?_
           refine cW_region ?_
           refine wS_pure 4 [(222, .bool (decide ((((y4.1).length : Int)) ≥ 3))), (221, .bool (decide ((((y4.1).length : Int)) ≥ 3))), (220, .int .i64 (((y4.1).length : Int))), (219, .slice A7 (y4.1).length cap7)] (by kernel_rfl) ?_
           refine wS_bool (decide ((((y4.1).length : Int)) ≥ 3)) (fun hb37 => ?_) (fun hb37 => ?_)
           ·have hm := condT hb37 hm
            rewrite [hb37]
            refine wS_pure 6 [(4, .bool ((Int.tmod (((y4.1).length : Int)) 2) == 1)), (227, .bool ((Int.tmod (((y4.1).length : Int)) 2) == 1)), (226, .bool ((Int.tmod (((y4.1).length : Int)) 2) == 1)), (225, .int .i64 (Int.tmod (((y4.1).length : Int)) 2)), (224, .int .i64 (((y4.1).length : Int))), (223, .slice A7 (y4.1).length cap7)] (by kernel_rfl) ?_
            refine wS_end (by rfl) ?_
            refine eX_then ?_
            refine cW_ret ?_
            have hq : (some ((Int.tmod (((y4.1).length : Int)) 2) == 1) : Option ((Bool))) = some _ := hm
            replace hq := someE hq
            subst hq
            refine eX_ret (vs := [.bool ((Int.tmod (((y4.1).length : Int)) 2) == 1)]) [.tmp 4] (by rfl) ⟨by (show lkE _ _ _ = _); kernel_rfl, trivial⟩ ?_
            exact ⟨rfl, hB⟩
           ·have hm := condF hb37 hm
            rewrite [hb37]
            refine wS_pure 6 [(4, .bool (false)), (227, .bool (false)), (226, undef), (225, undef), (224, undef), (223, undef)] (by kernel_rfl) ?_
            refine wS_end (by rfl) ?_
            refine eX_then ?_
            refine cW_ret ?_
            have hq : (some false : Option ((Bool))) = some _ := hm
            replace hq := someE hq
            subst hq
            refine eX_ret (vs := [.bool (false)]) [.tmp 4] (by rfl) ⟨by (show lkE _ _ _ = _); kernel_rfl, trivial⟩ ?_
            exact ⟨rfl, hB⟩
    ·have hm := condF hb4 hm
     rewrite [hb4]
     refine wS_pure 3 [(58, .bool (false)), (57, .bool (false)), (56, undef)] (by kernel_rfl) ?_
     refine wS_end (by rfl) ?_
     refine eX_then ?_
     refine cW_prune [(5, .pointer (some ⟨b1, 0, none⟩)), (6, .slice A6 (y3.1).length cap6), (7, .int .i64 (y3.2.1)), (8, .bool (false)), (9, .slice A7 (y4.1).length cap7), (10, .bool (y4.2)), (11, .int .i64 (y5.1)), (58, .bool (false))] (by kernel_rfl) (by kernel_rfl) (fun a21 => ?_)
     refine cW_cond_f (by kernel_rfl) ?_
     refine cW_skip ?_
     refine eX_then ?_
     refine cW_seq ?_
     refine cW_region ?_
     refine wS_pure 1 [(13, .int .i64 (0))] (by kernel_rfl) ?_
     refine wS_end (by rfl) ?_
     refine eX_then ?_
     refine cW_seq ?_
     refine cW_region ?_
     refine wS_pure 1 [(14, .bool (false))] (by kernel_rfl) ?_
     refine wS_end (by rfl) ?_
     refine eX_then ?_
     refine cW_seq ?_
     refine cW_seq ?_
     refine cW_region ?_
     refine wS_pure 1 [(15, .int .i64 (0))] (by kernel_rfl) ?_
     refine wS_end (by rfl) ?_
     refine eX_then ?_
     obtain ⟨r5, hr9, hm⟩ := bindE hm
     have hm5 := hm
     refine cW_cut (fun a' w' => Sum.inl (()) = r5 ∧ Fr 228 [(5, .pointer (some ⟨b1, 0, none⟩)), (8, .bool (false)), (9, .slice A7 (y4.1).length cap7), (10, .bool (y4.2)), (11, .int .i64 (y5.1)), (13, .int .i64 (0)), (14, .bool (false))] a' ∧ OwR 1 encI 25 2 w' fp2 fr1 A3 cap3 y2.2.1 ∧ OwR 1 encI 25 2 w' fp3 fr2 A4 cap4 y2.2.2.1 ∧ Ow 1 encI 2 w' fp4 A5 cap5 y2.2.2.2 ∧ Cl w' b1 27 [.int .i64 (y2.1), .slice A3 (y2.2.1).length cap3, .slice A4 (y2.2.2.1).length cap4, .slice A5 (y2.2.2.2).length cap5] ∧ Ow 1 encI 2 w' fp6 A7 cap7 y4.1 ∧ Chg [] w0 w' ∧ w0.heap.size ≤ w'.heap.size) ?_ ?_
     ·refine cW_block ?_
      refine cW_loop _ (fun (s11 : Int) a' w' => ∃ x37 : Int, x37 = s11 ∧ Fr 228 [(5, .pointer (some ⟨b1, 0, none⟩)), (6, .slice A6 (y3.1).length cap6), (7, .int .i64 (y3.2.1)), (8, .bool (false)), (9, .slice A7 (y4.1).length cap7), (10, .bool (y4.2)), (11, .int .i64 (y5.1)), (13, .int .i64 (0)), (14, .bool (false)), (15, .int .i64 (x37))] a' ∧ OwR 1 encI 25 2 w' fp2 fr1 A3 cap3 y2.2.1 ∧ OwR 1 encI 25 2 w' fp3 fr2 A4 cap4 y2.2.2.1 ∧ Ow 1 encI 2 w' fp4 A5 cap5 y2.2.2.2 ∧ Cl w' b1 27 [.int .i64 (y2.1), .slice A3 (y2.2.1).length cap3, .slice A4 (y2.2.2.1).length cap4, .slice A5 (y2.2.2.2).length cap5] ∧ Ow 1 encI 2 w' fp5 A6 cap6 y3.1 ∧ Ow 1 encI 2 w' fp6 A7 cap7 y4.1 ∧ Chg [] w0 w' ∧ w0.heap.size ≤ w'.heap.size) hr9 (fun hst => ⟨0, rfl, Fr.of hst (by kernel_rfl), F2, F3, F4, F6, F7, F8, hB, hZ⟩) ?_
      rintro _ c5 a' w31 ⟨x37, rfl, hF15, F96, F97, F98, F99, F100, F101, hB, hZ⟩ hx19
      refine Fr.goOn hF15 (by kernel_rfl) ?_
      have hm := hx19
      unfold m_laws_FnLayers_s11 at hm
      refine cW_seq ?_
      refine cW_seq ?_
      refine cW_region ?_
      refine wS_pure 2 [(60, .pointer (some ⟨b1, 0, none⟩)), (59, .int .i64 (x37))] (by kernel_rfl) ?_
      refine wS_load1 (d := 61) (T := 2) (ad := ⟨b1, 0, none⟩) (v := .int .i64 (y2.1)) (by kernel_rfl) vt2 ((F99).cell 0) ?_
      refine wS_pure 1 [(62, .int .u64 (wu y2.1))] (by kernel_rfl) ?_
      obtain ⟨u4, hu4, hm⟩ := bindE hm
      refine wS_shl (d := 63) (x := 1) (y := wu y2.1) (yk := .u64) (by kernel_rfl) (p0E hu4) ?_
      refine wS_pure 1 [(64, .bool (decide (x37 < (shlI 1 (wu y2.1)))))] (by kernel_rfl) ?_
      refine wS_end (by rfl) ?_
      refine eX_then ?_
      refine cW_cond (t := decide (x37 < (shlI 1 (wu y2.1)))) (by kernel_rfl) (fun hb38 => ?_) (fun hb38 => ?_)
      ·have hm := condT hb38 hm
       refine cW_skip ?_
       refine eX_then ?_
       refine cW_seq ?_
       refine cW_block ?_
       refine cW_seq ?_
       refine cW_region ?_
       refine wS_bs0 (α := Int) (enc := encI) (d := 67) (t := 25) (T := 2) (by kernel_rfl) el25 ?_
       intro b4 w32 G18 F102 hc23
       have D48 : Dj (fp2 ++ fr1) [b4] := Dj.of F96.low (low1 G18)
       have D49 : Dj (fp3 ++ fr2) [b4] := Dj.of F97.low (low1 G18)
       have D50 : Dj fp4 [b4] := Dj.of F98.low (low1 G18)
       have D51 : Dj [b1] [b4] := Dj.of (lt1 F99.lt) (low1 G18)
       have D52 : Dj fp5 [b4] := Dj.of F100.low (low1 G18)
       have D53 : Dj fp6 [b4] := Dj.of F101.low (low1 G18)
       replace F96 := F96.chg hc23 Dj.nil
       replace F97 := F97.chg hc23 Dj.nil
       replace F98 := F98.chg hc23 Dj.nil
       replace F99 := F99.chg hc23 notNil
       replace F100 := F100.chg hc23 Dj.nil
       replace F101 := F101.chg hc23 Dj.nil
       replace hB := hB.inS hc23 inNil
       replace G18 := Nat.le_trans hZ G18
       replace G18 := low1 G18
       replace hZ := Nat.le_trans hZ hc23.size
       refine wS_pure 1 [(16, .slice (some ⟨b4, 0, none⟩) (([] : List (Int))).length 0)] (by kernel_rfl) ?_
       refine wS_end (by rfl) ?_
       refine eX_then ?_
       refine cW_seq ?_
       refine cW_seq ?_
       refine cW_region ?_
       refine wS_pure 1 [(17, .int .i64 (0))] (by kernel_rfl) ?_
       refine wS_end (by rfl) ?_
       refine eX_then ?_
       obtain ⟨r6, hr10, hm⟩ := bindE hm
       have hm6 := hm
       refine cW_cut (fun a' w' => ∃ l5 : List (Int), ∃ A18 : Option Addr, ∃ cap18 : Nat, ∃ fp10 : List Nat, l5 = r6 ∧ Fr 228 [(5, .pointer (some ⟨b1, 0, none⟩)), (6, .slice A6 (y3.1).length cap6), (7, .int .i64 (y3.2.1)), (8, .bool (false)), (9, .slice A7 (y4.1).length cap7), (10, .bool (y4.2)), (11, .int .i64 (y5.1)), (13, .int .i64 (0)), (14, .bool (false)), (15, .int .i64 (x37)), (16, .slice A18 (l5).length cap18)] a' ∧ OwR 1 encI 25 2 w' fp2 fr1 A3 cap3 y2.2.1 ∧ OwR 1 encI 25 2 w' fp3 fr2 A4 cap4 y2.2.2.1 ∧ Ow 1 encI 2 w' fp4 A5 cap5 y2.2.2.2 ∧ Cl w' b1 27 [.int .i64 (y2.1), .slice A3 (y2.2.1).length cap3, .slice A4 (y2.2.2.1).length cap4, .slice A5 (y2.2.2.2).length cap5] ∧ Ow 1 encI 2 w' fp5 A6 cap6 y3.1 ∧ Ow 1 encI 2 w' fp6 A7 cap7 y4.1 ∧ Ow 1 encI 2 w' fp10 A18 cap18 l5 ∧ (∀ x ∈ fp10, w0.heap.size ≤ x) ∧ Dj (fp2 ++ fr1) fp10 ∧ Dj (fp3 ++ fr2) fp10 ∧ Dj fp4 fp10 ∧ Dj [b1] fp10 ∧ Dj fp5 fp10 ∧ Dj fp6 fp10 ∧ Chg [] w0 w' ∧ w0.heap.size ≤ w'.heap.size) ?_ ?_
       ·refine cW_block ?_
        refine cW_loop _ (fun (s12 : (List (Int)) × Int) a' w' => ∃ l6 : List (Int), ∃ A19 : Option Addr, ∃ cap19 : Nat, ∃ fp11 : List Nat, ∃ x38 : Int, (l6, x38) = s12 ∧ Fr 228 [(5, .pointer (some ⟨b1, 0, none⟩)), (6, .slice A6 (y3.1).length cap6), (7, .int .i64 (y3.2.1)), (8, .bool (false)), (9, .slice A7 (y4.1).length cap7), (10, .bool (y4.2)), (11, .int .i64 (y5.1)), (13, .int .i64 (0)), (14, .bool (false)), (15, .int .i64 (x37)), (16, .slice A19 (l6).length cap19), (17, .int .i64 (x38))] a' ∧ OwR 1 encI 25 2 w' fp2 fr1 A3 cap3 y2.2.1 ∧ OwR 1 encI 25 2 w' fp3 fr2 A4 cap4 y2.2.2.1 ∧ Ow 1 encI 2 w' fp4 A5 cap5 y2.2.2.2 ∧ Cl w' b1 27 [.int .i64 (y2.1), .slice A3 (y2.2.1).length cap3, .slice A4 (y2.2.2.1).length cap4, .slice A5 (y2.2.2.2).length cap5] ∧ Ow 1 encI 2 w' fp5 A6 cap6 y3.1 ∧ Ow 1 encI 2 w' fp6 A7 cap7 y4.1 ∧ Ow 1 encI 2 w' fp11 A19 cap19 l6 ∧ (∀ x ∈ fp11, w0.heap.size ≤ x) ∧ Dj (fp2 ++ fr1) fp11 ∧ Dj (fp3 ++ fr2) fp11 ∧ Dj fp4 fp11 ∧ Dj [b1] fp11 ∧ Dj fp5 fp11 ∧ Dj fp6 fp11 ∧ Chg [] w0 w' ∧ w0.heap.size ≤ w'.heap.size) hr10 (fun hst => ⟨([] : List (Int)), (some ⟨b4, 0, none⟩), 0, [b4], 0, rfl, Fr.of hst (by kernel_rfl), F96, F97, F98, F99, F100, F101, F102, G18, D48, D49, D50, D51, D52, D53, hB, hZ⟩) ?_
        rintro _ c6 a' w33 ⟨l6, A19, cap19, fp11, x38, rfl, hF16, F103, F104, F105, F106, F107, F108, F109, G19, D54, D55, D56, D57, D58, D59, hB, hZ⟩ hx20
        refine Fr.goOn hF16 (by kernel_rfl) ?_
        have hm := hx20
        unfold m_laws_FnLayers_s12 at hm
        refine cW_seq ?_
        refine cW_seq ?_
        refine cW_region ?_
        refine wS_pure 2 [(69, .pointer (some ⟨b1, 0, none⟩)), (68, .int .i64 (x38))] (by kernel_rfl) ?_
        refine wS_load1 (d := 70) (T := 2) (ad := ⟨b1, 0, none⟩) (v := .int .i64 (y2.1)) (by kernel_rfl) vt2 ((F106).cell 0) ?_
        refine wS_pure 1 [(71, .bool (decide (x38 < y2.1)))] (by kernel_rfl) ?_
        refine wS_end (by rfl) ?_
        refine eX_then ?_
        refine cW_cond (t := decide (x38 < y2.1)) (by kernel_rfl) (fun hb39 => ?_) (fun hb39 => ?_)
        ·have hm := condT hb39 hm
         refine cW_skip ?_
         refine eX_then ?_
         refine cW_seq ?_
         refine cW_block ?_
         refine cW_region ?_
         refine wS_pure 3 [(76, .pointer (some ⟨b1, 0, none⟩)), (75, .int .i64 (x37)), (74, .slice A19 (l6).length cap19)] (by kernel_rfl) ?_
         refine wS_load1 (d := 77) (T := 2) (ad := ⟨b1, 0, none⟩) (v := .int .i64 (y2.1)) (by kernel_rfl) vt2 ((F106).cell 0) ?_
         refine wS_pure 4 [(81, .int .u64 (wu (wr ((wr (y2.1 - 1)) - x38)))), (80, .int .i64 (wr ((wr (y2.1 - 1)) - x38))), (79, .int .i64 (x38)), (78, .int .i64 (wr (y2.1 - 1)))] (by kernel_rfl) ?_
         obtain ⟨u5, hu5, hm⟩ := bindE hm
         refine wS_shr (d := 82) (x := x37) (y := wu (wr ((wr (y2.1 - 1)) - x38))) (yk := .u64) (by kernel_rfl) (p0E hu5) ?_
         refine wS_pure 1 [(83, .int .i64 (andI (shrI x37 (wu (wr ((wr (y2.1 - 1)) - x38)))) 1))] (by kernel_rfl) ?_
         refine wS_bs (enc := encI) ([andI (shrI x37 (wu (wr ((wr (y2.1 - 1)) - x38)))) 1] : List (Int)) [.int .i64 (andI (shrI x37 (wu (wr ((wr (y2.1 - 1)) - x38)))) 1)] (d := 84) (t := 25) (T := 2) (n := 1) (ps := [(0, .int .i64 (andI (shrI x37 (wu (wr ((wr (y2.1 - 1)) - x38)))) 1))]) (by kernel_rfl) el25 encI_ok (by rfl) (by omega) (by omega) (by kernel_rfl) (by rfl) ?_
         intro b5 w34 G20 F110 hc24
         have D60 : Dj (fp2 ++ fr1) [b5] := Dj.of F103.low (low1 G20)
         have D61 : Dj (fp3 ++ fr2) [b5] := Dj.of F104.low (low1 G20)
         have D62 : Dj fp4 [b5] := Dj.of F105.low (low1 G20)
         have D63 : Dj [b1] [b5] := Dj.of (lt1 F106.lt) (low1 G20)
         have D64 : Dj fp5 [b5] := Dj.of F107.low (low1 G20)
         have D65 : Dj fp6 [b5] := Dj.of F108.low (low1 G20)
         have D66 : Dj fp11 [b5] := Dj.of F109.low (low1 G20)
         replace F103 := F103.chg hc24 Dj.nil
         replace F104 := F104.chg hc24 Dj.nil
         replace F105 := F105.chg hc24 Dj.nil
         replace F106 := F106.chg hc24 notNil
         replace F107 := F107.chg hc24 Dj.nil
         replace F108 := F108.chg hc24 Dj.nil
         replace F109 := F109.chg hc24 Dj.nil
         replace hB := hB.inS hc24 inNil
         replace G20 := Nat.le_trans hZ G20
         replace G20 := low1 G20
         replace hZ := Nat.le_trans hZ hc24.size
         obtain ⟨_, hk2, hm⟩ := bindE hm
         replace hk2 := apE hk2
         refine wS_append (enc := encI) (l := (l6 : List (Int))) (l2 := (([andI (shrI x37 (wu (wr ((wr (y2.1 - 1)) - x38)))) 1] : List (Int)) : List (Int))) (d := 85) (t := 25) (T := 2) (A := A19) (A2 := (some ⟨b5, 0, none⟩)) (cap := cap19) (cap2 := 1) (by kernel_rfl) el25 encI_ok F109 (F110.sl encI_ok) (by rfl) hk2 ?_
         intro w35 fp12 A20 cap20 F111 hc25 hp2
         have G21 := low_ap G19 hZ hp2
         have D67 : Dj (fp2 ++ fr1) fp12 := Dj.ap D54 F103.low hp2
         have D68 : Dj (fp3 ++ fr2) fp12 := Dj.ap D55 F104.low hp2
         have D69 : Dj fp4 fp12 := Dj.ap D56 F105.low hp2
         have D70 : Dj [b1] fp12 := Dj.ap D57 (lt1 F106.lt) hp2
         have D71 : Dj fp5 fp12 := Dj.ap D58 F107.low hp2
         have D72 : Dj fp6 fp12 := Dj.ap D59 F108.low hp2
         have D73 : Dj [b5] fp12 := Dj.ap (D66).symm F110.low hp2
         replace F103 := F103.chg hc25 D54
         replace F104 := F104.chg hc25 D55
         replace F105 := F105.chg hc25 D56
         replace F106 := F106.chg hc25 (dj1 D57)
         replace F107 := F107.chg hc25 D58
         replace F108 := F108.chg hc25 D59
         replace F110 := F110.chg hc25 (D66).symm
         replace hB := hB.inS hc25 (inLow G19)
         replace hZ := Nat.le_trans hZ hc25.size
         refine wS_pure 1 [(16, .slice A20 (l6 ++ (([andI (shrI x37 (wu (wr ((wr (y2.1 - 1)) - x38)))) 1] : List (Int)))).length cap20)] (by kernel_rfl) ?_
         refine wS_end (by rfl) ?_
         refine eX_block ?_
         refine eX_then ?_
         refine cW_prune [(5, .pointer (some ⟨b1, 0, none⟩)), (6, .slice A6 (y3.1).length cap6), (7, .int .i64 (y3.2.1)), (8, .bool (false)), (9, .slice A7 (y4.1).length cap7), (10, .bool (y4.2)), (11, .int .i64 (y5.1)), (13, .int .i64 (0)), (14, .bool (false)), (15, .int .i64 (x37)), (16, .slice A20 (l6 ++ (([andI (shrI x37 (wu (wr ((wr (y2.1 - 1)) - x38)))) 1] : List (Int)))).length cap20), (17, .int .i64 (x38))] (by kernel_rfl) (by kernel_rfl) (fun a22 => ?_)
         refine cW_region ?_
         refine wS_pure 3 [(17, .int .i64 (wr (x38 + 1))), (73, .int .i64 (wr (x38 + 1))), (72, .int .i64 (x38))] (by kernel_rfl) ?_
         refine wS_end (by rfl) ?_
         have hq : (some (Ctl.next ((l6 ++ (([andI (shrI x37 (wu (wr ((wr (y2.1 - 1)) - x38)))) 1] : List (Int))), wr (x38 + 1)))) : Option (Ctl ((List (Int)) × Int) ((List (Int))))) = some _ := hm
         replace hq := someE hq
         subst hq
         exact eX_next hx20 (fun hst => ⟨l6 ++ (([andI (shrI x37 (wu (wr ((wr (y2.1 - 1)) - x38)))) 1] : List (Int))), A20, cap20, fp12, wr (x38 + 1), rfl, Fr.of hst (by kernel_rfl), F103, F104, F105, F106, F107, F108, F111, G21, D67, D68, D69, D70, D71, D72, hB, hZ⟩)
        ·have hm := condF hb39 hm
         refine cW_exit ?_
         refine eX_then_exit ?_
         have hq : (some (Ctl.out l6) : Option (Ctl ((List (Int)) × Int) ((List (Int))))) = some _ := hm
         replace hq := someE hq
         subst hq
         refine eX_outX hx20 (fun hr11 => ?_)
         replace hr11 := hr11.symm
         subst hr11
         refine eX_block_hit ?_
         exact eX_J (fun hst => ⟨l6, A19, cap19, fp11, rfl, Fr.of hst (by kernel_rfl), F103, F104, F105, F106, F107, F108, F109, G19, D54, D55, D56, D57, D58, D59, hB, hZ⟩)
       ·rintro a' w36 ⟨l5, A18, cap18, fp10, hJ, hF17, F112, F113, F114, F115, F116, F117, F118, G22, D74, D75, D76, D77, D78, D79, hB, hZ⟩
        subst hJ
        refine Fr.goX hF17 (by kernel_rfl) ?_
        refine eX_then ?_
        refine cW_seq ?_
        refine cW_region ?_
        refine wS_loadA (d := 87) (T := 27) (ad := ⟨b1, 0, none⟩) (vs := [.int .i64 (y2.1), .slice A3 (y2.2.1).length cap3, .slice A4 (y2.2.2.1).length cap4, .slice A5 (y2.2.2.2).length cap5]) (by kernel_rfl) vt27 (fun i u hu => box_cells F115 0 hu (by rfl)) ?_
        refine wS_pure 1 [(88, .slice A18 (l5).length cap18)] (by kernel_rfl) ?_
        obtain ⟨y13, hy13, hm⟩ := bindE hm
        refine wS_calls (d := 89) (f := 17) (vs := [.agg #[.int .i64 (y2.1), .slice A3 (y2.2.1).length cap3, .slice A4 (y2.2.2.1).length cap4, .slice A5 (y2.2.2.2).length cap5], .slice A18 (l5).length cap18]) (by kernel_rfl) ent17 (c_spec_CostOf hy13 (F112.slr encI_ok) (F113.slr encI_ok) (F114.sl encI_ok) (F118.sl encI_ok)) ?_
        rintro _ w37 ⟨rfl, hc26⟩
        replace F112 := F112.chg hc26 Dj.nil
        replace F113 := F113.chg hc26 Dj.nil
        replace F114 := F114.chg hc26 Dj.nil
        replace F115 := F115.chg hc26 notNil
        replace F116 := F116.chg hc26 Dj.nil
        replace F117 := F117.chg hc26 Dj.nil
        replace F118 := F118.chg hc26 Dj.nil
        replace hB := hB.inS hc26 inNil
        replace hZ := Nat.le_trans hZ hc26.size
        refine ⟨.tuple #[.int .i64 (y13.1), .bool (y13.2)], rfl, ?_⟩
        refine wS_pure 5 [(19, .bool (y13.2)), (18, .int .i64 (y13.1)), (91, .bool (y13.2)), (90, .int .i64 (y13.1)), (86, .tuple #[.int .i64 (y13.1), .bool (y13.2)])] (by kernel_rfl) ?_
        refine wS_end (by rfl) ?_
        refine eX_then ?_
        refine cW_seq ?_
        refine cW_seq ?_
        refine cW_region ?_
        refine wS_pure 1 [(92, .bool (y13.2))] (by kernel_rfl) ?_
        refine wS_loadA (d := 93) (T := 27) (ad := ⟨b1, 0, none⟩) (vs := [.int .i64 (y2.1), .slice A3 (y2.2.1).length cap3, .slice A4 (y2.2.2.1).length cap4, .slice A5 (y2.2.2.2).length cap5]) (by kernel_rfl) vt27 (fun i u hu => box_cells F115 0 hu (by rfl)) ?_
        refine wS_pure 1 [(94, .slice A18 (l5).length cap18)] (by kernel_rfl) ?_
        obtain ⟨y14, hy14, hm⟩ := bindE hm
        refine wS_calls (d := 95) (f := 18) (vs := [.agg #[.int .i64 (y2.1), .slice A3 (y2.2.1).length cap3, .slice A4 (y2.2.2.1).length cap4, .slice A5 (y2.2.2.2).length cap5], .slice A18 (l5).length cap18]) (by kernel_rfl) ent18 (c_impl_IsLayering hy14 (F112.slr encI_ok) (F113.slr encI_ok) (F114.sl encI_ok) (F118.sl encI_ok)) ?_
        rintro _ w38 ⟨rfl, hc27⟩
        replace F112 := F112.chg hc27 Dj.nil
        replace F113 := F113.chg hc27 Dj.nil
        replace F114 := F114.chg hc27 Dj.nil
        replace F115 := F115.chg hc27 notNil
        replace F116 := F116.chg hc27 Dj.nil
        replace F117 := F117.chg hc27 Dj.nil
        replace F118 := F118.chg hc27 Dj.nil
        replace hB := hB.inS hc27 inNil
        replace hZ := Nat.le_trans hZ hc27.size
        refine ⟨.bool (y14), rfl, ?_⟩
        refine wS_pure 1 [(96, .bool (!(y13.2 == y14)))] (by kernel_rfl) ?_
        refine wS_end (by rfl) ?_
        refine eX_then ?_
        refine cW_prune [(5, .pointer (some ⟨b1, 0, none⟩)), (6, .slice A6 (y3.1).length cap6), (7, .int .i64 (y3.2.1)), (8, .bool (false)), (9, .slice A7 (y4.1).length cap7), (10, .bool (y4.2)), (11, .int .i64 (y5.1)), (13, .int .i64 (0)), (14, .bool (false)), (15, .int .i64 (x37)), (16, .slice A18 (l5).length cap18), (18, .int .i64 (y13.1)), (19, .bool (y13.2)), (96, .bool (!(y13.2 == y14)))] (by kernel_rfl) (by kernel_rfl) (fun a23 => ?_)
        refine cW_cond (t := !(y13.2 == y14)) (by kernel_rfl) (fun hb40 => ?_) (fun hb40 => ?_)
        ·have hm := condT hb40 hm
         refine cW_seq ?_
         refine cW_region ?_
         refine wS_pure 1 [(4, .bool (false))] (by kernel_rfl) ?_
         refine wS_end (by rfl) ?_
         refine eX_then ?_
         refine cW_ret ?_
         refine eX_then_ret ?_
         refine eX_block_ret ?_
         refine eX_then_ret ?_
         have hq : (some (Ctl.out (Sum.inr false)) : Option (Ctl (Int) (Sum (Unit) ((Bool))))) = some _ := hm
         replace hq := someE hq
         subst hq
         refine eX_outR hx19 (fun hr => ?_)
         subst hr
         refine eX_block_ret ?_
         refine eX_then_ret ?_
         refine eX_then_ret ?_
         have hq : (some false : Option ((Bool))) = some _ := hm5
         replace hq := someE hq
         subst hq
         refine eX_ret (vs := [.bool (false)]) [.tmp 4] (by rfl) ⟨by (show lkE _ _ _ = _); kernel_rfl, trivial⟩ ?_
         exact ⟨rfl, hB⟩
        ·have hm := condF hb40 hm
         refine cW_skip ?_
         refine eX_then ?_
         refine cW_seq ?_
         refine cW_seq ?_
         refine cW_region ?_
         refine wS_pure 2 [(98, .bool (!y13.2)), (97, .bool (y13.2))] (by kernel_rfl) ?_
         refine wS_end (by rfl) ?_
         refine eX_then ?_
         refine cW_cond (t := !y13.2) (by kernel_rfl) (fun hb41 => ?_) (fun hb41 => ?_)
         ·have hm := condT hb41 hm
          refine cW_exit ?_
          refine eX_then_exit ?_
          refine eX_block_hit ?_
          refine eX_then ?_
          refine cW_region ?_
          refine wS_pure 3 [(15, .int .i64 (wr (x37 + 1))), (66, .int .i64 (wr (x37 + 1))), (65, .int .i64 (x37))] (by kernel_rfl) ?_
          refine wS_end (by rfl) ?_
          have hq : (some (Ctl.next (wr (x37 + 1))) : Option (Ctl (Int) (Sum (Unit) ((Bool))))) = some _ := hm
          replace hq := someE hq
          subst hq
          exact eX_next hx19 (fun hst => ⟨wr (x37 + 1), rfl, Fr.of hst (by kernel_rfl), F112, F113, F114, F115, F116, F117, hB, hZ⟩)
         ·have hm := condF hb41 hm
          refine cW_skip ?_
          refine eX_then ?_
          refine cW_seq ?_
          refine cW_seq ?_
          refine cW_region ?_
          refine wS_pure 26 [(124, .bool (true)), (123, undef), (122, undef), (121, undef), (120, undef), (119, undef), (118, undef), (117, undef), (116, undef), (115, undef), (114, undef), (113, undef), (112, undef), (111, undef), (110, .bool (true)), (109, .bool (true)), (108, undef), (107, undef), (106, undef), (105, .bool (true)), (104, .bool (true)), (103, .bool (true)), (102, .bool (false)), (101, .bool (true)), (100, .bool (true)), (99, .bool (false))] (by kernel_rfl) ?_
          refine wS_end (by rfl) ?_
          refine eX_then ?_
          refine cW_prune [(5, .pointer (some ⟨b1, 0, none⟩)), (6, .slice A6 (y3.1).length cap6), (7, .int .i64 (y3.2.1)), (8, .bool (false)), (9, .slice A7 (y4.1).length cap7), (10, .bool (y4.2)), (11, .int .i64 (y5.1)), (13, .int .i64 (0)), (15, .int .i64 (x37)), (18, .int .i64 (y13.1)), (124, .bool (true))] (by kernel_rfl) (by kernel_rfl) (fun a24 => ?_)
          refine cW_cond_t (by kernel_rfl) ?_
          refine cW_seq ?_
          refine cW_region ?_
          refine wS_pure 1 [(4, .bool (false))] (by kernel_rfl) ?_
          refine wS_end (by rfl) ?_
          refine eX_then ?_
          refine cW_ret ?_
          refine eX_then_ret ?_
          refine eX_block_ret ?_
          refine eX_then_ret ?_
          have hq : (some (Ctl.out (Sum.inr false)) : Option (Ctl (Int) (Sum (Unit) ((Bool))))) = some _ := hm
          replace hq := someE hq
          subst hq
          refine eX_outR hx19 (fun hr => ?_)
          subst hr
          refine eX_block_ret ?_
          refine eX_then_ret ?_
          refine eX_then_ret ?_
          have hq : (some false : Option ((Bool))) = some _ := hm5
          replace hq := someE hq
          subst hq
          refine eX_ret (vs := [.bool (false)]) [.tmp 4] (by rfl) ⟨by (show lkE _ _ _ = _); kernel_rfl, trivial⟩ ?_
          exact ⟨rfl, hB⟩
      ·have hm := condF hb38 hm
       refine cW_exit ?_
       refine eX_then_exit ?_
       have hq : (some (Ctl.out (Sum.inl (()))) : Option (Ctl (Int) (Sum (Unit) ((Bool))))) = some _ := hm
       replace hq := someE hq
       subst hq
       refine eX_outX hx19 (fun hr12 => ?_)
       replace hr12 := hr12.symm
       subst hr12
       refine eX_block_hit ?_
       exact eX_J (fun hst => ⟨rfl, Fr.of hst (by kernel_rfl), F96, F97, F98, F99, F101, hB, hZ⟩)
     ·rintro a' w39 ⟨hJ, hF18, F119, F120, F121, F122, F123, hB, hZ⟩
      subst hJ
      refine Fr.goX hF18 (by kernel_rfl) ?_
      refine eX_then ?_
      refine cW_seq ?_
      refine cW_seq ?_
      refine cW_region ?_
      refine wS_pure 4 [(133, .bool (!(false == false))), (132, .bool (!(false == false))), (131, .bool (false)), (130, .bool (false))] (by kernel_rfl) ?_
      refine wS_bool (!(false == false)) (fun hb42 => ?_) (fun hb42 => ?_)
      ·have hm := condT hb42 hm
       rewrite [hb42]
       refine wS_pure 4 [(137, .bool (true)), (136, undef), (135, undef), (134, undef)] (by kernel_rfl) ?_
       refine wS_end (by rfl) ?_
       refine eX_then ?_
       refine cW_cond_t (by kernel_rfl) ?_
       refine cW_seq ?_
       refine cW_region ?_
       refine wS_pure 1 [(4, .bool (false))] (by kernel_rfl) ?_
       refine wS_end (by rfl) ?_
       refine eX_then ?_
       refine cW_ret ?_
       refine eX_then_ret ?_
       have hq : (some false : Option ((Bool))) = some _ := hm
       replace hq := someE hq
       subst hq
       refine eX_ret (vs := [.bool (false)]) [.tmp 4] (by rfl) ⟨by (show lkE _ _ _ = _); kernel_rfl, trivial⟩ ?_
       exact ⟨rfl, hB⟩
      ·have hm := condF hb42 hm
       rewrite [hb42]
       refine wS_pure 4 [(137, .bool (0 != y5.1)), (136, .bool (0 != y5.1)), (135, .int .i64 (y5.1)), (134, .int .i64 (0))] (by kernel_rfl) ?_
       refine wS_end (by rfl) ?_
       refine eX_then ?_
       refine cW_cond (t := 0 != y5.1) (by kernel_rfl) (fun hb43 => ?_) (fun hb43 => ?_)
       ·have hm := condT hb43 hm
        refine cW_seq ?_
        refine cW_region ?_
        refine wS_pure 1 [(4, .bool (false))] (by kernel_rfl) ?_
        refine wS_end (by rfl) ?_
        refine eX_then ?_
        refine cW_ret ?_
        refine eX_then_ret ?_
        have hq : (some false : Option ((Bool))) = some _ := hm
        replace hq := someE hq
        subst hq
        refine eX_ret (vs := [.bool (false)]) [.tmp 4] (by rfl) ⟨by (show lkE _ _ _ = _); kernel_rfl, trivial⟩ ?_
        exact ⟨rfl, hB⟩
       ·have hm := condF hb43 hm
        refine cW_skip ?_
        refine eX_then ?_
        refine cW_seq ?_
        refine cW_seq ?_
        refine cW_region ?_
        refine wS_pure 2 [(139, .bool (!y4.2)), (138, .bool (y4.2))] (by kernel_rfl) ?_
        refine wS_end (by rfl) ?_
        refine eX_then ?_
        refine cW_cond (t := !y4.2) (by kernel_rfl) (fun hb44 => ?_) (fun hb44 => ?_)
        ·have hm := condT hb44 hm
         refine cW_seq ?_
         refine cW_region ?_
         refine wS_pure 1 [(4, .bool (true))] (by kernel_rfl) ?_
         refine wS_end (by rfl) ?_
         refine eX_then ?_
         refine cW_ret ?_
         refine eX_then_ret ?_
         have hq : (some true : Option ((Bool))) = some _ := hm
         replace hq := someE hq
         subst hq
         refine eX_ret (vs := [.bool (true)]) [.tmp 4] (by rfl) ⟨by (show lkE _ _ _ = _); kernel_rfl, trivial⟩ ?_
         exact ⟨rfl, hB⟩
        ·have hm := condF hb44 hm
         refine cW_skip ?_
         refine eX_then ?_
         refine cW_seq ?_
         refine cW_seq ?_
         refine cW_region ?_
         refine wS_pure 1 [(20, .int .i64 (0))] (by kernel_rfl) ?_
         refine wS_end (by rfl) ?_
         refine eX_then ?_
         obtain ⟨r7, hr13, hm⟩ := bindE hm
         have hm7 := hm
         refine cW_cut (fun a' w' => Sum.inl (()) = r7 ∧ Fr 228 [(9, .slice A7 (y4.1).length cap7)] a' ∧ Ow 1 encI 2 w' fp6 A7 cap7 y4.1 ∧ Chg [] w0 w' ∧ w0.heap.size ≤ w'.heap.size) ?_ ?_
         ·refine cW_block ?_
          refine cW_loop _ (fun (s13 : Int) a' w' => ∃ x39 : Int, x39 = s13 ∧ Fr 228 [(5, .pointer (some ⟨b1, 0, none⟩)), (9, .slice A7 (y4.1).length cap7), (20, .int .i64 (x39))] a' ∧ OwR 1 encI 25 2 w' fp2 fr1 A3 cap3 y2.2.1 ∧ OwR 1 encI 25 2 w' fp3 fr2 A4 cap4 y2.2.2.1 ∧ Ow 1 encI 2 w' fp4 A5 cap5 y2.2.2.2 ∧ Cl w' b1 27 [.int .i64 (y2.1), .slice A3 (y2.2.1).length cap3, .slice A4 (y2.2.2.1).length cap4, .slice A5 (y2.2.2.2).length cap5] ∧ Ow 1 encI 2 w' fp6 A7 cap7 y4.1 ∧ Chg [] w0 w' ∧ w0.heap.size ≤ w'.heap.size) hr13 (fun hst => ⟨0, rfl, Fr.of hst (by kernel_rfl), F119, F120, F121, F122, F123, hB, hZ⟩) ?_
          rintro _ c7 a' w40 ⟨x39, rfl, hF19, F124, F125, F126, F127, F128, hB, hZ⟩ hx21
          refine Fr.goOn hF19 (by kernel_rfl) ?_
          have hm := hx21
          unfold m_laws_FnLayers_s15 at hm
          refine cW_seq ?_
          refine cW_seq ?_
          refine cW_region ?_
          refine wS_pure 4 [(143, .bool (decide (x39 < (((y4.1).length : Int))))), (142, .int .i64 (((y4.1).length : Int))), (141, .slice A7 (y4.1).length cap7), (140, .int .i64 (x39))] (by kernel_rfl) ?_
          refine wS_end (by rfl) ?_
          refine eX_then ?_
          refine cW_cond (t := decide (x39 < (((y4.1).length : Int)))) (by kernel_rfl) (fun hb45 => ?_) (fun hb45 => ?_)
          ·have hm := condT hb45 hm
           refine cW_skip ?_
           refine eX_then ?_
           refine cW_seq ?_
           refine cW_block ?_
           refine cW_seq ?_
           refine cW_region ?_
           refine wS_pure 2 [(147, .int .i64 (x39)), (146, .slice A7 (y4.1).length cap7)] (by kernel_rfl) ?_
           obtain ⟨x40, hx22, hm⟩ := bindE hm
           refine wS_idx (d := 148) (T := 25) (A := A7) (n := (y4.1).length) (cap := cap7) (kd := .i64) (m := x39) (by kernel_rfl) sl25 ((F128.sl encI_ok).is hx22) ?_
           refine wS_load1 (d := 149) (T := 2) (ad := (elA A7 1 (x39) 0)) (v := .int .i64 (x40)) (by kernel_rfl) vt2 (Sl.cell (F128.sl encI_ok) hx22 0 (by rfl)) ?_
           refine wS_pure 1 [(21, .int .i64 (x40))] (by kernel_rfl) ?_
           refine wS_end (by rfl) ?_
           refine eX_then ?_
           refine cW_seq ?_
           refine cW_region ?_
           refine wS_pure 5 [(154, .int .i64 (((y4.1).length : Int))), (153, .slice A7 (y4.1).length cap7), (152, .int .i64 (wr (x39 + 1))), (151, .int .i64 (x39)), (150, .slice A7 (y4.1).length cap7)] (by kernel_rfl) ?_
           obtain ⟨u6, hu6, hm⟩ := bindE hm
           refine wS_rem (d := 155) (x := wr (x39 + 1)) (y := ((y4.1).length : Int)) (by kernel_rfl) (nzE hu6) ?_
           obtain ⟨x41, hx23, hm⟩ := bindE hm
           refine wS_idx (d := 156) (T := 25) (A := A7) (n := (y4.1).length) (cap := cap7) (kd := .i64) (m := Int.tmod (wr (x39 + 1)) (((y4.1).length : Int))) (by kernel_rfl) sl25 ((F128.sl encI_ok).is hx23) ?_
           refine wS_load1 (d := 157) (T := 2) (ad := (elA A7 1 (Int.tmod (wr (x39 + 1)) (((y4.1).length : Int))) 0)) (v := .int .i64 (x41)) (by kernel_rfl) vt2 (Sl.cell (F128.sl encI_ok) hx23 0 (by rfl)) ?_
           refine wS_pure 1 [(22, .int .i64 (x41))] (by kernel_rfl) ?_
           refine wS_end (by rfl) ?_
           refine eX_then ?_
           refine cW_seq ?_
           refine cW_region ?_
           refine wS_pure 1 [(23, .bool (false))] (by kernel_rfl) ?_
           refine wS_end (by rfl) ?_
           refine eX_then ?_
           refine cW_seq ?_
           refine cW_seq ?_
           refine cW_region ?_
           refine wS_pure 1 [(24, .int .i64 (0))] (by kernel_rfl) ?_
           refine wS_end (by rfl) ?_
           refine eX_then ?_
           obtain ⟨r8, hr14, hm⟩ := bindE hm
           have hm8 := hm
           refine cW_cut (fun a' w' => ∃ x42 : Bool, x42 = r8 ∧ Fr 228 [(5, .pointer (some ⟨b1, 0, none⟩)), (9, .slice A7 (y4.1).length cap7), (20, .int .i64 (x39)), (21, .int .i64 (x40)), (23, .bool (x42))] a' ∧ OwR 1 encI 25 2 w' fp2 fr1 A3 cap3 y2.2.1 ∧ OwR 1 encI 25 2 w' fp3 fr2 A4 cap4 y2.2.2.1 ∧ Ow 1 encI 2 w' fp4 A5 cap5 y2.2.2.2 ∧ Cl w' b1 27 [.int .i64 (y2.1), .slice A3 (y2.2.1).length cap3, .slice A4 (y2.2.2.1).length cap4, .slice A5 (y2.2.2.2).length cap5] ∧ Ow 1 encI 2 w' fp6 A7 cap7 y4.1 ∧ Chg [] w0 w' ∧ w0.heap.size ≤ w'.heap.size) ?_ ?_
           ·refine cW_block ?_
            refine cW_loop _ (fun (s14 : Bool × Int) a' w' => ∃ x43 : Bool, ∃ x44 : Int, (x43, x44) = s14 ∧ Fr 228 [(5, .pointer (some ⟨b1, 0, none⟩)), (9, .slice A7 (y4.1).length cap7), (20, .int .i64 (x39)), (21, .int .i64 (x40)), (22, .int .i64 (x41)), (23, .bool (x43)), (24, .int .i64 (x44))] a' ∧ OwR 1 encI 25 2 w' fp2 fr1 A3 cap3 y2.2.1 ∧ OwR 1 encI 25 2 w' fp3 fr2 A4 cap4 y2.2.2.1 ∧ Ow 1 encI 2 w' fp4 A5 cap5 y2.2.2.2 ∧ Cl w' b1 27 [.int .i64 (y2.1), .slice A3 (y2.2.1).length cap3, .slice A4 (y2.2.2.1).length cap4, .slice A5 (y2.2.2.2).length cap5] ∧ Ow 1 encI 2 w' fp6 A7 cap7 y4.1 ∧ Chg [] w0 w' ∧ w0.heap.size ≤ w'.heap.size) hr14 (fun hst => ⟨false, 0, rfl, Fr.of hst (by kernel_rfl), F124, F125, F126, F127, F128, hB, hZ⟩) ?_
            rintro _ c8 a' w41 ⟨x43, x44, rfl, hF20, F129, F130, F131, F132, F133, hB, hZ⟩ hx24
            refine Fr.goOn hF20 (by kernel_rfl) ?_
            have hm := hx24
            unfold m_laws_FnLayers_s16 at hm
            refine cW_seq ?_
            refine cW_seq ?_
            refine cW_region ?_
            refine wS_pure 2 [(159, .pointer (some ⟨b1, 1, none⟩)), (158, .int .i64 (x44))] (by kernel_rfl) ?_
            refine wS_load1 (d := 160) (T := 24) (ad := ⟨b1, 1, none⟩) (v := .slice A3 (y2.2.1).length cap3) (by kernel_rfl) vt24 ((F132).cell 1) ?_
            refine wS_pure 2 [(162, .bool (decide (x44 < (((y2.2.1).length : Int))))), (161, .int .i64 (((y2.2.1).length : Int)))] (by kernel_rfl) ?_
            refine wS_end (by rfl) ?_
            refine eX_then ?_
            refine cW_cond (t := decide (x44 < (((y2.2.1).length : Int)))) (by kernel_rfl) (fun hb46 => ?_) (fun hb46 => ?_)
            ·have hm := condT hb46 hm
             refine cW_skip ?_
             refine eX_then ?_
             refine cW_seq ?_
             refine cW_block ?_
             refine cW_region ?_
             refine wS_pure 2 [(166, .bool (x43)), (165, .bool (x43))] (by kernel_rfl) ?_
             refine wS_bool x43 (fun hb47 => ?_) (fun hb47 => ?_)
             ·have hm := condT hb47 hm
              subst hb47
              refine wS_pure 44 [(23, .bool (true)), (209, .bool (true)), (208, undef), (207, undef), (206, undef), (205, undef), (204, undef), (203, undef), (202, undef), (201, undef), (200, undef), (199, undef), (198, undef), (197, undef), (196, undef), (195, undef), (194, undef), (193, undef), (192, undef), (191, undef), (190, undef), (189, undef), (188, .bool (true)), (187, .bool (true)), (186, undef), (185, undef), (184, undef), (183, undef), (182, undef), (181, undef), (180, undef), (179, undef), (178, undef), (177, undef), (176, undef), (175, undef), (174, undef), (173, undef), (172, undef), (171, undef), (170, undef), (169, undef), (168, undef), (167, undef)] (by kernel_rfl) ?_
              refine wS_end (by rfl) ?_
              refine eX_block ?_
              refine eX_then ?_
              refine cW_prune [(5, .pointer (some ⟨b1, 0, none⟩)), (9, .slice A7 (y4.1).length cap7), (20, .int .i64 (x39)), (21, .int .i64 (x40)), (22, .int .i64 (x41)), (23, .bool (true)), (24, .int .i64 (x44))] (by kernel_rfl) (by kernel_rfl) (fun a25 => ?_)
              refine cW_region ?_
              refine wS_pure 3 [(24, .int .i64 (wr (x44 + 1))), (164, .int .i64 (wr (x44 + 1))), (163, .int .i64 (x44))] (by kernel_rfl) ?_
              refine wS_end (by rfl) ?_
              have hq : (some (Ctl.next ((true, wr (x44 + 1)))) : Option (Ctl (Bool × Int) (Bool))) = some _ := hm
              replace hq := someE hq
              subst hq
              exact eX_next hx24 (fun hst => ⟨true, wr (x44 + 1), rfl, Fr.of hst (by kernel_rfl), F129, F130, F131, F132, F133, hB, hZ⟩)
             ·have hm := condF hb47 hm
              subst hb47
              refine wS_pure 1 [(167, .pointer (some ⟨b1, 1, none⟩))] (by kernel_rfl) ?_
              refine wS_load1 (d := 168) (T := 24) (ad := ⟨b1, 1, none⟩) (v := .slice A3 (y2.2.1).length cap3) (by kernel_rfl) vt24 ((F132).cell 1) ?_
              refine wS_pure 1 [(169, .int .i64 (x44))] (by kernel_rfl) ?_
              obtain ⟨x45, hx25, hm⟩ := bindE hm
              refine wS_idx (d := 170) (T := 24) (A := A3) (n := (y2.2.1).length) (cap := cap3) (kd := .i64) (m := x44) (by kernel_rfl) sl24 ((F129.slr encI_ok).is hx25) ?_
              obtain ⟨A21, cap21, hc28, F134, K7⟩ := OwR.row F129 encI_ok hx25
              have G23 := low_inr G1
              have Dm7 := (F129.dj).symm
              refine wS_load1 (d := 171) (T := 25) (ad := (elA A3 1 (x44) 0)) (v := .slice A21 (x45).length cap21) (by kernel_rfl) vt25 hc28 ?_
              obtain ⟨x46, hx26, hm⟩ := bindE hm
              refine wS_idx (d := 172) (T := 25) (A := A21) (n := (x45).length) (cap := cap21) (kd := .i64) (m := 0) (by kernel_rfl) sl25 (F134.is hx26) ?_
              refine wS_load1 (d := 173) (T := 2) (ad := (elA A21 1 (0) 0)) (v := .int .i64 (x46)) (by kernel_rfl) vt2 (Sl.cell F134 hx26 0 (by rfl)) ?_
              refine wS_pure 3 [(176, .bool (x46 == x40)), (175, .bool (x46 == x40)), (174, .int .i64 (x40))] (by kernel_rfl) ?_
              refine wS_bool (x46 == x40) (fun hb48 => ?_) (fun hb48 => ?_)
              ·have hm := condT hb48 hm
               rewrite [hb48]
               refine wS_pure 1 [(177, .pointer (some ⟨b1, 1, none⟩))] (by kernel_rfl) ?_
               refine wS_load1 (d := 178) (T := 24) (ad := ⟨b1, 1, none⟩) (v := .slice A3 (y2.2.1).length cap3) (by kernel_rfl) vt24 ((F132).cell 1) ?_
               refine wS_pure 1 [(179, .int .i64 (x44))] (by kernel_rfl) ?_
               obtain ⟨x47, hx27, hm⟩ := bindE hm
               refine wS_idx (d := 180) (T := 24) (A := A3) (n := (y2.2.1).length) (cap := cap3) (kd := .i64) (m := x44) (by kernel_rfl) sl24 ((F129.slr encI_ok).is hx27) ?_
               obtain ⟨A22, cap22, hc29, F135, K8⟩ := OwR.row F129 encI_ok hx27
               have G24 := low_inr G1
               have Dm8 := (F129.dj).symm
               refine wS_load1 (d := 181) (T := 25) (ad := (elA A3 1 (x44) 0)) (v := .slice A22 (x47).length cap22) (by kernel_rfl) vt25 hc29 ?_
               obtain ⟨x48, hx28, hm⟩ := bindE hm
               refine wS_idx (d := 182) (T := 25) (A := A22) (n := (x47).length) (cap := cap22) (kd := .i64) (m := 1) (by kernel_rfl) sl25 (F135.is hx28) ?_
               refine wS_load1 (d := 183) (T := 2) (ad := (elA A22 1 (1) 0)) (v := .int .i64 (x48)) (by kernel_rfl) vt2 (Sl.cell F135 hx28 0 (by rfl)) ?_
               refine wS_pure 5 [(188, .bool (x48 == x41)), (187, .bool (x48 == x41)), (186, .bool (x48 == x41)), (185, .bool (x48 == x41)), (184, .int .i64 (x41))] (by kernel_rfl) ?_
               refine wS_bool (x48 == x41) (fun hb49 => ?_) (fun hb49 => ?_)
               ·have hm := condT hb49 hm
                rewrite [hb49]
                refine wS_pure 22 [(23, .bool (true)), (209, .bool (true)), (208, undef), (207, undef), (206, undef), (205, undef), (204, undef), (203, undef), (202, undef), (201, undef), (200, undef), (199, undef), (198, undef), (197, undef), (196, undef), (195, undef), (194, undef), (193, undef), (192, undef), (191, undef), (190, undef), (189, undef)] (by kernel_rfl) ?_
                refine wS_end (by rfl) ?_
                refine eX_block ?_
                refine eX_then ?_
                refine cW_prune [(5, .pointer (some ⟨b1, 0, none⟩)), (9, .slice A7 (y4.1).length cap7), (20, .int .i64 (x39)), (21, .int .i64 (x40)), (22, .int .i64 (x41)), (23, .bool (true)), (24, .int .i64 (x44))] (by kernel_rfl) (by kernel_rfl) (fun a26 => ?_)
                refine cW_region ?_
                refine wS_pure 3 [(24, .int .i64 (wr (x44 + 1))), (164, .int .i64 (wr (x44 + 1))), (163, .int .i64 (x44))] (by kernel_rfl) ?_
                refine wS_end (by rfl) ?_
                have hq : (some (Ctl.next ((true, wr (x44 + 1)))) : Option (Ctl (Bool × Int) (Bool))) = some _ := hm
                replace hq := someE hq
                subst hq
                exact eX_next hx24 (fun hst => ⟨true, wr (x44 + 1), rfl, Fr.of hst (by kernel_rfl), F129, F130, F131, F132, F133, hB, hZ⟩)
               ·have hm := condF hb49 hm
                rewrite [hb49]
                refine wS_pure 1 [(189, .pointer (some ⟨b1, 1, none⟩))] (by kernel_rfl) ?_
                refine wS_load1 (d := 190) (T := 24) (ad := ⟨b1, 1, none⟩) (v := .slice A3 (y2.2.1).length cap3) (by kernel_rfl) vt24 ((F132).cell 1) ?_
                refine wS_pure 1 [(191, .int .i64 (x44))] (by kernel_rfl) ?_
                obtain ⟨x49, hx29, hm⟩ := bindE hm
                refine wS_idx (d := 192) (T := 24) (A := A3) (n := (y2.2.1).length) (cap := cap3) (kd := .i64) (m := x44) (by kernel_rfl) sl24 ((F129.slr encI_ok).is hx29) ?_
                obtain ⟨A23, cap23, hc30, F136, K9⟩ := OwR.row F129 encI_ok hx29
                have G25 := low_inr G1
                have Dm9 := (F129.dj).symm
                refine wS_load1 (d := 193) (T := 25) (ad := (elA A3 1 (x44) 0)) (v := .slice A23 (x49).length cap23) (by kernel_rfl) vt25 hc30 ?_
                obtain ⟨x50, hx30, hm⟩ := bindE hm
                refine wS_idx (d := 194) (T := 25) (A := A23) (n := (x49).length) (cap := cap23) (kd := .i64) (m := 0) (by kernel_rfl) sl25 (F136.is hx30) ?_
                refine wS_load1 (d := 195) (T := 2) (ad := (elA A23 1 (0) 0)) (v := .int .i64 (x50)) (by kernel_rfl) vt2 (Sl.cell F136 hx30 0 (by rfl)) ?_
                refine wS_pure 3 [(198, .bool (x50 == x41)), (197, .bool (x50 == x41)), (196, .int .i64 (x41))] (by kernel_rfl) ?_
                refine wS_bool (x50 == x41) (fun hb50 => ?_) (fun hb50 => ?_)
                ·have hm := condT hb50 hm
                 rewrite [hb50]
                 refine wS_pure 1 [(199, .pointer (some ⟨b1, 1, none⟩))] (by kernel_rfl) ?_
                 refine wS_load1 (d := 200) (T := 24) (ad := ⟨b1, 1, none⟩) (v := .slice A3 (y2.2.1).length cap3) (by kernel_rfl) vt24 ((F132).cell 1) ?_
                 refine wS_pure 1 [(201, .int .i64 (x44))] (by kernel_rfl) ?_
                 obtain ⟨x51, hx31, hm⟩ := bindE hm
                 refine wS_idx (d := 202) (T := 24) (A := A3) (n := (y2.2.1).length) (cap := cap3) (kd := .i64) (m := x44) (by kernel_rfl) sl24 ((F129.slr encI_ok).is hx31) ?_
                 obtain ⟨A24, cap24, hc31, F137, K10⟩ := OwR.row F129 encI_ok hx31
                 have G26 := low_inr G1
                 have Dm10 := (F129.dj).symm
                 refine wS_load1 (d := 203) (T := 25) (ad := (elA A3 1 (x44) 0)) (v := .slice A24 (x51).length cap24) (by kernel_rfl) vt25 hc31 ?_
                 obtain ⟨x52, hx32, hm⟩ := bindE hm
                 refine wS_idx (d := 204) (T := 25) (A := A24) (n := (x51).length) (cap := cap24) (kd := .i64) (m := 1) (by kernel_rfl) sl25 (F137.is hx32) ?_
                 refine wS_load1 (d := 205) (T := 2) (ad := (elA A24 1 (1) 0)) (v := .int .i64 (x52)) (by kernel_rfl) vt2 (Sl.cell F137 hx32 0 (by rfl)) ?_
                 refine wS_pure 5 [(23, .bool (x52 == x40)), (209, .bool (x52 == x40)), (208, .bool (x52 == x40)), (207, .bool (x52 == x40)), (206, .int .i64 (x40))] (by kernel_rfl) ?_
                 refine wS_end (by rfl) ?_
                 refine eX_block ?_
                 refine eX_then ?_
                 refine cW_prune [(5, .pointer (some ⟨b1, 0, none⟩)), (9, .slice A7 (y4.1).length cap7), (20, .int .i64 (x39)), (21, .int .i64 (x40)), (22, .int .i64 (x41)), (23, .bool (x52 == x40)), (24, .int .i64 (x44))] (by kernel_rfl) (by kernel_rfl) (fun a27 => ?_)
                 refine cW_region ?_
                 refine wS_pure 3 [(24, .int .i64 (wr (x44 + 1))), (164, .int .i64 (wr (x44 + 1))), (163, .int .i64 (x44))] (by kernel_rfl) ?_
                 refine wS_end (by rfl) ?_
                 have hq : (some (Ctl.next ((x52 == x40, wr (x44 + 1)))) : Option (Ctl (Bool × Int) (Bool))) = some _ := hm
                 replace hq := someE hq
                 subst hq
                 exact eX_next hx24 (fun hst => ⟨x52 == x40, wr (x44 + 1), rfl, Fr.of hst (by kernel_rfl), F129, F130, F131, F132, F133, hB, hZ⟩)
                ·have hm := condF hb50 hm
                 rewrite [hb50]
                 refine wS_pure 12 [(23, .bool (false)), (209, .bool (false)), (208, .bool (false)), (207, undef), (206, undef), (205, undef), (204, undef), (203, undef), (202, undef), (201, undef), (200, undef), (199, undef)] (by kernel_rfl) ?_
                 refine wS_end (by rfl) ?_
                 refine eX_block ?_
                 refine eX_then ?_
                 refine cW_prune [(5, .pointer (some ⟨b1, 0, none⟩)), (9, .slice A7 (y4.1).length cap7), (20, .int .i64 (x39)), (21, .int .i64 (x40)), (22, .int .i64 (x41)), (23, .bool (false)), (24, .int .i64 (x44))] (by kernel_rfl) (by kernel_rfl) (fun a28 => ?_)
                 refine cW_region ?_
                 refine wS_pure 3 [(24, .int .i64 (wr (x44 + 1))), (164, .int .i64 (wr (x44 + 1))), (163, .int .i64 (x44))] (by kernel_rfl) ?_
                 refine wS_end (by rfl) ?_
                 have hq : (some (Ctl.next ((false, wr (x44 + 1)))) : Option (Ctl (Bool × Int) (Bool))) = some _ := hm
                 replace hq := someE hq
                 subst hq
                 exact eX_next hx24 (fun hst => ⟨false, wr (x44 + 1), rfl, Fr.of hst (by kernel_rfl), F129, F130, F131, F132, F133, hB, hZ⟩)
              ·have hm := condF hb48 hm
               rewrite [hb48]
               refine wS_pure 13 [(189, .pointer (some ⟨b1, 1, none⟩)), (188, .bool (false)), (187, .bool (false)), (186, .bool (false)), (185, undef), (184, undef), (183, undef), (182, undef), (181, undef), (180, undef), (179, undef), (178, undef), (177, undef)] (by kernel_rfl) ?_
               refine wS_load1 (d := 190) (T := 24) (ad := ⟨b1, 1, none⟩) (v := .slice A3 (y2.2.1).length cap3) (by kernel_rfl) vt24 ((F132).cell 1) ?_
               refine wS_pure 1 [(191, .int .i64 (x44))] (by kernel_rfl) ?_
               obtain ⟨x53, hx33, hm⟩ := bindE hm
               refine wS_idx (d := 192) (T := 24) (A := A3) (n := (y2.2.1).length) (cap := cap3) (kd := .i64) (m := x44) (by kernel_rfl) sl24 ((F129.slr encI_ok).is hx33) ?_
               obtain ⟨A25, cap25, hc32, F138, K11⟩ := OwR.row F129 encI_ok hx33
               have G27 := low_inr G1
               have Dm11 := (F129.dj).symm
               refine wS_load1 (d := 193) (T := 25) (ad := (elA A3 1 (x44) 0)) (v := .slice A25 (x53).length cap25) (by kernel_rfl) vt25 hc32 ?_
               obtain ⟨x54, hx34, hm⟩ := bindE hm
               refine wS_idx (d := 194) (T := 25) (A := A25) (n := (x53).length) (cap := cap25) (kd := .i64) (m := 0) (by kernel_rfl) sl25 (F138.is hx34) ?_
               refine wS_load1 (d := 195) (T := 2) (ad := (elA A25 1 (0) 0)) (v := .int .i64 (x54)) (by kernel_rfl) vt2 (Sl.cell F138 hx34 0 (by rfl)) ?_
               refine wS_pure 3 [(198, .bool (x54 == x41)), (197, .bool (x54 == x41)), (196, .int .i64 (x41))] (by kernel_rfl) ?_
               refine wS_bool (x54 == x41) (fun hb51 => ?_) (fun hb51 => ?_)
               ·have hm := condT hb51 hm
                rewrite [hb51]
                refine wS_pure 1 [(199, .pointer (some ⟨b1, 1, none⟩))] (by kernel_rfl) ?_
                refine wS_load1 (d := 200) (T := 24) (ad := ⟨b1, 1, none⟩) (v := .slice A3 (y2.2.1).length cap3) (by kernel_rfl) vt24 ((F132).cell 1) ?_
                refine wS_pure 1 [(201, .int .i64 (x44))] (by kernel_rfl) ?_
                obtain ⟨x55, hx35, hm⟩ := bindE hm
                refine wS_idx (d := 202) (T := 24) (A := A3) (n := (y2.2.1).length) (cap := cap3) (kd := .i64) (m := x44) (by kernel_rfl) sl24 ((F129.slr encI_ok).is hx35) ?_
                obtain ⟨A26, cap26, hc33, F139, K12⟩ := OwR.row F129 encI_ok hx35
                have G28 := low_inr G1
                have Dm12 := (F129.dj).symm
                refine wS_load1 (d := 203) (T := 25) (ad := (elA A3 1 (x44) 0)) (v := .slice A26 (x55).length cap26) (by kernel_rfl) vt25 hc33 ?_
                obtain ⟨x56, hx36, hm⟩ := bindE hm
                refine wS_idx (d := 204) (T := 25) (A := A26) (n := (x55).length) (cap := cap26) (kd := .i64) (m := 1) (by kernel_rfl) sl25 (F139.is hx36) ?_
                refine wS_load1 (d := 205) (T := 2) (ad := (elA A26 1 (1) 0)) (v := .int .i64 (x56)) (by kernel_rfl) vt2 (Sl.cell F139 hx36 0 (by rfl)) ?_
                refine wS_pure 5 [(23, .bool (x56 == x40)), (209, .bool (x56 == x40)), (208, .bool (x56 == x40)), (207, .bool (x56 == x40)), (206, .int .i64 (x40))] (by kernel_rfl) ?_
                refine wS_end (by rfl) ?_
                refine eX_block ?_
                refine eX_then ?_
                refine cW_prune [(5, .pointer (some ⟨b1, 0, none⟩)), (9, .slice A7 (y4.1).length cap7), (20, .int .i64 (x39)), (21, .int .i64 (x40)), (22, .int .i64 (x41)), (23, .bool (x56 == x40)), (24, .int .i64 (x44))] (by kernel_rfl) (by kernel_rfl) (fun a29 => ?_)
                refine cW_region ?_
                refine wS_pure 3 [(24, .int .i64 (wr (x44 + 1))), (164, .int .i64 (wr (x44 + 1))), (163, .int .i64 (x44))] (by kernel_rfl) ?_
                refine wS_end (by rfl) ?_
                have hq : (some (Ctl.next ((x56 == x40, wr (x44 + 1)))) : Option (Ctl (Bool × Int) (Bool))) = some _ := hm
                replace hq := someE hq
                subst hq
                exact eX_next hx24 (fun hst => ⟨x56 == x40, wr (x44 + 1), rfl, Fr.of hst (by kernel_rfl), F129, F130, F131, F132, F133, hB, hZ⟩)
               ·have hm := condF hb51 hm
                rewrite [hb51]
                refine wS_pure 12 [(23, .bool (false)), (209, .bool (false)), (208, .bool (false)), (207, undef), (206, undef), (205, undef), (204, undef), (203, undef), (202, undef), (201, undef), (200, undef), (199, undef)] (by kernel_rfl) ?_
                refine wS_end (by rfl) ?_
                refine eX_block ?_
                refine eX_then ?_
                refine cW_prune [(5, .pointer (some ⟨b1, 0, none⟩)), (9, .slice A7 (y4.1).length cap7), (20, .int .i64 (x39)), (21, .int .i64 (x40)), (22, .int .i64 (x41)), (23, .bool (false)), (24, .int .i64 (x44))] (by kernel_rfl) (by kernel_rfl) (fun a30 => ?_)
                refine cW_region ?_
                refine wS_pure 3 [(24, .int .i64 (wr (x44 + 1))), (164, .int .i64 (wr (x44 + 1))), (163, .int .i64 (x44))] (by kernel_rfl) ?_
                refine wS_end (by rfl) ?_
                have hq : (some (Ctl.next ((false, wr (x44 + 1)))) : Option (Ctl (Bool × Int) (Bool))) = some _ := hm
                replace hq := someE hq
                subst hq
                exact eX_next hx24 (fun hst => ⟨false, wr (x44 + 1), rfl, Fr.of hst (by kernel_rfl), F129, F130, F131, F132, F133, hB, hZ⟩)
            ·have hm := condF hb46 hm
             refine cW_exit ?_
             refine eX_then_exit ?_
             have hq : (some (Ctl.out x43) : Option (Ctl (Bool × Int) (Bool))) = some _ := hm
             replace hq := someE hq
             subst hq
             refine eX_outX hx24 (fun hr15 => ?_)
             replace hr15 := hr15.symm
             subst hr15
             refine eX_block_hit ?_
             exact eX_J (fun hst => ⟨x43, rfl, Fr.of hst (by kernel_rfl), F129, F130, F131, F132, F133, hB, hZ⟩)
           ·rintro a' w42 ⟨x42, hJ, hF21, F140, F141, F142, F143, F144, hB, hZ⟩
            subst hJ
            refine Fr.goX hF21 (by kernel_rfl) ?_
            refine eX_then ?_
            refine cW_seq ?_
            refine cW_region ?_
            refine wS_pure 3 [(212, .bool (!x42)), (211, .bool (!x42)), (210, .bool (x42))] (by kernel_rfl) ?_
            refine wS_bool (!x42) (fun hb52 => ?_) (fun hb52 => ?_)
            ·have hm := condT hb52 hm
             rewrite [hb52]
             refine wS_pure 6 [(218, .bool (true)), (217, undef), (216, undef), (215, undef), (214, undef), (213, undef)] (by kernel_rfl) ?_
             refine wS_end (by rfl) ?_
             refine eX_then ?_
             refine cW_cond_t (by kernel_rfl) ?_
             refine cW_seq ?_
             refine cW_region ?_
             refine wS_pure 1 [(4, .bool (false))] (by kernel_rfl) ?_
             refine wS_end (by rfl) ?_
             refine eX_then ?_
             refine cW_ret ?_
             refine eX_block_ret ?_
             refine eX_then_ret ?_
             have hq : (some (Ctl.out (Sum.inr false)) : Option (Ctl (Int) (Sum (Unit) ((Bool))))) = some _ := hm
             replace hq := someE hq
             subst hq
             refine eX_outR hx21 (fun hr => ?_)
             subst hr
             refine eX_block_ret ?_
             refine eX_then_ret ?_
             refine eX_then_ret ?_
             have hq : (some false : Option ((Bool))) = some _ := hm7
             replace hq := someE hq
             subst hq
             refine eX_ret (vs := [.bool (false)]) [.tmp 4] (by rfl) ⟨by (show lkE _ _ _ = _); kernel_rfl, trivial⟩ ?_
             exact ⟨rfl, hB⟩
            ·have hm := condF hb52 hm
             rewrite [hb52]
             refine wS_pure 2 [(214, .int .i64 (x39)), (213, .slice A7 (y4.1).length cap7)] (by kernel_rfl) ?_
             obtain ⟨y15, hy15, hm⟩ := bindE hm
             refine wS_cutA (enc := encI) (l := y4.1) (d := 215) (T := 25) (A := A7) (cap := cap7) (vlo := none) (vhi := some (.int .i64 (x39))) (lo := 0) (hi := x39) (n := 0) (by kernel_rfl) sl25 (Or.inr ⟨rfl, rfl⟩) (Or.inl rfl) (F144.sl encI_ok) F144.cap_le hy15 ?_
             intro A27 cap27 hA2 F145 hcap2
             obtain rfl := slci_slc hy15
             have hlv2 := Eq.refl (y4.1).length
             have hcz2 := F144.cap_le
             refine wS_pure 1 [(216, .int .i64 (x40))] (by kernel_rfl) ?_
             obtain ⟨y16, hy16, hm⟩ := bindE hm
             refine wS_calls (d := 217) (f := 20) (vs := [.slice A27 (slc y4.1 0 x39).length cap27, .int .i64 (x40)]) (by kernel_rfl) ent20 (c_laws_b10Has hy16 F145) ?_
             rintro _ w43 ⟨rfl, hc34⟩
             replace F140 := F140.chg hc34 Dj.nil
             replace F141 := F141.chg hc34 Dj.nil
             replace F142 := F142.chg hc34 Dj.nil
             replace F143 := F143.chg hc34 notNil
             replace F144 := F144.chg hc34 Dj.nil
             replace F145 := F145.chg hc34 Dj.nil
             replace hB := hB.inS hc34 inNil
             replace hZ := Nat.le_trans hZ hc34.size
             refine ⟨.bool (y16), rfl, ?_⟩
             refine wS_pure 1 [(218, .bool (y16))] (by kernel_rfl) ?_
             refine wS_end (by rfl) ?_
             refine eX_then ?_
             refine cW_cond (t := y16) (by kernel_rfl) (fun hb53 => ?_) (fun hb53 => ?_)
             ·have hm := condT hb53 hm
              refine cW_seq ?_
              refine cW_region ?_
              refine wS_pure 1 [(4, .bool (false))] (by kernel_rfl) ?_
              refine wS_end (by rfl) ?_
              refine eX_then ?_
              refine cW_ret ?_
              refine eX_block_ret ?_
              refine eX_then_ret ?_
              have hq : (some (Ctl.out (Sum.inr false)) : Option (Ctl (Int) (Sum (Unit) ((Bool))))) = some _ := hm
              replace hq := someE hq
              subst hq
              refine eX_outR hx21 (fun hr => ?_)
              subst hr
              refine eX_block_ret ?_
              refine eX_then_ret ?_
              refine eX_then_ret ?_
              have hq : (some false : Option ((Bool))) = some _ := hm7
              replace hq := someE hq
              subst hq
              refine eX_ret (vs := [.bool (false)]) [.tmp 4] (by rfl) ⟨by (show lkE _ _ _ = _); kernel_rfl, trivial⟩ ?_
              exact ⟨rfl, hB⟩
             ·have hm := condF hb53 hm
              refine cW_skip ?_
              refine eX_block ?_
              refine eX_then ?_
              refine cW_region ?_
              refine wS_pure 3 [(20, .int .i64 (wr (x39 + 1))), (145, .int .i64 (wr (x39 + 1))), (144, .int .i64 (x39))] (by kernel_rfl) ?_
              refine wS_end (by rfl) ?_
              have hq : (some (Ctl.next (wr (x39 + 1))) : Option (Ctl (Int) (Sum (Unit) ((Bool))))) = some _ := hm
              replace hq := someE hq
              subst hq
              exact eX_next hx21 (fun hst => ⟨wr (x39 + 1), rfl, Fr.of hst (by kernel_rfl), F140, F141, F142, F143, F144, hB, hZ⟩)
          ·have hm := condF hb45 hm
           refine cW_exit ?_
           refine eX_then_exit ?_
           have hq : (some (Ctl.out (Sum.inl (()))) : Option (Ctl (Int) (Sum (Unit) ((Bool))))) = some _ := hm
           replace hq := someE hq
           subst hq
           refine eX_outX hx21 (fun hr16 => ?_)
           replace hr16 := hr16.symm
           subst hr16
           refine eX_block_hit ?_
           exact eX_J (fun hst => ⟨rfl, Fr.of hst (by kernel_rfl), F128, hB, hZ⟩)
         ·rintro a' w44 ⟨hJ, hF22, F146, hB, hZ⟩
          subst hJ
          refine Fr.goX hF22 (by kernel_rfl) ?_
          refine eX_then ?_
          refine cW_seq ?_
          refine cW_region ?_
          refine wS_pure 4 [(222, .bool (decide ((((y4.1).length : Int)) ≥ 3))), (221, .bool (decide ((((y4.1).length : Int)) ≥ 3))), (220, .int .i64 (((y4.1).length : Int))), (219, .slice A7 (y4.1).length cap7)] (by kernel_rfl) ?_
          refine wS_bool (decide ((((y4.1).length : Int)) ≥ 3)) (fun hb54 => ?_) (fun hb54 => ?_)
          ·have hm := condT hb54 hm
           rewrite [hb54]
           refine wS_pure 6 [(4, .bool ((Int.tmod (((y4.1).length : Int)) 2) == 1)), (227, .bool ((Int.tmod (((y4.1).length : Int)) 2) == 1)), (226, .bool ((Int.tmod (((y4.1).length : Int)) 2) == 1)), (225, .int .i64 (Int.tmod (((y4.1).length : Int)) 2)), (224, .int .i64 (((y4.1).length : Int))), (223, .slice A7 (y4.1).length cap7)] (by kernel_rfl) ?_
           refine wS_end (by rfl) ?_
           refine eX_then ?_
           refine cW_ret ?_
           have hq : (some ((Int.tmod (((y4.1).length : Int)) 2) == 1) : Option ((Bool))) = some _ := hm
           replace hq := someE hq
           subst hq
           refine eX_ret (vs := [.bool ((Int.tmod (((y4.1).length : Int)) 2) == 1)]) [.tmp 4] (by rfl) ⟨by (show lkE _ _ _ = _); kernel_rfl, trivial⟩ ?_
           exact ⟨rfl, hB⟩
          ·have hm := condF hb54 hm
           rewrite [hb54]
           refine wS_pure 6 [(4, .bool (false)), (227, .bool (false)), (226, undef), (225, undef), (224, undef), (223, undef)] (by kernel_rfl) ?_
           refine wS_end (by rfl) ?_
           refine eX_then ?_
           refine cW_ret ?_
           have hq : (some false : Option ((Bool))) = some _ := hm
           replace hq := someE hq
           subst hq
           refine eX_ret (vs := [.bool (false)]) [.tmp 4] (by rfl) ⟨by (show lkE _ _ _ = _); kernel_rfl, trivial⟩ ?_
           exact ⟨rfl, hB⟩

end Go.Proofs.Ytngnljnfbfgfeaa
