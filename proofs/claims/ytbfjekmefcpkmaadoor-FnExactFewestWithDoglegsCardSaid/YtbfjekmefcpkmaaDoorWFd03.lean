/- Printed walks: spec.l03Fewest, laws.toInt64S, laws.toChannel, laws.eqInt64S, laws.eqInt64SS, laws.eqChannel, laws.markInt64S, laws.markChannel, laws.markInt64SS, laws.heldInt64S, laws.heldInt64SS, spec.l00Max, spec.l00Min, spec.l03Pieces. -/
import Derived.Test.YtbfjekmefcpkmaaDoorProg
import Derived.Test.YtbfjekmefcpkmaaDoorWFd02
set_option linter.unusedSimpArgs false
set_option linter.unusedVariables false
namespace Go.Proofs.YtbfjekmefcpkmaaDoor
open Go.RowKit
attribute [local irreducible] wS cW eX wH

theorem ent55 : Ent Tryd.prog 55 := fun _ => by kernel_rfl
theorem ent65 : Ent Tryd.prog 65 := fun _ => by kernel_rfl
theorem ent66 : Ent Tryd.prog 66 := fun _ => by kernel_rfl
theorem ent67 : Ent Tryd.prog 67 := fun _ => by kernel_rfl
theorem ent68 : Ent Tryd.prog 68 := fun _ => by kernel_rfl
theorem ent96 : Ent Tryd.prog 96 := fun _ => by kernel_rfl
theorem ent97 : Ent Tryd.prog 97 := fun _ => by kernel_rfl
theorem vt26 : VarTy Tryd.prog 26 2 true := ⟨by kernel_rfl, by kernel_rfl⟩
theorem sz24 : pureRun Tryd.prog (sizeOf 24) = some 1 := by kernel_rfl
theorem sz26 : pureRun Tryd.prog (sizeOf 26) = some 2 := by kernel_rfl

set_option maxRecDepth 100000 in
/-- spec.l03Fewest -/
theorem c_spec_l03Fewest_bspecl03Things {w0 : World} {l0_0 : List (Int)} {A0_0 : Option Addr} {cap0_0 : Nat} {fp0_0 : List Nat} {l0_1 : List (List (Bool))} {A0_1 : Option Addr} {cap0_1 : Nat} {fp0_1 : List Nat} {l0_2 : List (List (Bool))} {A0_2 : Option Addr} {cap0_2 : Nat} {fp0_2 : List Nat} {b0 : Nat} {r : (List (List (Int))) × (Bool)} (hm : m_spec_l03Fewest_bspecl03Things l0_0 l0_1 l0_2 = some r) (F0_0 : Sl 1 encI w0 fp0_0 A0_0 l0_0) (F0_1 : SlR 1 encB w0 fp0_1 A0_1 l0_1) (F0_2 : SlR 1 encB w0 fp0_2 A0_2 l0_2) (F0 : Cl w0 b0 94 [.slice A0_0 (l0_0).length cap0_0, .slice A0_1 (l0_1).length cap0_1, .slice A0_2 (l0_2).length cap0_2]) :
  Calls Tryd.prog 64 #[.pointer (some ⟨b0, 0, none⟩)] w0 fun e w' => ∃ A100 cap100 fp100 fr100, e = .returned (.tuple #[.slice A100 (r.1).length cap100, .bool (r.2)]) ∧ OwR 1 encI 24 2 w' fp100 fr100 A100 cap100 r.1 ∧ (∀ x ∈ fp100 ++ fr100, w0.heap.size ≤ x) ∧ Chg [] w0 w' := by
 have L0_0 := F0_0.low
 have L0_1 := F0_1.low
 have L0_2 := F0_2.low
 have L0 := lt1 F0.lt
 have hB : Chg [] w0 w0 := Chg.refl _ _
 have hZ := Nat.le_refl w0.heap.size
 unfold m_spec_l03Fewest_bspecl03Things at hm
 refine enterE (N := 154) Tryd.func64 (by rfl) Tryd.ntmps64 (by simp) [(0, .pointer (some ⟨b0, 0, none⟩))] (by rfl) (by kernel_rfl) (fun a => ?_)
 refine cW_seq ?_
 refine cW_region ?_
 refine wS_pure 2 [(3, .bool (false)), (2, .slice none 0 0)] (by kernel_rfl) ?_
 refine wS_end (by rfl) ?_
 refine eX_then ?_
 refine cW_seq ?_
 refine cW_region ?_
 refine wS_pure 3 [(19, .pointer (some ⟨b0, 0, none⟩)), (18, .pointer (some ⟨b0, 0, none⟩)), (17, .pointer (some ⟨b0, 0, none⟩))] (by kernel_rfl) ?_
 refine wS_load1 (d := 20) (T := 24) (ad := ⟨b0, 0, none⟩) (v := .slice A0_0 (l0_0).length cap0_0) (by kernel_rfl) vt24 ((F0).cell 0) ?_
 refine wS_pure 2 [(4, .int .i64 (((l0_0).length : Int))), (21, .int .i64 (((l0_0).length : Int)))] (by kernel_rfl) ?_
 refine wS_end (by rfl) ?_
 refine eX_then ?_
 refine cW_seq ?_
 refine cW_region ?_
 refine wS_pure 2 [(23, .int .u64 (wu (((l0_0).length : Int)))), (22, .int .i64 (((l0_0).length : Int)))] (by kernel_rfl) ?_
 obtain ⟨u1, hu1, hm⟩ := bindE hm
 refine wS_shl (d := 24) (x := 1) (y := wu (((l0_0).length : Int))) (yk := .u64) (by kernel_rfl) (p0E hu1) ?_
 refine wS_pure 1 [(5, .int .i64 (shlI 1 (wu (((l0_0).length : Int)))))] (by kernel_rfl) ?_
 refine wS_end (by rfl) ?_
 refine eX_then ?_
 refine cW_seq ?_
 refine cW_region ?_
 refine wS_pure 1 [(25, .int .i64 (shlI 1 (wu (((l0_0).length : Int)))))] (by kernel_rfl) ?_
 obtain ⟨_, hk1, hm⟩ := bindE hm
 replace hk1 := mkE hk1
 refine wS_make (enc := encI) (x0 := (0 : Int)) (d := 26) (t := 24) (T := 2) (k1 := .i64) (k2 := .i64) (m := shlI 1 (wu (((l0_0).length : Int)))) (by kernel_rfl) el24 encI_ok (by rfl) hk1.1 hk1.2 ?_
 intro b1 w1 G1 F1 hc1
 replace F0_0 := F0_0.chg hc1 Dj.nil
 replace F0_1 := F0_1.chg hc1 Dj.nil
 replace F0_2 := F0_2.chg hc1 Dj.nil
 replace F0 := F0.chg hc1 notNil
 replace hB := hB.inS hc1 inNil
 replace G1 := Nat.le_trans hZ G1
 replace G1 := low1 G1
 replace hZ := Nat.le_trans hZ hc1.size
 refine wS_pure 1 [(6, .slice (some ⟨b1, 0, none⟩) (List.replicate (Int.toNat (shlI 1 (wu (((l0_0).length : Int))))) ((0 : Int))).length (Int.toNat (shlI 1 (wu (((l0_0).length : Int))))))] (by kernel_rfl) ?_
 refine wS_end (by rfl) ?_
 refine eX_then ?_
 refine cW_seq ?_
 refine cW_seq ?_
 refine cW_region ?_
 refine wS_pure 1 [(7, .int .i64 (1))] (by kernel_rfl) ?_
 refine wS_end (by rfl) ?_
 refine eX_then ?_
 obtain ⟨r1, hr1, hm⟩ := bindE hm
 have hm1 := hm
 refine cW_cut (fun a' w' => ∃ l1 : List (Int), l1 = r1 ∧ Fr 154 [(0, .pointer (some ⟨b0, 0, none⟩)), (4, .int .i64 (((l0_0).length : Int))), (5, .int .i64 (shlI 1 (wu (((l0_0).length : Int))))), (6, .slice (some ⟨b1, 0, none⟩) (l1).length (Int.toNat (shlI 1 (wu (((l0_0).length : Int))))))] a' ∧ Sl 1 encI w' fp0_0 A0_0 l0_0 ∧ SlR 1 encB w' fp0_1 A0_1 l0_1 ∧ SlR 1 encB w' fp0_2 A0_2 l0_2 ∧ Cl w' b0 94 [.slice A0_0 (l0_0).length cap0_0, .slice A0_1 (l0_1).length cap0_1, .slice A0_2 (l0_2).length cap0_2] ∧ Ow 1 encI 2 w' [b1] (some ⟨b1, 0, none⟩) (Int.toNat (shlI 1 (wu (((l0_0).length : Int))))) l1 ∧ Chg [] w0 w' ∧ w0.heap.size ≤ w'.heap.size) ?_ ?_
 ·refine cW_block ?_
  refine cW_loop _ (fun (s1 : Int × (List (Int))) a' w' => ∃ x1 : Int, ∃ l3 : List (Int), (x1, l3) = s1 ∧ Fr 154 [(0, .pointer (some ⟨b0, 0, none⟩)), (4, .int .i64 (((l0_0).length : Int))), (5, .int .i64 (shlI 1 (wu (((l0_0).length : Int))))), (6, .slice (some ⟨b1, 0, none⟩) (l3).length (Int.toNat (shlI 1 (wu (((l0_0).length : Int)))))), (7, .int .i64 (x1))] a' ∧ Sl 1 encI w' fp0_0 A0_0 l0_0 ∧ SlR 1 encB w' fp0_1 A0_1 l0_1 ∧ SlR 1 encB w' fp0_2 A0_2 l0_2 ∧ Cl w' b0 94 [.slice A0_0 (l0_0).length cap0_0, .slice A0_1 (l0_1).length cap0_1, .slice A0_2 (l0_2).length cap0_2] ∧ Ow 1 encI 2 w' [b1] (some ⟨b1, 0, none⟩) (Int.toNat (shlI 1 (wu (((l0_0).length : Int))))) l3 ∧ Chg [] w0 w' ∧ w0.heap.size ≤ w'.heap.size) hr1 (fun hst => ⟨1, List.replicate (Int.toNat (shlI 1 (wu (((l0_0).length : Int))))) ((0 : Int)), rfl, Fr.of hst (by kernel_rfl), F0_0, F0_1, F0_2, F0, F1, hB, hZ⟩) ?_
  rintro _ c1 a' w2 ⟨x1, l3, rfl, hF1, F2, F3, F4, F5, F6, hB, hZ⟩ hx1
  refine Fr.goOn hF1 (by kernel_rfl) ?_
  have hm := hx1
  unfold m_spec_l03Fewest_bspecl03Things_s3 at hm
  refine cW_seq ?_
  refine cW_seq ?_
  refine cW_region ?_
  refine wS_pure 3 [(29, .bool (decide (x1 < (shlI 1 (wu (((l0_0).length : Int))))))), (28, .int .i64 (shlI 1 (wu (((l0_0).length : Int))))), (27, .int .i64 (x1))] (by kernel_rfl) ?_
  refine wS_end (by rfl) ?_
  refine eX_then ?_
  refine cW_cond (t := decide (x1 < (shlI 1 (wu (((l0_0).length : Int)))))) (by kernel_rfl) (fun hb1 => ?_) (fun hb1 => ?_)
  ·have hm := condT hb1 hm
   refine cW_skip ?_
   refine eX_then ?_
   refine cW_seq ?_
   refine cW_block ?_
   refine cW_seq ?_
   refine cW_region ?_
   refine wS_pure 2 [(33, .int .i64 (x1)), (32, .slice (some ⟨b1, 0, none⟩) (l3).length (Int.toNat (shlI 1 (wu (((l0_0).length : Int))))))] (by kernel_rfl) ?_
   obtain ⟨x2, hx2, hm⟩ := bindE hm
   refine wS_idx (d := 34) (T := 24) (A := (some ⟨b1, 0, none⟩)) (n := (l3).length) (cap := (Int.toNat (shlI 1 (wu (((l0_0).length : Int)))))) (kd := .i64) (m := x1) (by kernel_rfl) sl24 ((F6.sl encI_ok).is hx2) ?_
   refine wS_storeEl (x := x2) ((-1)) (T := 2) (U := 2) (cap := (Int.toNat (shlI 1 (wu (((l0_0).length : Int)))))) (j := 0) (A := (some ⟨b1, 0, none⟩)) (v := .int .i64 ((-1))) (vs := [.int .i64 ((-1))]) (m := x1) (by kernel_rfl) (by rfl) sz2 (by rfl) encI_ok F6 hx2 (by simp only [List.length_cons, List.length_nil]; omega) (by rfl) ?_
   intro w3 F7 hc2
   replace F2 := F2.chg hc2 (Dj.of L0_0 G1)
   replace F3 := F3.chg hc2 (Dj.of L0_1 G1)
   replace F4 := F4.chg hc2 (Dj.of L0_2 G1)
   replace F5 := F5.chg hc2 (dj1 (Dj.of L0 G1))
   replace hB := hB.inS hc2 (inLow G1)
   replace hZ := Nat.le_trans hZ hc2.size
   clear F6
   rewrite [show (l3).length = (l3.set (Int.toNat x1) ((-1))).length from (List.length_set ..).symm]
   refine wS_end (by rfl) ?_
   refine eX_then ?_
   refine cW_seq ?_
   refine cW_region ?_
   refine wS_pure 2 [(8, .int .i64 (x1)), (35, .int .i64 (x1))] (by kernel_rfl) ?_
   refine wS_end (by rfl) ?_
   refine eX_then ?_
   obtain ⟨r2, hr2, hm⟩ := bindE hm
   have hm2 := hm
   refine cW_cut (fun a' w' => ∃ l4 : List (Int), l4 = r2 ∧ Fr 154 [(0, .pointer (some ⟨b0, 0, none⟩)), (4, .int .i64 (((l0_0).length : Int))), (5, .int .i64 (shlI 1 (wu (((l0_0).length : Int))))), (6, .slice (some ⟨b1, 0, none⟩) (l4).length (Int.toNat (shlI 1 (wu (((l0_0).length : Int)))))), (7, .int .i64 (x1))] a' ∧ Sl 1 encI w' fp0_0 A0_0 l0_0 ∧ SlR 1 encB w' fp0_1 A0_1 l0_1 ∧ SlR 1 encB w' fp0_2 A0_2 l0_2 ∧ Cl w' b0 94 [.slice A0_0 (l0_0).length cap0_0, .slice A0_1 (l0_1).length cap0_1, .slice A0_2 (l0_2).length cap0_2] ∧ Ow 1 encI 2 w' [b1] (some ⟨b1, 0, none⟩) (Int.toNat (shlI 1 (wu (((l0_0).length : Int))))) l4 ∧ Chg [] w0 w' ∧ w0.heap.size ≤ w'.heap.size) ?_ ?_
   ·refine cW_block ?_
    refine cW_loop _ (fun (s2 : Int × (List (Int))) a' w' => ∃ x3 : Int, ∃ l5 : List (Int), (x3, l5) = s2 ∧ Fr 154 [(0, .pointer (some ⟨b0, 0, none⟩)), (4, .int .i64 (((l0_0).length : Int))), (5, .int .i64 (shlI 1 (wu (((l0_0).length : Int))))), (6, .slice (some ⟨b1, 0, none⟩) (l5).length (Int.toNat (shlI 1 (wu (((l0_0).length : Int)))))), (7, .int .i64 (x1)), (8, .int .i64 (x3))] a' ∧ Sl 1 encI w' fp0_0 A0_0 l0_0 ∧ SlR 1 encB w' fp0_1 A0_1 l0_1 ∧ SlR 1 encB w' fp0_2 A0_2 l0_2 ∧ Cl w' b0 94 [.slice A0_0 (l0_0).length cap0_0, .slice A0_1 (l0_1).length cap0_1, .slice A0_2 (l0_2).length cap0_2] ∧ Ow 1 encI 2 w' [b1] (some ⟨b1, 0, none⟩) (Int.toNat (shlI 1 (wu (((l0_0).length : Int))))) l5 ∧ Chg [] w0 w' ∧ w0.heap.size ≤ w'.heap.size) hr2 (fun hst => ⟨x1, l3.set (Int.toNat x1) ((-1)), rfl, Fr.of hst (by kernel_rfl), F2, F3, F4, F5, F7, hB, hZ⟩) ?_
    rintro _ c2 a' w4 ⟨x3, l5, rfl, hF2, F8, F9, F10, F11, F12, hB, hZ⟩ hx3
    refine Fr.goOn hF2 (by kernel_rfl) ?_
    have hm := hx3
    unfold m_spec_l03Fewest_bspecl03Things_s4 at hm
    refine cW_seq ?_
    refine cW_seq ?_
    refine cW_region ?_
    refine wS_pure 2 [(37, .bool (decide (x3 > 0))), (36, .int .i64 (x3))] (by kernel_rfl) ?_
    refine wS_end (by rfl) ?_
    refine eX_then ?_
    refine cW_cond (t := decide (x3 > 0)) (by kernel_rfl) (fun hb2 => ?_) (fun hb2 => ?_)
    ·have hm := condT hb2 hm
     refine cW_skip ?_
     refine eX_then ?_
     refine cW_seq ?_
     refine cW_block ?_
     obtain ⟨s3, hs1, hm⟩ := bindE hm
     refine cW_cut (fun a' w' => ∃ l6 : List (Int), l6 = s3 ∧ Fr 154 [(0, .pointer (some ⟨b0, 0, none⟩)), (4, .int .i64 (((l0_0).length : Int))), (5, .int .i64 (shlI 1 (wu (((l0_0).length : Int))))), (6, .slice (some ⟨b1, 0, none⟩) (l6).length (Int.toNat (shlI 1 (wu (((l0_0).length : Int)))))), (7, .int .i64 (x1)), (8, .int .i64 (x3))] a' ∧ Sl 1 encI w' fp0_0 A0_0 l0_0 ∧ SlR 1 encB w' fp0_1 A0_1 l0_1 ∧ SlR 1 encB w' fp0_2 A0_2 l0_2 ∧ Cl w' b0 94 [.slice A0_0 (l0_0).length cap0_0, .slice A0_1 (l0_1).length cap0_1, .slice A0_2 (l0_2).length cap0_2] ∧ Ow 1 encI 2 w' [b1] (some ⟨b1, 0, none⟩) (Int.toNat (shlI 1 (wu (((l0_0).length : Int))))) l6 ∧ Chg [] w0 w' ∧ w0.heap.size ≤ w'.heap.size) ?_ ?_
     ·have hm := hs1
      refine cW_seq ?_
      refine cW_region ?_
      refine wS_pure 4 [(45, .int .i64 (andNI x1 x3)), (44, .int .i64 (x3)), (43, .int .i64 (x1)), (42, .slice (some ⟨b1, 0, none⟩) (l5).length (Int.toNat (shlI 1 (wu (((l0_0).length : Int))))))] (by kernel_rfl) ?_
      obtain ⟨x4, hx4, hm⟩ := bindE hm
      refine wS_idx (d := 46) (T := 24) (A := (some ⟨b1, 0, none⟩)) (n := (l5).length) (cap := (Int.toNat (shlI 1 (wu (((l0_0).length : Int)))))) (kd := .i64) (m := andNI x1 x3) (by kernel_rfl) sl24 ((F12.sl encI_ok).is hx4) ?_
      refine wS_load1 (d := 47) (T := 2) (ad := (elA (some ⟨b1, 0, none⟩) 1 (andNI x1 x3) 0)) (v := .int .i64 (x4)) (by kernel_rfl) vt2 (Sl.cell (F12.sl encI_ok) hx4 0 (by rfl)) ?_
      refine wS_pure 1 [(9, .int .i64 (x4))] (by kernel_rfl) ?_
      refine wS_end (by rfl) ?_
      refine eX_then ?_
      refine cW_seq ?_
      refine cW_region ?_
      refine wS_pure 3 [(50, .bool (decide (x4 ≥ 0))), (49, .bool (decide (x4 ≥ 0))), (48, .int .i64 (x4))] (by kernel_rfl) ?_
      refine wS_bool (decide (x4 ≥ 0)) (fun hb3 => ?_) (fun hb3 => ?_)
      ·have hm := condT hb3 hm
       rewrite [hb3]
       refine wS_pure 2 [(52, .int .i64 (x1)), (51, .slice (some ⟨b1, 0, none⟩) (l5).length (Int.toNat (shlI 1 (wu (((l0_0).length : Int))))))] (by kernel_rfl) ?_
       obtain ⟨x5, hx5, hm⟩ := bindE hm
       refine wS_idx (d := 53) (T := 24) (A := (some ⟨b1, 0, none⟩)) (n := (l5).length) (cap := (Int.toNat (shlI 1 (wu (((l0_0).length : Int)))))) (kd := .i64) (m := x1) (by kernel_rfl) sl24 ((F12.sl encI_ok).is hx5) ?_
       refine wS_load1 (d := 54) (T := 2) (ad := (elA (some ⟨b1, 0, none⟩) 1 (x1) 0)) (v := .int .i64 (x5)) (by kernel_rfl) vt2 (Sl.cell (F12.sl encI_ok) hx5 0 (by rfl)) ?_
       refine wS_pure 2 [(56, .bool (decide (x5 < 0))), (55, .bool (decide (x5 < 0)))] (by kernel_rfl) ?_
       refine wS_bool (decide (x5 < 0)) (fun hb4 => ?_) (fun hb4 => ?_)
       ·have hm := condT hb4 hm
        rewrite [hb4]
        refine wS_pure 13 [(69, .int .i64 (x1)), (68, .int .i64 (x3)), (67, .pointer (some ⟨b0, 0, none⟩)), (66, .bool (true)), (65, .bool (true)), (64, .bool (true)), (63, undef), (62, undef), (61, undef), (60, undef), (59, undef), (58, undef), (57, undef)] (by kernel_rfl) ?_
        obtain ⟨y1, hy1, hm⟩ := bindE hm
        refine wS_calls (d := 70) (f := 96) (vs := [.pointer (some ⟨b0, 0, none⟩), .int .i64 (x3), .int .i64 (x1)]) (by kernel_rfl) ent96 (c_spec_l03Fits_bspecl03Things hy1 F8 F9 F10 F11) ?_
        rintro _ w5 ⟨rfl, hc3⟩
        replace F8 := F8.chg hc3 Dj.nil
        replace F9 := F9.chg hc3 Dj.nil
        replace F10 := F10.chg hc3 Dj.nil
        replace F11 := F11.chg hc3 notNil
        replace F12 := F12.chg hc3 Dj.nil
        replace hB := hB.inS hc3 inNil
        replace hZ := Nat.le_trans hZ hc3.size
        refine ⟨.bool (y1), rfl, ?_⟩
        refine wS_pure 1 [(71, .bool (y1))] (by kernel_rfl) ?_
        refine wS_end (by rfl) ?_
        refine eX_then ?_
        refine cW_prune [(0, .pointer (some ⟨b0, 0, none⟩)), (4, .int .i64 (((l0_0).length : Int))), (5, .int .i64 (shlI 1 (wu (((l0_0).length : Int))))), (6, .slice (some ⟨b1, 0, none⟩) (l5).length (Int.toNat (shlI 1 (wu (((l0_0).length : Int)))))), (7, .int .i64 (x1)), (8, .int .i64 (x3)), (9, .int .i64 (x4)), (71, .bool (y1))] (by kernel_rfl) (by kernel_rfl) (fun a1 => ?_)
        refine cW_cond (t := y1) (by kernel_rfl) (fun hb5 => ?_) (fun hb5 => ?_)
        ·have hm := condT hb5 hm
         refine cW_region ?_
         refine wS_pure 4 [(75, .int .i64 (wr (x4 + 1))), (74, .int .i64 (x4)), (73, .int .i64 (x1)), (72, .slice (some ⟨b1, 0, none⟩) (l5).length (Int.toNat (shlI 1 (wu (((l0_0).length : Int))))))] (by kernel_rfl) ?_
         obtain ⟨x6, hx6, hm⟩ := bindE hm
         refine wS_idx (d := 76) (T := 24) (A := (some ⟨b1, 0, none⟩)) (n := (l5).length) (cap := (Int.toNat (shlI 1 (wu (((l0_0).length : Int)))))) (kd := .i64) (m := x1) (by kernel_rfl) sl24 ((F12.sl encI_ok).is hx6) ?_
         refine wS_storeEl (x := x6) (wr (x4 + 1)) (T := 2) (U := 2) (cap := (Int.toNat (shlI 1 (wu (((l0_0).length : Int)))))) (j := 0) (A := (some ⟨b1, 0, none⟩)) (v := .int .i64 (wr (x4 + 1))) (vs := [.int .i64 (wr (x4 + 1))]) (m := x1) (by kernel_rfl) (by rfl) sz2 (by rfl) encI_ok F12 hx6 (by simp only [List.length_cons, List.length_nil]; omega) (by rfl) ?_
         intro w6 F13 hc4
         replace F8 := F8.chg hc4 (Dj.of L0_0 G1)
         replace F9 := F9.chg hc4 (Dj.of L0_1 G1)
         replace F10 := F10.chg hc4 (Dj.of L0_2 G1)
         replace F11 := F11.chg hc4 (dj1 (Dj.of L0 G1))
         replace hB := hB.inS hc4 (inLow G1)
         replace hZ := Nat.le_trans hZ hc4.size
         clear F12
         rewrite [show (l5).length = (l5.set (Int.toNat x1) (wr (x4 + 1))).length from (List.length_set ..).symm]
         refine wS_end (by rfl) ?_
         have hq : (some (l5.set (Int.toNat x1) (wr (x4 + 1))) : Option ((List (Int)))) = some _ := hm
         replace hq := someE hq
         subst hq
         exact eX_J (fun hst => ⟨l5.set (Int.toNat x1) (wr (x4 + 1)), rfl, Fr.of hst (by kernel_rfl), F8, F9, F10, F11, F13, hB, hZ⟩)
        ·have hm := condF hb5 hm
         refine cW_skip ?_
         have hq : (some l5 : Option ((List (Int)))) = some _ := hm
         replace hq := someE hq
         subst hq
         exact eX_J (fun hst => ⟨l5, rfl, Fr.of hst (by kernel_rfl), F8, F9, F10, F11, F12, hB, hZ⟩)
       ·have hm := condF hb4 hm
        rewrite [hb4]
        refine wS_pure 4 [(60, .int .i64 (x1)), (59, .slice (some ⟨b1, 0, none⟩) (l5).length (Int.toNat (shlI 1 (wu (((l0_0).length : Int)))))), (58, .int .i64 (wr (x4 + 1))), (57, .int .i64 (x4))] (by kernel_rfl) ?_
        obtain ⟨x7, hx7, hm⟩ := bindE hm
        refine wS_idx (d := 61) (T := 24) (A := (some ⟨b1, 0, none⟩)) (n := (l5).length) (cap := (Int.toNat (shlI 1 (wu (((l0_0).length : Int)))))) (kd := .i64) (m := x1) (by kernel_rfl) sl24 ((F12.sl encI_ok).is hx7) ?_
        refine wS_load1 (d := 62) (T := 2) (ad := (elA (some ⟨b1, 0, none⟩) 1 (x1) 0)) (v := .int .i64 (x7)) (by kernel_rfl) vt2 (Sl.cell (F12.sl encI_ok) hx7 0 (by rfl)) ?_
        refine wS_pure 4 [(66, .bool (decide ((wr (x4 + 1)) < x7))), (65, .bool (decide ((wr (x4 + 1)) < x7))), (64, .bool (decide ((wr (x4 + 1)) < x7))), (63, .bool (decide ((wr (x4 + 1)) < x7)))] (by kernel_rfl) ?_
        refine wS_bool (decide ((wr (x4 + 1)) < x7)) (fun hb6 => ?_) (fun hb6 => ?_)
        ·have hm := condT hb6 hm
         rewrite [hb6]
         refine wS_pure 3 [(69, .int .i64 (x1)), (68, .int .i64 (x3)), (67, .pointer (some ⟨b0, 0, none⟩))] (by kernel_rfl) ?_
         obtain ⟨y2, hy2, hm⟩ := bindE hm
         refine wS_calls (d := 70) (f := 96) (vs := [.pointer (some ⟨b0, 0, none⟩), .int .i64 (x3), .int .i64 (x1)]) (by kernel_rfl) ent96 (c_spec_l03Fits_bspecl03Things hy2 F8 F9 F10 F11) ?_
         rintro _ w7 ⟨rfl, hc5⟩
         replace F8 := F8.chg hc5 Dj.nil
         replace F9 := F9.chg hc5 Dj.nil
         replace F10 := F10.chg hc5 Dj.nil
         replace F11 := F11.chg hc5 notNil
         replace F12 := F12.chg hc5 Dj.nil
         replace hB := hB.inS hc5 inNil
         replace hZ := Nat.le_trans hZ hc5.size
         refine ⟨.bool (y2), rfl, ?_⟩
         refine wS_pure 1 [(71, .bool (y2))] (by kernel_rfl) ?_
         refine wS_end (by rfl) ?_
         refine eX_then ?_
         refine cW_prune [(0, .pointer (some ⟨b0, 0, none⟩)), (4, .int .i64 (((l0_0).length : Int))), (5, .int .i64 (shlI 1 (wu (((l0_0).length : Int))))), (6, .slice (some ⟨b1, 0, none⟩) (l5).length (Int.toNat (shlI 1 (wu (((l0_0).length : Int)))))), (7, .int .i64 (x1)), (8, .int .i64 (x3)), (9, .int .i64 (x4)), (71, .bool (y2))] (by kernel_rfl) (by kernel_rfl) (fun a2 => ?_)
         refine cW_cond (t := y2) (by kernel_rfl) (fun hb7 => ?_) (fun hb7 => ?_)
         ·have hm := condT hb7 hm
          refine cW_region ?_
          refine wS_pure 4 [(75, .int .i64 (wr (x4 + 1))), (74, .int .i64 (x4)), (73, .int .i64 (x1)), (72, .slice (some ⟨b1, 0, none⟩) (l5).length (Int.toNat (shlI 1 (wu (((l0_0).length : Int))))))] (by kernel_rfl) ?_
          obtain ⟨x8, hx8, hm⟩ := bindE hm
          refine wS_idx (d := 76) (T := 24) (A := (some ⟨b1, 0, none⟩)) (n := (l5).length) (cap := (Int.toNat (shlI 1 (wu (((l0_0).length : Int)))))) (kd := .i64) (m := x1) (by kernel_rfl) sl24 ((F12.sl encI_ok).is hx8) ?_
          refine wS_storeEl (x := x8) (wr (x4 + 1)) (T := 2) (U := 2) (cap := (Int.toNat (shlI 1 (wu (((l0_0).length : Int)))))) (j := 0) (A := (some ⟨b1, 0, none⟩)) (v := .int .i64 (wr (x4 + 1))) (vs := [.int .i64 (wr (x4 + 1))]) (m := x1) (by kernel_rfl) (by rfl) sz2 (by rfl) encI_ok F12 hx8 (by simp only [List.length_cons, List.length_nil]; omega) (by rfl) ?_
          intro w8 F14 hc6
          replace F8 := F8.chg hc6 (Dj.of L0_0 G1)
          replace F9 := F9.chg hc6 (Dj.of L0_1 G1)
          replace F10 := F10.chg hc6 (Dj.of L0_2 G1)
          replace F11 := F11.chg hc6 (dj1 (Dj.of L0 G1))
          replace hB := hB.inS hc6 (inLow G1)
          replace hZ := Nat.le_trans hZ hc6.size
          clear F12
          rewrite [show (l5).length = (l5.set (Int.toNat x1) (wr (x4 + 1))).length from (List.length_set ..).symm]
          refine wS_end (by rfl) ?_
          have hq : (some (l5.set (Int.toNat x1) (wr (x4 + 1))) : Option ((List (Int)))) = some _ := hm
          replace hq := someE hq
          subst hq
          exact eX_J (fun hst => ⟨l5.set (Int.toNat x1) (wr (x4 + 1)), rfl, Fr.of hst (by kernel_rfl), F8, F9, F10, F11, F14, hB, hZ⟩)
         ·have hm := condF hb7 hm
          refine cW_skip ?_
          have hq : (some l5 : Option ((List (Int)))) = some _ := hm
          replace hq := someE hq
          subst hq
          exact eX_J (fun hst => ⟨l5, rfl, Fr.of hst (by kernel_rfl), F8, F9, F10, F11, F12, hB, hZ⟩)
        ·have hm := condF hb6 hm
         rewrite [hb6]
         refine wS_pure 5 [(71, .bool (false)), (70, undef), (69, undef), (68, undef), (67, undef)] (by kernel_rfl) ?_
         refine wS_end (by rfl) ?_
         refine eX_then ?_
         refine cW_prune [(0, .pointer (some ⟨b0, 0, none⟩)), (4, .int .i64 (((l0_0).length : Int))), (5, .int .i64 (shlI 1 (wu (((l0_0).length : Int))))), (6, .slice (some ⟨b1, 0, none⟩) (l5).length (Int.toNat (shlI 1 (wu (((l0_0).length : Int)))))), (7, .int .i64 (x1)), (8, .int .i64 (x3)), (9, .int .i64 (x4)), (71, .bool (false))] (by kernel_rfl) (by kernel_rfl) (fun a3 => ?_)
         refine cW_cond_f (by kernel_rfl) ?_
         refine cW_skip ?_
         have hq : (some l5 : Option ((List (Int)))) = some _ := hm
         replace hq := someE hq
         subst hq
         exact eX_J (fun hst => ⟨l5, rfl, Fr.of hst (by kernel_rfl), F8, F9, F10, F11, F12, hB, hZ⟩)
      ·have hm := condF hb3 hm
       rewrite [hb3]
       refine wS_pure 21 [(71, .bool (false)), (70, undef), (69, undef), (68, undef), (67, undef), (66, .bool (false)), (65, .bool (false)), (64, undef), (63, undef), (62, undef), (61, undef), (60, undef), (59, undef), (58, undef), (57, undef), (56, undef), (55, undef), (54, undef), (53, undef), (52, undef), (51, undef)] (by kernel_rfl) ?_
       refine wS_end (by rfl) ?_
       refine eX_then ?_
       refine cW_prune [(0, .pointer (some ⟨b0, 0, none⟩)), (4, .int .i64 (((l0_0).length : Int))), (5, .int .i64 (shlI 1 (wu (((l0_0).length : Int))))), (6, .slice (some ⟨b1, 0, none⟩) (l5).length (Int.toNat (shlI 1 (wu (((l0_0).length : Int)))))), (7, .int .i64 (x1)), (8, .int .i64 (x3)), (9, .int .i64 (x4)), (71, .bool (false))] (by kernel_rfl) (by kernel_rfl) (fun a4 => ?_)
       refine cW_cond_f (by kernel_rfl) ?_
       refine cW_skip ?_
       have hq : (some l5 : Option ((List (Int)))) = some _ := hm
       replace hq := someE hq
       subst hq
       exact eX_J (fun hst => ⟨l5, rfl, Fr.of hst (by kernel_rfl), F8, F9, F10, F11, F12, hB, hZ⟩)
     ·rintro a' w9 ⟨l6, hJ, hF3, F15, F16, F17, F18, F19, hB, hZ⟩
      subst hJ
      refine Fr.goX hF3 (by kernel_rfl) ?_
      refine eX_block ?_
      refine eX_then ?_
      refine cW_region ?_
      refine wS_pure 5 [(8, .int .i64 (andI (wr (x3 - 1)) x1)), (41, .int .i64 (andI (wr (x3 - 1)) x1)), (40, .int .i64 (x1)), (39, .int .i64 (wr (x3 - 1))), (38, .int .i64 (x3))] (by kernel_rfl) ?_
      refine wS_end (by rfl) ?_
      have hq : (some (Ctl.next ((andI (wr (x3 - 1)) x1, l6))) : Option (Ctl (Int × (List (Int))) ((List (Int))))) = some _ := hm
      replace hq := someE hq
      subst hq
      exact eX_next hx3 (fun hst => ⟨andI (wr (x3 - 1)) x1, l6, rfl, Fr.of hst (by kernel_rfl), F15, F16, F17, F18, F19, hB, hZ⟩)
    ·have hm := condF hb2 hm
     refine cW_exit ?_
     refine eX_then_exit ?_
     have hq : (some (Ctl.out l5) : Option (Ctl (Int × (List (Int))) ((List (Int))))) = some _ := hm
     replace hq := someE hq
     subst hq
     refine eX_outX hx3 (fun hr3 => ?_)
     replace hr3 := hr3.symm
     subst hr3
     refine eX_block_hit ?_
     exact eX_J (fun hst => ⟨l5, rfl, Fr.of hst (by kernel_rfl), F8, F9, F10, F11, F12, hB, hZ⟩)
   ·rintro a' w10 ⟨l4, hJ, hF4, F20, F21, F22, F23, F24, hB, hZ⟩
    subst hJ
    refine Fr.goX hF4 (by kernel_rfl) ?_
    refine eX_block ?_
    refine eX_then ?_
    refine cW_region ?_
    refine wS_pure 3 [(7, .int .i64 (wr (x1 + 1))), (31, .int .i64 (wr (x1 + 1))), (30, .int .i64 (x1))] (by kernel_rfl) ?_
    refine wS_end (by rfl) ?_
    have hq : (some (Ctl.next ((wr (x1 + 1), l4))) : Option (Ctl (Int × (List (Int))) ((List (Int))))) = some _ := hm
    replace hq := someE hq
    subst hq
    exact eX_next hx1 (fun hst => ⟨wr (x1 + 1), l4, rfl, Fr.of hst (by kernel_rfl), F20, F21, F22, F23, F24, hB, hZ⟩)
  ·have hm := condF hb1 hm
   refine cW_exit ?_
   refine eX_then_exit ?_
   have hq : (some (Ctl.out l3) : Option (Ctl (Int × (List (Int))) ((List (Int))))) = some _ := hm
   replace hq := someE hq
   subst hq
   refine eX_outX hx1 (fun hr4 => ?_)
   replace hr4 := hr4.symm
   subst hr4
   refine eX_block_hit ?_
   exact eX_J (fun hst => ⟨l3, rfl, Fr.of hst (by kernel_rfl), F2, F3, F4, F5, F6, hB, hZ⟩)
 ·rintro a' w11 ⟨l1, hJ, hF5, F25, F26, F27, F28, F29, hB, hZ⟩
  subst hJ
  refine Fr.goX hF5 (by kernel_rfl) ?_
  refine eX_then ?_
  refine cW_seq ?_
  refine cW_seq ?_
  refine cW_region ?_
  refine wS_pure 3 [(79, .int .i64 (wr ((shlI 1 (wu (((l0_0).length : Int)))) - 1))), (78, .int .i64 (shlI 1 (wu (((l0_0).length : Int))))), (77, .slice (some ⟨b1, 0, none⟩) (l1).length (Int.toNat (shlI 1 (wu (((l0_0).length : Int))))))] (by kernel_rfl) ?_
  obtain ⟨x9, hx9, hm⟩ := bindE hm
  refine wS_idx (d := 80) (T := 24) (A := (some ⟨b1, 0, none⟩)) (n := (l1).length) (cap := (Int.toNat (shlI 1 (wu (((l0_0).length : Int)))))) (kd := .i64) (m := wr ((shlI 1 (wu (((l0_0).length : Int)))) - 1)) (by kernel_rfl) sl24 ((F29.sl encI_ok).is hx9) ?_
  refine wS_load1 (d := 81) (T := 2) (ad := (elA (some ⟨b1, 0, none⟩) 1 (wr ((shlI 1 (wu (((l0_0).length : Int)))) - 1)) 0)) (v := .int .i64 (x9)) (by kernel_rfl) vt2 (Sl.cell (F29.sl encI_ok) hx9 0 (by rfl)) ?_
  refine wS_pure 1 [(82, .bool (decide (x9 < 0)))] (by kernel_rfl) ?_
  refine wS_end (by rfl) ?_
  refine eX_then ?_
  refine cW_cond (t := decide (x9 < 0)) (by kernel_rfl) (fun hb8 => ?_) (fun hb8 => ?_)
  ·have hm := condT hb8 hm
   refine cW_seq ?_
   refine cW_region ?_
   refine wS_pure 2 [(3, .bool (false)), (2, .slice none 0 0)] (by kernel_rfl) ?_
   refine wS_end (by rfl) ?_
   refine eX_then ?_
   refine cW_ret ?_
   refine eX_then_ret ?_
   have hq : (some (([], false)) : Option ((List (List (Int))) × (Bool))) = some _ := hm
   replace hq := someE hq
   subst hq
   refine eX_ret (vs := [.slice none 0 0, .bool (false)]) [.tmp 2, .tmp 3] (by rfl) ⟨by (show lkE _ _ _ = _); kernel_rfl, ⟨by (show lkE _ _ _ = _); kernel_rfl, trivial⟩⟩ ?_
   exact ⟨none, 0, [], [], rfl, OwR.nil _, (lowApp lowNil lowNil), hB⟩
  ·have hm := condF hb8 hm
   refine cW_skip ?_
   refine eX_then ?_
   refine cW_seq ?_
   refine cW_region ?_
   refine wS_rows0 (k := 1) (enc := encI) (d := 83) (t := 28) (T := 24) (T2 := 2) (by kernel_rfl) el28 ?_
   intro b2 w12 G2 F30 hc7
   have D1 : Dj [b1] ([b2] ++ []) := Dj.of F29.low (lowApp (low1 G2) lowNil)
   replace F25 := F25.chg hc7 Dj.nil
   replace F26 := F26.chg hc7 Dj.nil
   replace F27 := F27.chg hc7 Dj.nil
   replace F28 := F28.chg hc7 notNil
   replace F29 := F29.chg hc7 Dj.nil
   replace hB := hB.inS hc7 inNil
   replace G2 := Nat.le_trans hZ G2
   replace G2 := low1 G2
   replace hZ := Nat.le_trans hZ hc7.size
   replace G2 := lowApp G2 lowNil
   refine wS_pure 1 [(10, .slice (some ⟨b2, 0, none⟩) (([] : List (List (Int)))).length 0)] (by kernel_rfl) ?_
   refine wS_end (by rfl) ?_
   refine eX_then ?_
   refine cW_seq ?_
   refine cW_seq ?_
   refine cW_region ?_
   refine wS_pure 3 [(11, .int .i64 (wr ((shlI 1 (wu (((l0_0).length : Int)))) - 1))), (85, .int .i64 (wr ((shlI 1 (wu (((l0_0).length : Int)))) - 1))), (84, .int .i64 (shlI 1 (wu (((l0_0).length : Int)))))] (by kernel_rfl) ?_
   refine wS_end (by rfl) ?_
   refine eX_then ?_
   obtain ⟨r3, hr5, hm⟩ := bindE hm
   have hm3 := hm
   refine cW_cut (fun a' w' => ∃ l7 : List (List (Int)), ∃ A1 : Option Addr, ∃ cap1 : Nat, ∃ fp1 : List Nat, ∃ fr1 : List Nat, l7 = r3 ∧ Fr 154 [(10, .slice A1 (l7).length cap1)] a' ∧ OwR 1 encI 24 2 w' fp1 fr1 A1 cap1 l7 ∧ (∀ x ∈ (fp1 ++ fr1), w0.heap.size ≤ x) ∧ Chg [] w0 w' ∧ w0.heap.size ≤ w'.heap.size) ?_ ?_
   ·refine cW_block ?_
    refine cW_loop _ (fun (s4 : (List (List (Int))) × Int) a' w' => ∃ l8 : List (List (Int)), ∃ A3 : Option Addr, ∃ cap3 : Nat, ∃ fp2 : List Nat, ∃ fr2 : List Nat, ∃ x10 : Int, (l8, x10) = s4 ∧ Fr 154 [(0, .pointer (some ⟨b0, 0, none⟩)), (4, .int .i64 (((l0_0).length : Int))), (6, .slice (some ⟨b1, 0, none⟩) (l1).length (Int.toNat (shlI 1 (wu (((l0_0).length : Int)))))), (10, .slice A3 (l8).length cap3), (11, .int .i64 (x10))] a' ∧ Sl 1 encI w' fp0_0 A0_0 l0_0 ∧ SlR 1 encB w' fp0_1 A0_1 l0_1 ∧ SlR 1 encB w' fp0_2 A0_2 l0_2 ∧ Cl w' b0 94 [.slice A0_0 (l0_0).length cap0_0, .slice A0_1 (l0_1).length cap0_1, .slice A0_2 (l0_2).length cap0_2] ∧ Ow 1 encI 2 w' [b1] (some ⟨b1, 0, none⟩) (Int.toNat (shlI 1 (wu (((l0_0).length : Int))))) l1 ∧ OwR 1 encI 24 2 w' fp2 fr2 A3 cap3 l8 ∧ (∀ x ∈ (fp2 ++ fr2), w0.heap.size ≤ x) ∧ Dj [b1] (fp2 ++ fr2) ∧ Chg [] w0 w' ∧ w0.heap.size ≤ w'.heap.size) hr5 (fun hst => ⟨([] : List (List (Int))), (some ⟨b2, 0, none⟩), 0, [b2], [], wr ((shlI 1 (wu (((l0_0).length : Int)))) - 1), rfl, Fr.of hst (by kernel_rfl), F25, F26, F27, F28, F29, F30, G2, D1, hB, hZ⟩) ?_
    rintro _ c3 a' w13 ⟨l8, A3, cap3, fp2, fr2, x10, rfl, hF6, F31, F32, F33, F34, F35, F36, G3, D2, hB, hZ⟩ hx10
    refine Fr.goOn hF6 (by kernel_rfl) ?_
    have hm := hx10
    unfold m_spec_l03Fewest_bspecl03Things_s19 at hm
    refine cW_seq ?_
    refine cW_seq ?_
    refine cW_region ?_
    refine wS_pure 2 [(87, .bool (decide (x10 > 0))), (86, .int .i64 (x10))] (by kernel_rfl) ?_
    refine wS_end (by rfl) ?_
    refine eX_then ?_
    refine cW_cond (t := decide (x10 > 0)) (by kernel_rfl) (fun hb9 => ?_) (fun hb9 => ?_)
    ·have hm := condT hb9 hm
     refine cW_skip ?_
     refine eX_then ?_
     refine cW_block ?_
     refine cW_seq ?_
     refine cW_region ?_
     refine wS_bs0 (α := Int) (enc := encI) (d := 88) (t := 24) (T := 2) (by kernel_rfl) el24 ?_
     intro b3 w14 G4 F37 hc8
     have D3 : Dj [b1] [b3] := Dj.of F35.low (low1 G4)
     have D4 : Dj (fp2 ++ fr2) [b3] := Dj.of F36.low (low1 G4)
     replace F31 := F31.chg hc8 Dj.nil
     replace F32 := F32.chg hc8 Dj.nil
     replace F33 := F33.chg hc8 Dj.nil
     replace F34 := F34.chg hc8 notNil
     replace F35 := F35.chg hc8 Dj.nil
     replace F36 := F36.chg hc8 Dj.nil
     replace hB := hB.inS hc8 inNil
     replace G4 := Nat.le_trans hZ G4
     replace G4 := low1 G4
     replace hZ := Nat.le_trans hZ hc8.size
     refine wS_pure 1 [(12, .slice (some ⟨b3, 0, none⟩) (([] : List (Int))).length 0)] (by kernel_rfl) ?_
     refine wS_end (by rfl) ?_
     refine eX_then ?_
     refine cW_seq ?_
     refine cW_region ?_
     refine wS_pure 1 [(13, .int .i64 (0))] (by kernel_rfl) ?_
     refine wS_end (by rfl) ?_
     refine eX_then ?_
     refine cW_seq ?_
     refine cW_seq ?_
     refine cW_region ?_
     refine wS_pure 2 [(14, .int .i64 (x10)), (89, .int .i64 (x10))] (by kernel_rfl) ?_
     refine wS_end (by rfl) ?_
     refine eX_then ?_
     obtain ⟨r4, hr6, hm⟩ := bindE hm
     have hm4 := hm
     refine cW_cut (fun a' w' => ∃ l9 : List (Int), ∃ A4 : Option Addr, ∃ cap4 : Nat, ∃ fp3 : List Nat, ∃ x11 : Int, (l9, x11) = r4 ∧ Fr 154 [(0, .pointer (some ⟨b0, 0, none⟩)), (4, .int .i64 (((l0_0).length : Int))), (6, .slice (some ⟨b1, 0, none⟩) (l1).length (Int.toNat (shlI 1 (wu (((l0_0).length : Int)))))), (10, .slice A3 (l8).length cap3), (11, .int .i64 (x10)), (12, .slice A4 (l9).length cap4), (13, .int .i64 (x11))] a' ∧ Sl 1 encI w' fp0_0 A0_0 l0_0 ∧ SlR 1 encB w' fp0_1 A0_1 l0_1 ∧ SlR 1 encB w' fp0_2 A0_2 l0_2 ∧ Cl w' b0 94 [.slice A0_0 (l0_0).length cap0_0, .slice A0_1 (l0_1).length cap0_1, .slice A0_2 (l0_2).length cap0_2] ∧ Ow 1 encI 2 w' [b1] (some ⟨b1, 0, none⟩) (Int.toNat (shlI 1 (wu (((l0_0).length : Int))))) l1 ∧ OwR 1 encI 24 2 w' fp2 fr2 A3 cap3 l8 ∧ Ow 1 encI 2 w' fp3 A4 cap4 l9 ∧ (∀ x ∈ fp3, w0.heap.size ≤ x) ∧ Dj [b1] fp3 ∧ Dj (fp2 ++ fr2) fp3 ∧ Chg [] w0 w' ∧ w0.heap.size ≤ w'.heap.size) ?_ ?_
     ·refine cW_block ?_
      refine cW_loop _ (fun (s5 : (List (Int)) × Int × Int) a' w' => ∃ l10 : List (Int), ∃ A5 : Option Addr, ∃ cap5 : Nat, ∃ fp4 : List Nat, ∃ x12 : Int, ∃ x13 : Int, (l10, x12, x13) = s5 ∧ Fr 154 [(0, .pointer (some ⟨b0, 0, none⟩)), (4, .int .i64 (((l0_0).length : Int))), (6, .slice (some ⟨b1, 0, none⟩) (l1).length (Int.toNat (shlI 1 (wu (((l0_0).length : Int)))))), (10, .slice A3 (l8).length cap3), (11, .int .i64 (x10)), (12, .slice A5 (l10).length cap5), (13, .int .i64 (x12)), (14, .int .i64 (x13))] a' ∧ Sl 1 encI w' fp0_0 A0_0 l0_0 ∧ SlR 1 encB w' fp0_1 A0_1 l0_1 ∧ SlR 1 encB w' fp0_2 A0_2 l0_2 ∧ Cl w' b0 94 [.slice A0_0 (l0_0).length cap0_0, .slice A0_1 (l0_1).length cap0_1, .slice A0_2 (l0_2).length cap0_2] ∧ Ow 1 encI 2 w' [b1] (some ⟨b1, 0, none⟩) (Int.toNat (shlI 1 (wu (((l0_0).length : Int))))) l1 ∧ OwR 1 encI 24 2 w' fp2 fr2 A3 cap3 l8 ∧ Ow 1 encI 2 w' fp4 A5 cap5 l10 ∧ (∀ x ∈ fp4, w0.heap.size ≤ x) ∧ Dj [b1] fp4 ∧ Dj (fp2 ++ fr2) fp4 ∧ Chg [] w0 w' ∧ w0.heap.size ≤ w'.heap.size) hr6 (fun hst => ⟨([] : List (Int)), (some ⟨b3, 0, none⟩), 0, [b3], 0, x10, rfl, Fr.of hst (by kernel_rfl), F31, F32, F33, F34, F35, F36, F37, G4, D3, D4, hB, hZ⟩) ?_
      rintro _ c4 a' w15 ⟨l10, A5, cap5, fp4, x12, x13, rfl, hF7, F38, F39, F40, F41, F42, F43, F44, G5, D5, D6, hB, hZ⟩ hx11
      refine Fr.goOn hF7 (by kernel_rfl) ?_
      have hm := hx11
      unfold m_spec_l03Fewest_bspecl03Things_s24 at hm
      refine cW_seq ?_
      refine cW_seq ?_
      refine cW_region ?_
      refine wS_pure 2 [(91, .bool (decide (x13 > 0))), (90, .int .i64 (x13))] (by kernel_rfl) ?_
      refine wS_end (by rfl) ?_
      refine eX_then ?_
      refine cW_cond (t := decide (x13 > 0)) (by kernel_rfl) (fun hb10 => ?_) (fun hb10 => ?_)
      ·have hm := condT hb10 hm
       refine cW_skip ?_
       refine eX_then ?_
       refine cW_seq ?_
       refine cW_block ?_
       refine cW_seq ?_
       refine cW_seq ?_
       refine cW_drawnTail [] 16 (by kernel_rfl) (by kernel_rfl) (fun w16 hc9 => ?_)
       replace F38 := F38.chg hc9 Dj.nil
       replace F39 := F39.chg hc9 Dj.nil
       replace F40 := F40.chg hc9 Dj.nil
       replace F41 := F41.chg hc9 notNil
       replace F42 := F42.chg hc9 Dj.nil
       replace F43 := F43.chg hc9 Dj.nil
       replace F44 := F44.chg hc9 Dj.nil
       replace hB := hB.inS hc9 inNil
       replace hZ := Nat.le_trans hZ hc9.size
       have hS := Chg.refl [] w16
       have Z1 := F38
       have Z2 := F39
       have Z3 := F40
       have Z4 := F41
       have Z5 := F42
       have Z6 := F43
       have Z7 := F44
       refine wH_take [0, 1, 2, 3] [3, 2, 1, 0] [(99, .int .i64 (andNI x10 x13)), (98, .int .i64 (x13)), (97, .int .i64 (x10)), (96, .slice (some ⟨b1, 0, none⟩) (l1).length (Int.toNat (shlI 1 (wu (((l0_0).length : Int))))))] (by kernel_rfl) (qT (qT (qT (qB (qT (qL (qB (qT (qT (qB (qL (qB (qT (qT qZ)))))))))))))) (by kernel_rfl) ?_
       obtain ⟨x14, hx12, hm⟩ := bindE hm
       refine wH_idx (i := 4) (d := 100) (T := 24) (A := (some ⟨b1, 0, none⟩)) (n := (l1).length) (cap := (Int.toNat (shlI 1 (wu (((l0_0).length : Int)))))) (kd := .i64) (m := andNI x10 x13) (by kernel_rfl) (qT (qT (qT (qB (qT (qL (qB (qT (qT (qB (qL (qB (qT (qT qZ)))))))))))))) (by kernel_rfl) (by kernel_rfl) sl24 ((F42.sl encI_ok).is hx12) ?_
       refine wH_load1 (i := 5) (d := 101) (T := 2) (ad := (elA (some ⟨b1, 0, none⟩) 1 (andNI x10 x13) 0)) (v := .int .i64 (x14)) (by kernel_rfl) (qT (qT (qT (qB (qT (qL (qB (qT (qT (qB (qL (qB (qT (qT qZ)))))))))))))) (by kernel_rfl) (by kernel_rfl) vt2 (fun W hW => Sl.cell ((Z5.chg hW Dj.nil).sl encI_ok) hx12 0 (by rfl)) ?_
       refine wH_take [6, 7] [7, 6, 5, 4, 3, 2, 1, 0] [(103, .int .i64 (x10)), (102, .slice (some ⟨b1, 0, none⟩) (l1).length (Int.toNat (shlI 1 (wu (((l0_0).length : Int))))))] (by kernel_rfl) (qT (qT (qT (qB (qT (qL (qB (qT (qT (qB (qL (qB (qT (qT qZ)))))))))))))) (by kernel_rfl) ?_
       obtain ⟨x15, hx13, hm⟩ := bindE hm
       refine wH_idx (i := 8) (d := 104) (T := 24) (A := (some ⟨b1, 0, none⟩)) (n := (l1).length) (cap := (Int.toNat (shlI 1 (wu (((l0_0).length : Int)))))) (kd := .i64) (m := x10) (by kernel_rfl) (qT (qT (qT (qB (qT (qL (qB (qT (qT (qB (qL (qB (qT (qT qZ)))))))))))))) (by kernel_rfl) (by kernel_rfl) sl24 ((F42.sl encI_ok).is hx13) ?_
       refine wH_load1 (i := 9) (d := 105) (T := 2) (ad := (elA (some ⟨b1, 0, none⟩) 1 (x10) 0)) (v := .int .i64 (x15)) (by kernel_rfl) (qT (qT (qT (qB (qT (qL (qB (qT (qT (qB (qL (qB (qT (qT qZ)))))))))))))) (by kernel_rfl) (by kernel_rfl) vt2 (fun W hW => Sl.cell ((Z5.chg hW Dj.nil).sl encI_ok) hx13 0 (by rfl)) ?_
       refine wH_take [10, 11, 12] [12, 11, 10, 9, 8, 7, 6, 5, 4, 3, 2, 1, 0] [(108, .bool (x14 != (wr (x15 - 1)))), (107, .bool (x14 != (wr (x15 - 1)))), (106, .int .i64 (wr (x15 - 1)))] (by kernel_rfl) (qT (qT (qT (qB (qT (qL (qB (qT (qT (qB (qL (qB (qT (qT qZ)))))))))))))) (by kernel_rfl) ?_
       refine wH_bool (x14 != (wr (x15 - 1))) (fun hb11 => ?_) (fun hb11 => ?_)
       ·have hm := condT hb11 hm
        rewrite [hb11]
        refine wH_take [13, 14, 15] [15, 14, 13, 12, 11, 10, 9, 8, 7, 6, 5, 4, 3, 2, 1, 0] [(111, undef), (110, undef), (109, undef)] (by kernel_rfl) (qT (qT (qT (qB (qT (qL (qB (qT (qT (qB (qL (qB (qT (qT qZ)))))))))))))) (by kernel_rfl) ?_
        refine wH_done (by kernel_rfl) ?_
        refine eX_tail ?_
        refine wS_pure 3 [(114, .bool (true)), (113, undef), (112, undef)] (by kernel_rfl) ?_
        refine wS_end (by rfl) ?_
        refine eX_then ?_
        refine cW_prune [(0, .pointer (some ⟨b0, 0, none⟩)), (4, .int .i64 (((l0_0).length : Int))), (6, .slice (some ⟨b1, 0, none⟩) (l1).length (Int.toNat (shlI 1 (wu (((l0_0).length : Int)))))), (10, .slice A3 (l8).length cap3), (11, .int .i64 (x10)), (12, .slice A5 (l10).length cap5), (13, .int .i64 (x12)), (14, .int .i64 (x13)), (114, .bool (true))] (by kernel_rfl) (by kernel_rfl) (fun a5 => ?_)
        refine cW_cond_t (by kernel_rfl) ?_
        refine cW_exit ?_
        refine eX_then_exit ?_
        refine eX_block_hit ?_
        refine eX_then ?_
        refine cW_region ?_
        refine wS_pure 5 [(14, .int .i64 (andI (wr (x13 - 1)) x10)), (95, .int .i64 (andI (wr (x13 - 1)) x10)), (94, .int .i64 (x10)), (93, .int .i64 (wr (x13 - 1))), (92, .int .i64 (x13))] (by kernel_rfl) ?_
        refine wS_end (by rfl) ?_
        have hq : (some (Ctl.next ((l10, x12, andI (wr (x13 - 1)) x10))) : Option (Ctl ((List (Int)) × Int × Int) ((List (Int)) × Int))) = some _ := hm
        replace hq := someE hq
        subst hq
        exact eX_next hx11 (fun hst => ⟨l10, A5, cap5, fp4, x12, andI (wr (x13 - 1)) x10, rfl, Fr.of hst (by kernel_rfl), F38, F39, F40, F41, F42, F43, F44, G5, D5, D6, hB, hZ⟩)
       ·have hm := condF hb11 hm
        rewrite [hb11]
        refine wH_take [13, 14, 15] [15, 14, 13, 12, 11, 10, 9, 8, 7, 6, 5, 4, 3, 2, 1, 0] [(111, .int .i64 (x10)), (110, .int .i64 (x13)), (109, .pointer (some ⟨b0, 0, none⟩))] (by kernel_rfl) (qT (qT (qT (qB (qT (qL (qB (qT (qT (qB (qL (qB (qT (qT qZ)))))))))))))) (by kernel_rfl) ?_
        refine wH_done (by kernel_rfl) ?_
        refine eX_tail ?_
        obtain ⟨y3, hy3, hm⟩ := bindE hm
        refine wS_calls (d := 112) (f := 96) (vs := [.pointer (some ⟨b0, 0, none⟩), .int .i64 (x13), .int .i64 (x10)]) (by kernel_rfl) ent96 (c_spec_l03Fits_bspecl03Things hy3 F38 F39 F40 F41) ?_
        rintro _ w17 ⟨rfl, hc10⟩
        replace F38 := F38.chg hc10 Dj.nil
        replace F39 := F39.chg hc10 Dj.nil
        replace F40 := F40.chg hc10 Dj.nil
        replace F41 := F41.chg hc10 notNil
        replace F42 := F42.chg hc10 Dj.nil
        replace F43 := F43.chg hc10 Dj.nil
        replace F44 := F44.chg hc10 Dj.nil
        replace hB := hB.inS hc10 inNil
        replace hZ := Nat.le_trans hZ hc10.size
        refine ⟨.bool (y3), rfl, ?_⟩
        refine wS_pure 2 [(114, .bool (!y3)), (113, .bool (!y3))] (by kernel_rfl) ?_
        refine wS_end (by rfl) ?_
        refine eX_then ?_
        refine cW_prune [(0, .pointer (some ⟨b0, 0, none⟩)), (4, .int .i64 (((l0_0).length : Int))), (6, .slice (some ⟨b1, 0, none⟩) (l1).length (Int.toNat (shlI 1 (wu (((l0_0).length : Int)))))), (10, .slice A3 (l8).length cap3), (11, .int .i64 (x10)), (12, .slice A5 (l10).length cap5), (13, .int .i64 (x12)), (14, .int .i64 (x13)), (114, .bool (!y3))] (by kernel_rfl) (by kernel_rfl) (fun a6 => ?_)
        refine cW_cond (t := !y3) (by kernel_rfl) (fun hb12 => ?_) (fun hb12 => ?_)
        ·have hm := condT hb12 hm
         refine cW_exit ?_
         refine eX_then_exit ?_
         refine eX_block_hit ?_
         refine eX_then ?_
         refine cW_region ?_
         refine wS_pure 5 [(14, .int .i64 (andI (wr (x13 - 1)) x10)), (95, .int .i64 (andI (wr (x13 - 1)) x10)), (94, .int .i64 (x10)), (93, .int .i64 (wr (x13 - 1))), (92, .int .i64 (x13))] (by kernel_rfl) ?_
         refine wS_end (by rfl) ?_
         have hq : (some (Ctl.next ((l10, x12, andI (wr (x13 - 1)) x10))) : Option (Ctl ((List (Int)) × Int × Int) ((List (Int)) × Int))) = some _ := hm
         replace hq := someE hq
         subst hq
         exact eX_next hx11 (fun hst => ⟨l10, A5, cap5, fp4, x12, andI (wr (x13 - 1)) x10, rfl, Fr.of hst (by kernel_rfl), F38, F39, F40, F41, F42, F43, F44, G5, D5, D6, hB, hZ⟩)
        ·have hm := condF hb12 hm
         refine cW_skip ?_
         refine eX_then ?_
         obtain ⟨s6, hs2, hm⟩ := bindE hm
         refine cW_cut (fun a' w' => ∃ l11 : List (Int), ∃ A6 : Option Addr, ∃ cap6 : Nat, ∃ fp5 : List Nat, ∃ x16 : Int, (l11, x16) = s6 ∧ Fr 154 [(0, .pointer (some ⟨b0, 0, none⟩)), (4, .int .i64 (((l0_0).length : Int))), (6, .slice (some ⟨b1, 0, none⟩) (l1).length (Int.toNat (shlI 1 (wu (((l0_0).length : Int)))))), (10, .slice A3 (l8).length cap3), (11, .int .i64 (x10)), (12, .slice A6 (l11).length cap6), (13, .int .i64 (x16)), (14, .int .i64 (x13))] a' ∧ Sl 1 encI w' fp0_0 A0_0 l0_0 ∧ SlR 1 encB w' fp0_1 A0_1 l0_1 ∧ SlR 1 encB w' fp0_2 A0_2 l0_2 ∧ Cl w' b0 94 [.slice A0_0 (l0_0).length cap0_0, .slice A0_1 (l0_1).length cap0_1, .slice A0_2 (l0_2).length cap0_2] ∧ Ow 1 encI 2 w' [b1] (some ⟨b1, 0, none⟩) (Int.toNat (shlI 1 (wu (((l0_0).length : Int))))) l1 ∧ OwR 1 encI 24 2 w' fp2 fr2 A3 cap3 l8 ∧ Ow 1 encI 2 w' fp5 A6 cap6 l11 ∧ (∀ x ∈ fp5, w0.heap.size ≤ x) ∧ Dj [b1] fp5 ∧ Dj (fp2 ++ fr2) fp5 ∧ Chg [] w0 w' ∧ w0.heap.size ≤ w'.heap.size) ?_ ?_
         ·have hm := hs2
          refine cW_seq ?_
          refine cW_region ?_
          refine wS_bs0 (α := Int) (enc := encI) (d := 115) (t := 24) (T := 2) (by kernel_rfl) el24 ?_
          intro b4 w18 G6 F45 hc11
          have D7 : Dj [b1] [b4] := Dj.of F42.low (low1 G6)
          have D8 : Dj (fp2 ++ fr2) [b4] := Dj.of F43.low (low1 G6)
          have D9 : Dj fp4 [b4] := Dj.of F44.low (low1 G6)
          replace F38 := F38.chg hc11 Dj.nil
          replace F39 := F39.chg hc11 Dj.nil
          replace F40 := F40.chg hc11 Dj.nil
          replace F41 := F41.chg hc11 notNil
          replace F42 := F42.chg hc11 Dj.nil
          replace F43 := F43.chg hc11 Dj.nil
          replace F44 := F44.chg hc11 Dj.nil
          replace hB := hB.inS hc11 inNil
          replace G6 := Nat.le_trans hZ G6
          replace G6 := low1 G6
          replace hZ := Nat.le_trans hZ hc11.size
          refine wS_pure 1 [(15, .slice (some ⟨b4, 0, none⟩) (([] : List (Int))).length 0)] (by kernel_rfl) ?_
          refine wS_end (by rfl) ?_
          refine eX_then ?_
          refine cW_seq ?_
          refine cW_seq ?_
          refine cW_region ?_
          refine wS_pure 1 [(16, .int .i64 (0))] (by kernel_rfl) ?_
          refine wS_end (by rfl) ?_
          refine eX_then ?_
          obtain ⟨r5, hr7, hm⟩ := bindE hm
          have hm5 := hm
          refine cW_cut (fun a' w' => ∃ l12 : List (Int), ∃ A7 : Option Addr, ∃ cap7 : Nat, ∃ fp6 : List Nat, l12 = r5 ∧ Fr 154 [(0, .pointer (some ⟨b0, 0, none⟩)), (4, .int .i64 (((l0_0).length : Int))), (6, .slice (some ⟨b1, 0, none⟩) (l1).length (Int.toNat (shlI 1 (wu (((l0_0).length : Int)))))), (10, .slice A3 (l8).length cap3), (11, .int .i64 (x10)), (12, .slice A5 (l10).length cap5), (13, .int .i64 (x12)), (14, .int .i64 (x13)), (15, .slice A7 (l12).length cap7)] a' ∧ Sl 1 encI w' fp0_0 A0_0 l0_0 ∧ SlR 1 encB w' fp0_1 A0_1 l0_1 ∧ SlR 1 encB w' fp0_2 A0_2 l0_2 ∧ Cl w' b0 94 [.slice A0_0 (l0_0).length cap0_0, .slice A0_1 (l0_1).length cap0_1, .slice A0_2 (l0_2).length cap0_2] ∧ Ow 1 encI 2 w' [b1] (some ⟨b1, 0, none⟩) (Int.toNat (shlI 1 (wu (((l0_0).length : Int))))) l1 ∧ OwR 1 encI 24 2 w' fp2 fr2 A3 cap3 l8 ∧ Ow 1 encI 2 w' fp4 A5 cap5 l10 ∧ Ow 1 encI 2 w' fp6 A7 cap7 l12 ∧ (∀ x ∈ fp6, w0.heap.size ≤ x) ∧ Dj [b1] fp6 ∧ Dj (fp2 ++ fr2) fp6 ∧ Dj fp4 fp6 ∧ Chg [] w0 w' ∧ w0.heap.size ≤ w'.heap.size) ?_ ?_
          ·refine cW_block ?_
           refine cW_loop _ (fun (s7 : (List (Int)) × Int) a' w' => ∃ l13 : List (Int), ∃ A8 : Option Addr, ∃ cap8 : Nat, ∃ fp7 : List Nat, ∃ x17 : Int, (l13, x17) = s7 ∧ Fr 154 [(0, .pointer (some ⟨b0, 0, none⟩)), (4, .int .i64 (((l0_0).length : Int))), (6, .slice (some ⟨b1, 0, none⟩) (l1).length (Int.toNat (shlI 1 (wu (((l0_0).length : Int)))))), (10, .slice A3 (l8).length cap3), (11, .int .i64 (x10)), (12, .slice A5 (l10).length cap5), (13, .int .i64 (x12)), (14, .int .i64 (x13)), (15, .slice A8 (l13).length cap8), (16, .int .i64 (x17))] a' ∧ Sl 1 encI w' fp0_0 A0_0 l0_0 ∧ SlR 1 encB w' fp0_1 A0_1 l0_1 ∧ SlR 1 encB w' fp0_2 A0_2 l0_2 ∧ Cl w' b0 94 [.slice A0_0 (l0_0).length cap0_0, .slice A0_1 (l0_1).length cap0_1, .slice A0_2 (l0_2).length cap0_2] ∧ Ow 1 encI 2 w' [b1] (some ⟨b1, 0, none⟩) (Int.toNat (shlI 1 (wu (((l0_0).length : Int))))) l1 ∧ OwR 1 encI 24 2 w' fp2 fr2 A3 cap3 l8 ∧ Ow 1 encI 2 w' fp4 A5 cap5 l10 ∧ Ow 1 encI 2 w' fp7 A8 cap8 l13 ∧ (∀ x ∈ fp7, w0.heap.size ≤ x) ∧ Dj [b1] fp7 ∧ Dj (fp2 ++ fr2) fp7 ∧ Dj fp4 fp7 ∧ Chg [] w0 w' ∧ w0.heap.size ≤ w'.heap.size) hr7 (fun hst => ⟨([] : List (Int)), (some ⟨b4, 0, none⟩), 0, [b4], 0, rfl, Fr.of hst (by kernel_rfl), F38, F39, F40, F41, F42, F43, F44, F45, G6, D7, D8, D9, hB, hZ⟩) ?_
           rintro _ c5 a' w19 ⟨l13, A8, cap8, fp7, x17, rfl, hF8, F46, F47, F48, F49, F50, F51, F52, F53, G7, D10, D11, D12, hB, hZ⟩ hx14
           refine Fr.goOn hF8 (by kernel_rfl) ?_
           have hm := hx14
           unfold m_spec_l03Fewest_bspecl03Things_s26 at hm
           refine cW_seq ?_
           refine cW_seq ?_
           refine cW_region ?_
           refine wS_pure 3 [(118, .bool (decide (x17 < (((l0_0).length : Int))))), (117, .int .i64 (((l0_0).length : Int))), (116, .int .i64 (x17))] (by kernel_rfl) ?_
           refine wS_end (by rfl) ?_
           refine eX_then ?_
           refine cW_cond (t := decide (x17 < (((l0_0).length : Int)))) (by kernel_rfl) (fun hb13 => ?_) (fun hb13 => ?_)
           ·have hm := condT hb13 hm
            refine cW_skip ?_
            refine eX_then ?_
            refine cW_seq ?_
            refine cW_block ?_
            obtain ⟨s8, hs3, hm⟩ := bindE hm
            refine cW_cut (fun a' w' => ∃ l14 : List (Int), ∃ A9 : Option Addr, ∃ cap9 : Nat, ∃ fp8 : List Nat, l14 = s8 ∧ Fr 154 [(0, .pointer (some ⟨b0, 0, none⟩)), (4, .int .i64 (((l0_0).length : Int))), (6, .slice (some ⟨b1, 0, none⟩) (l1).length (Int.toNat (shlI 1 (wu (((l0_0).length : Int)))))), (10, .slice A3 (l8).length cap3), (11, .int .i64 (x10)), (12, .slice A5 (l10).length cap5), (13, .int .i64 (x12)), (14, .int .i64 (x13)), (15, .slice A9 (l14).length cap9), (16, .int .i64 (x17))] a' ∧ Sl 1 encI w' fp0_0 A0_0 l0_0 ∧ SlR 1 encB w' fp0_1 A0_1 l0_1 ∧ SlR 1 encB w' fp0_2 A0_2 l0_2 ∧ Cl w' b0 94 [.slice A0_0 (l0_0).length cap0_0, .slice A0_1 (l0_1).length cap0_1, .slice A0_2 (l0_2).length cap0_2] ∧ Ow 1 encI 2 w' [b1] (some ⟨b1, 0, none⟩) (Int.toNat (shlI 1 (wu (((l0_0).length : Int))))) l1 ∧ OwR 1 encI 24 2 w' fp2 fr2 A3 cap3 l8 ∧ Ow 1 encI 2 w' fp4 A5 cap5 l10 ∧ Ow 1 encI 2 w' fp8 A9 cap9 l14 ∧ (∀ x ∈ fp8, w0.heap.size ≤ x) ∧ Dj [b1] fp8 ∧ Dj (fp2 ++ fr2) fp8 ∧ Dj fp4 fp8 ∧ Chg [] w0 w' ∧ w0.heap.size ≤ w'.heap.size) ?_ ?_
            ·have hm := hs3
             refine cW_seq ?_
             refine cW_region ?_
             refine wS_pure 3 [(123, .int .u64 (wu x17)), (122, .int .i64 (x17)), (121, .int .i64 (x13))] (by kernel_rfl) ?_
             obtain ⟨u2, hu2, hm⟩ := bindE hm
             refine wS_shr (d := 124) (x := x13) (y := wu x17) (yk := .u64) (by kernel_rfl) (p0E hu2) ?_
             refine wS_pure 2 [(126, .bool ((andI (shrI x13 (wu x17)) 1) == 1)), (125, .int .i64 (andI (shrI x13 (wu x17)) 1))] (by kernel_rfl) ?_
             refine wS_end (by rfl) ?_
             refine eX_then ?_
             refine cW_cond (t := (andI (shrI x13 (wu x17)) 1) == 1) (by kernel_rfl) (fun hb14 => ?_) (fun hb14 => ?_)
             ·have hm := condT hb14 hm
              refine cW_region ?_
              refine wS_pure 4 [(130, .pointer (some ⟨b0, 0, none⟩)), (129, .pointer (some ⟨b0, 0, none⟩)), (128, .pointer (some ⟨b0, 0, none⟩)), (127, .slice A8 (l13).length cap8)] (by kernel_rfl) ?_
              refine wS_load1 (d := 131) (T := 24) (ad := ⟨b0, 0, none⟩) (v := .slice A0_0 (l0_0).length cap0_0) (by kernel_rfl) vt24 ((F49).cell 0) ?_
              refine wS_pure 1 [(132, .int .i64 (x17))] (by kernel_rfl) ?_
              obtain ⟨x18, hx15, hm⟩ := bindE hm
              refine wS_idx (d := 133) (T := 24) (A := A0_0) (n := (l0_0).length) (cap := cap0_0) (kd := .i64) (m := x17) (by kernel_rfl) sl24 (F46.is hx15) ?_
              refine wS_load1 (d := 134) (T := 2) (ad := (elA A0_0 1 (x17) 0)) (v := .int .i64 (x18)) (by kernel_rfl) vt2 (Sl.cell F46 hx15 0 (by rfl)) ?_
              refine wS_bs (enc := encI) ([x18] : List (Int)) [.int .i64 (x18)] (d := 135) (t := 24) (T := 2) (n := 1) (ps := [(0, .int .i64 (x18))]) (by kernel_rfl) el24 encI_ok (by rfl) (by omega) (by omega) (by kernel_rfl) (by rfl) ?_
              intro b5 w20 G8 F54 hc12
              have D13 : Dj [b1] [b5] := Dj.of F50.low (low1 G8)
              have D14 : Dj (fp2 ++ fr2) [b5] := Dj.of F51.low (low1 G8)
              have D15 : Dj fp4 [b5] := Dj.of F52.low (low1 G8)
              have D16 : Dj fp7 [b5] := Dj.of F53.low (low1 G8)
              replace F46 := F46.chg hc12 Dj.nil
              replace F47 := F47.chg hc12 Dj.nil
              replace F48 := F48.chg hc12 Dj.nil
              replace F49 := F49.chg hc12 notNil
              replace F50 := F50.chg hc12 Dj.nil
              replace F51 := F51.chg hc12 Dj.nil
              replace F52 := F52.chg hc12 Dj.nil
              replace F53 := F53.chg hc12 Dj.nil
              replace hB := hB.inS hc12 inNil
              replace G8 := Nat.le_trans hZ G8
              replace G8 := low1 G8
              replace hZ := Nat.le_trans hZ hc12.size
              obtain ⟨_, hk2, hm⟩ := bindE hm
              replace hk2 := apE hk2
              refine wS_append (enc := encI) (l := (l13 : List (Int))) (l2 := (([x18] : List (Int)) : List (Int))) (d := 136) (t := 24) (T := 2) (A := A8) (A2 := (some ⟨b5, 0, none⟩)) (cap := cap8) (cap2 := 1) (by kernel_rfl) el24 encI_ok F53 (F54.sl encI_ok) (by rfl) hk2 ?_
              intro w21 fp9 A10 cap10 F55 hc13 hp1
              have G9 := low_ap G7 hZ hp1
              have D17 : Dj [b1] fp9 := Dj.ap D10 F50.low hp1
              have D18 : Dj (fp2 ++ fr2) fp9 := Dj.ap D11 F51.low hp1
              have D19 : Dj fp4 fp9 := Dj.ap D12 F52.low hp1
              have D20 : Dj [b5] fp9 := Dj.ap (D16).symm F54.low hp1
              replace F46 := F46.chg hc13 (Dj.of L0_0 G7)
              replace F47 := F47.chg hc13 (Dj.of L0_1 G7)
              replace F48 := F48.chg hc13 (Dj.of L0_2 G7)
              replace F49 := F49.chg hc13 (dj1 (Dj.of L0 G7))
              replace F50 := F50.chg hc13 D10
              replace F51 := F51.chg hc13 D11
              replace F52 := F52.chg hc13 D12
              replace F54 := F54.chg hc13 (D16).symm
              replace hB := hB.inS hc13 (inLow G7)
              replace hZ := Nat.le_trans hZ hc13.size
              refine wS_pure 1 [(15, .slice A10 (l13 ++ (([x18] : List (Int)))).length cap10)] (by kernel_rfl) ?_
              refine wS_end (by rfl) ?_
              have hq : (some (l13 ++ (([x18] : List (Int)))) : Option ((List (Int)))) = some _ := hm
              replace hq := someE hq
              subst hq
              exact eX_J (fun hst => ⟨l13 ++ (([x18] : List (Int))), A10, cap10, fp9, rfl, Fr.of hst (by kernel_rfl), F46, F47, F48, F49, F50, F51, F52, F55, G9, D17, D18, D19, hB, hZ⟩)
             ·have hm := condF hb14 hm
              refine cW_skip ?_
              have hq : (some l13 : Option ((List (Int)))) = some _ := hm
              replace hq := someE hq
              subst hq
              exact eX_J (fun hst => ⟨l13, A8, cap8, fp7, rfl, Fr.of hst (by kernel_rfl), F46, F47, F48, F49, F50, F51, F52, F53, G7, D10, D11, D12, hB, hZ⟩)
            ·rintro a' w22 ⟨l14, A9, cap9, fp8, hJ, hF9, F56, F57, F58, F59, F60, F61, F62, F63, G10, D21, D22, D23, hB, hZ⟩
             subst hJ
             refine Fr.goX hF9 (by kernel_rfl) ?_
             refine eX_block ?_
             refine eX_then ?_
             refine cW_region ?_
             refine wS_pure 3 [(16, .int .i64 (wr (x17 + 1))), (120, .int .i64 (wr (x17 + 1))), (119, .int .i64 (x17))] (by kernel_rfl) ?_
             refine wS_end (by rfl) ?_
             have hq : (some (Ctl.next ((l14, wr (x17 + 1)))) : Option (Ctl ((List (Int)) × Int) ((List (Int))))) = some _ := hm
             replace hq := someE hq
             subst hq
             exact eX_next hx14 (fun hst => ⟨l14, A9, cap9, fp8, wr (x17 + 1), rfl, Fr.of hst (by kernel_rfl), F56, F57, F58, F59, F60, F61, F62, F63, G10, D21, D22, D23, hB, hZ⟩)
           ·have hm := condF hb13 hm
            refine cW_exit ?_
            refine eX_then_exit ?_
            have hq : (some (Ctl.out l13) : Option (Ctl ((List (Int)) × Int) ((List (Int))))) = some _ := hm
            replace hq := someE hq
            subst hq
            refine eX_outX hx14 (fun hr8 => ?_)
            replace hr8 := hr8.symm
            subst hr8
            refine eX_block_hit ?_
            exact eX_J (fun hst => ⟨l13, A8, cap8, fp7, rfl, Fr.of hst (by kernel_rfl), F46, F47, F48, F49, F50, F51, F52, F53, G7, D10, D11, D12, hB, hZ⟩)
          ·rintro a' w23 ⟨l12, A7, cap7, fp6, hJ, hF10, F64, F65, F66, F67, F68, F69, F70, F71, G11, D24, D25, D26, hB, hZ⟩
           subst hJ
           refine Fr.goX hF10 (by kernel_rfl) ?_
           refine eX_then ?_
           refine cW_seq ?_
           refine cW_region ?_
           refine wS_pure 3 [(139, .bool (x12 == 0)), (138, .bool (x12 == 0)), (137, .int .i64 (x12))] (by kernel_rfl) ?_
           refine wS_bool (x12 == 0) (fun hb15 => ?_) (fun hb15 => ?_)
           ·have hm := condT hb15 hm
            rewrite [hb15]
            refine wS_pure 4 [(143, .bool (true)), (142, undef), (141, undef), (140, undef)] (by kernel_rfl) ?_
            refine wS_end (by rfl) ?_
            refine eX_then ?_
            refine cW_cond_t (by kernel_rfl) ?_
            refine cW_seq ?_
            refine cW_region ?_
            refine wS_pure 2 [(12, .slice A7 (l12).length cap7), (144, .slice A7 (l12).length cap7)] (by kernel_rfl) ?_
            refine wS_end (by rfl) ?_
            refine eX_then ?_
            refine cW_region ?_
            refine wS_pure 2 [(13, .int .i64 (x13)), (145, .int .i64 (x13))] (by kernel_rfl) ?_
            refine wS_end (by rfl) ?_
            have hq : (some ((l12, x13)) : Option ((List (Int)) × Int)) = some _ := hm
            replace hq := someE hq
            subst hq
            exact eX_J (fun hst => ⟨l12, A7, cap7, fp6, x13, rfl, Fr.of hst (by kernel_rfl), F64, F65, F66, F67, F68, F69, F71, G11, D24, D25, hB, hZ⟩)
           ·have hm := condF hb15 hm
            rewrite [hb15]
            refine wS_pure 2 [(141, .slice A5 (l10).length cap5), (140, .slice A7 (l12).length cap7)] (by kernel_rfl) ?_
            obtain ⟨y4, hy4, hm⟩ := bindE hm
            refine wS_calls (d := 142) (f := 97) (vs := [.slice A7 (l12).length cap7, .slice A5 (l10).length cap5]) (by kernel_rfl) ent97 (c_spec_l03Less hy4 (F71.sl encI_ok) (F70.sl encI_ok)) ?_
            rintro _ w24 ⟨rfl, hc14⟩
            replace F64 := F64.chg hc14 Dj.nil
            replace F65 := F65.chg hc14 Dj.nil
            replace F66 := F66.chg hc14 Dj.nil
            replace F67 := F67.chg hc14 notNil
            replace F68 := F68.chg hc14 Dj.nil
            replace F69 := F69.chg hc14 Dj.nil
            replace F70 := F70.chg hc14 Dj.nil
            replace F71 := F71.chg hc14 Dj.nil
            replace hB := hB.inS hc14 inNil
            replace hZ := Nat.le_trans hZ hc14.size
            refine ⟨.bool (y4), rfl, ?_⟩
            refine wS_pure 1 [(143, .bool (y4))] (by kernel_rfl) ?_
            refine wS_end (by rfl) ?_
            refine eX_then ?_
            refine cW_cond (t := y4) (by kernel_rfl) (fun hb16 => ?_) (fun hb16 => ?_)
            ·have hm := condT hb16 hm
             refine cW_seq ?_
             refine cW_region ?_
             refine wS_pure 2 [(12, .slice A7 (l12).length cap7), (144, .slice A7 (l12).length cap7)] (by kernel_rfl) ?_
             refine wS_end (by rfl) ?_
             refine eX_then ?_
             refine cW_region ?_
             refine wS_pure 2 [(13, .int .i64 (x13)), (145, .int .i64 (x13))] (by kernel_rfl) ?_
             refine wS_end (by rfl) ?_
             have hq : (some ((l12, x13)) : Option ((List (Int)) × Int)) = some _ := hm
             replace hq := someE hq
             subst hq
             exact eX_J (fun hst => ⟨l12, A7, cap7, fp6, x13, rfl, Fr.of hst (by kernel_rfl), F64, F65, F66, F67, F68, F69, F71, G11, D24, D25, hB, hZ⟩)
            ·have hm := condF hb16 hm
             refine cW_skip ?_
             have hq : (some ((l10, x12)) : Option ((List (Int)) × Int)) = some _ := hm
             replace hq := someE hq
             subst hq
             exact eX_J (fun hst => ⟨l10, A5, cap5, fp4, x12, rfl, Fr.of hst (by kernel_rfl), F64, F65, F66, F67, F68, F69, F70, G5, D5, D6, hB, hZ⟩)
         ·rintro a' w25 ⟨l11, A6, cap6, fp5, x16, hJ, hF11, F72, F73, F74, F75, F76, F77, F78, G12, D27, D28, hB, hZ⟩
          subst hJ
          refine Fr.goX hF11 (by kernel_rfl) ?_
          refine eX_block ?_
          refine eX_then ?_
          refine cW_region ?_
          refine wS_pure 5 [(14, .int .i64 (andI (wr (x13 - 1)) x10)), (95, .int .i64 (andI (wr (x13 - 1)) x10)), (94, .int .i64 (x10)), (93, .int .i64 (wr (x13 - 1))), (92, .int .i64 (x13))] (by kernel_rfl) ?_
          refine wS_end (by rfl) ?_
          have hq : (some (Ctl.next ((l11, x16, andI (wr (x13 - 1)) x10))) : Option (Ctl ((List (Int)) × Int × Int) ((List (Int)) × Int))) = some _ := hm
          replace hq := someE hq
          subst hq
          exact eX_next hx11 (fun hst => ⟨l11, A6, cap6, fp5, x16, andI (wr (x13 - 1)) x10, rfl, Fr.of hst (by kernel_rfl), F72, F73, F74, F75, F76, F77, F78, G12, D27, D28, hB, hZ⟩)
      ·have hm := condF hb10 hm
       refine cW_exit ?_
       refine eX_then_exit ?_
       have hq : (some (Ctl.out ((l10, x12))) : Option (Ctl ((List (Int)) × Int × Int) ((List (Int)) × Int))) = some _ := hm
       replace hq := someE hq
       subst hq
       refine eX_outX hx11 (fun hr9 => ?_)
       replace hr9 := hr9.symm
       subst hr9
       refine eX_block_hit ?_
       exact eX_J (fun hst => ⟨l10, A5, cap5, fp4, x12, rfl, Fr.of hst (by kernel_rfl), F38, F39, F40, F41, F42, F43, F44, G5, D5, D6, hB, hZ⟩)
     ·rintro a' w26 ⟨l9, A4, cap4, fp3, x11, hJ, hF12, F79, F80, F81, F82, F83, F84, F85, G13, D29, D30, hB, hZ⟩
      subst hJ
      refine Fr.goX hF12 (by kernel_rfl) ?_
      refine eX_then ?_
      refine cW_seq ?_
      refine cW_region ?_
      refine wS_pure 2 [(147, .slice A4 (l9).length cap4), (146, .slice A3 (l8).length cap3)] (by kernel_rfl) ?_
      refine wS_row1 (k := 1) (enc := encI) (l := l9) (d := 148) (t := 28) (T := 24) (B := A4) (c := cap4) (by kernel_rfl) el28 F85 ?_
      intro b6 w27 G14 F86 hc15
      have D31 : Dj [b1] ([b6] ++ fp3) := Dj.app (Dj.of F83.low (low1 G14)) D29
      have D32 : Dj (fp2 ++ fr2) ([b6] ++ fp3) := Dj.app (Dj.of F84.low (low1 G14)) D30
      replace F79 := F79.chg hc15 Dj.nil
      replace F80 := F80.chg hc15 Dj.nil
      replace F81 := F81.chg hc15 Dj.nil
      replace F82 := F82.chg hc15 notNil
      replace F83 := F83.chg hc15 Dj.nil
      replace F84 := F84.chg hc15 Dj.nil
      replace F85 := F85.chg hc15 Dj.nil
      replace hB := hB.inS hc15 inNil
      replace G14 := Nat.le_trans hZ G14
      replace G14 := lowApp (low1 G14) G13
      replace hZ := Nat.le_trans hZ hc15.size
      replace F85 := (F85.sl encI_ok)
      obtain ⟨_, hk3, hm⟩ := bindE hm
      replace hk3 := apE hk3
      refine wS_appendR (k := 1) (enc := encI) (ll := (l8 : List (List (Int)))) (ll2 := (([l9] : List (List (Int))) : List (List (Int)))) (d := 149) (t := 28) (T := 24) (A := A3) (A2 := (some ⟨b6, 0, none⟩)) (cap := cap3) (cap2 := 1) (by kernel_rfl) el28 F84 F86 (by rfl) D32 hk3 ?_
      intro w28 fp10 A11 cap11 F87 hc16 hp2
      have G15 := lowApp (low_ap (low_inl G3) hZ hp2) (lowApp (low_inr G3) (low_inr G14))
      have D33 : Dj [b1] (fp10 ++ (fr2 ++ fp3)) := Dj.app (Dj.ap (Dj.inl D2) F83.low hp2) (Dj.app (Dj.inr D2) (Dj.inr D31))
      replace F79 := F79.chg hc16 (Dj.inl (Dj.of L0_0 G3))
      replace F80 := F80.chg hc16 (Dj.inl (Dj.of L0_1 G3))
      replace F81 := F81.chg hc16 (Dj.inl (Dj.of L0_2 G3))
      replace F82 := F82.chg hc16 (dj1 (Dj.inl (Dj.of L0 G3)))
      replace F83 := F83.chg hc16 (Dj.inl D2)
      replace hB := hB.inS hc16 (memS_inl (inLow G3))
      replace hZ := Nat.le_trans hZ hc16.size
      refine wS_pure 1 [(10, .slice A11 (l8 ++ (([l9] : List (List (Int))))).length cap11)] (by kernel_rfl) ?_
      refine wS_end (by rfl) ?_
      refine eX_then ?_
      refine cW_region ?_
      refine wS_pure 4 [(11, .int .i64 (andNI x10 x11)), (152, .int .i64 (andNI x10 x11)), (151, .int .i64 (x11)), (150, .int .i64 (x10))] (by kernel_rfl) ?_
      refine wS_end (by rfl) ?_
      refine eX_block ?_
      have hq : (some (Ctl.next ((l8 ++ (([l9] : List (List (Int)))), andNI x10 x11))) : Option (Ctl ((List (List (Int))) × Int) ((List (List (Int)))))) = some _ := hm
      replace hq := someE hq
      subst hq
      exact eX_next hx10 (fun hst => ⟨l8 ++ (([l9] : List (List (Int)))), A11, cap11, fp10, (fr2 ++ fp3), andNI x10 x11, rfl, Fr.of hst (by kernel_rfl), F79, F80, F81, F82, F83, F87, G15, D33, hB, hZ⟩)
    ·have hm := condF hb9 hm
     refine cW_exit ?_
     refine eX_then_exit ?_
     have hq : (some (Ctl.out l8) : Option (Ctl ((List (List (Int))) × Int) ((List (List (Int)))))) = some _ := hm
     replace hq := someE hq
     subst hq
     refine eX_outX hx10 (fun hr10 => ?_)
     replace hr10 := hr10.symm
     subst hr10
     refine eX_block_hit ?_
     exact eX_J (fun hst => ⟨l8, A3, cap3, fp2, fr2, rfl, Fr.of hst (by kernel_rfl), F36, G3, hB, hZ⟩)
   ·rintro a' w29 ⟨l7, A1, cap1, fp1, fr1, hJ, hF13, F88, G16, hB, hZ⟩
    subst hJ
    refine Fr.goX hF13 (by kernel_rfl) ?_
    refine eX_then ?_
    refine cW_seq ?_
    refine cW_region ?_
    refine wS_pure 3 [(3, .bool (true)), (2, .slice A1 (l7).length cap1), (153, .slice A1 (l7).length cap1)] (by kernel_rfl) ?_
    refine wS_end (by rfl) ?_
    refine eX_then ?_
    refine cW_ret ?_
    have hq : (some ((l7, true)) : Option ((List (List (Int))) × (Bool))) = some _ := hm
    replace hq := someE hq
    subst hq
    refine eX_ret (vs := [.slice A1 (l7).length cap1, .bool (true)]) [.tmp 2, .tmp 3] (by rfl) ⟨by (show lkE _ _ _ = _); kernel_rfl, ⟨by (show lkE _ _ _ = _); kernel_rfl, trivial⟩⟩ ?_
    exact ⟨A1, cap1, fp1, fr1, rfl, F88, G16, hB⟩

set_option maxRecDepth 100000 in
/-- laws.toInt64S -/
theorem c_laws_toInt64S {w0 : World} {l0 : List (Int)} {A0 : Option Addr} {cap0 : Nat} {fp0 : List Nat} {r : (List (Int))} (hm : m_laws_toInt64S l0 = some r) (F0 : Sl 1 encI w0 fp0 A0 l0) :
  Calls Tryd.prog 65 #[.slice A0 (l0).length cap0] w0 fun e w' => ∃ A100 cap100 fp100, e = .returned (.slice A100 (r).length cap100) ∧ Ow 1 encI 2 w' fp100 A100 cap100 r ∧ (∀ x ∈ fp100, w0.heap.size ≤ x) ∧ Chg [] w0 w' := by
 have L0 := F0.low
 have hB : Chg [] w0 w0 := Chg.refl _ _
 have hZ := Nat.le_refl w0.heap.size
 unfold m_laws_toInt64S at hm
 refine enterE (N := 22) Tryd.func65 (by rfl) Tryd.ntmps65 (by simp) [(0, .slice A0 (l0).length cap0)] (by rfl) (by kernel_rfl) (fun a => ?_)
 refine cW_seq ?_
 refine cW_region ?_
 refine wS_pure 1 [(2, .slice none 0 0)] (by kernel_rfl) ?_
 refine wS_end (by rfl) ?_
 refine eX_then ?_
 refine cW_seq ?_
 refine cW_region ?_
 refine wS_pure 2 [(6, .int .i64 (((l0).length : Int))), (5, .slice A0 (l0).length cap0)] (by kernel_rfl) ?_
 obtain ⟨_, hk1, hm⟩ := bindE hm
 replace hk1 := mkE hk1
 refine wS_make (enc := encI) (x0 := (0 : Int)) (d := 7) (t := 24) (T := 2) (k1 := .i64) (k2 := .i64) (m := ((l0).length : Int)) (by kernel_rfl) el24 encI_ok (by rfl) hk1.1 hk1.2 ?_
 intro b1 w1 G1 F1 hc1
 replace F0 := F0.chg hc1 Dj.nil
 replace hB := hB.inS hc1 inNil
 replace G1 := Nat.le_trans hZ G1
 replace G1 := low1 G1
 replace hZ := Nat.le_trans hZ hc1.size
 refine wS_pure 1 [(3, .slice (some ⟨b1, 0, none⟩) (List.replicate (Int.toNat (((l0).length : Int))) ((0 : Int))).length (Int.toNat (((l0).length : Int))))] (by kernel_rfl) ?_
 refine wS_end (by rfl) ?_
 refine eX_then ?_
 refine cW_seq ?_
 refine cW_seq ?_
 refine cW_region ?_
 refine wS_pure 1 [(4, .int .i64 (0))] (by kernel_rfl) ?_
 refine wS_end (by rfl) ?_
 refine eX_then ?_
 obtain ⟨r1, hr1, hm⟩ := bindE hm
 have hm1 := hm
 refine cW_cut (fun a' w' => ∃ l1 : List (Int), l1 = r1 ∧ Fr 22 [(3, .slice (some ⟨b1, 0, none⟩) (l1).length (Int.toNat (((l0).length : Int))))] a' ∧ Ow 1 encI 2 w' [b1] (some ⟨b1, 0, none⟩) (Int.toNat (((l0).length : Int))) l1 ∧ Chg [] w0 w' ∧ w0.heap.size ≤ w'.heap.size) ?_ ?_
 ·refine cW_block ?_
  refine cW_loop _ (fun (s1 : Int × (List (Int))) a' w' => ∃ x1 : Int, ∃ l2 : List (Int), (x1, l2) = s1 ∧ Fr 22 [(0, .slice A0 (l0).length cap0), (3, .slice (some ⟨b1, 0, none⟩) (l2).length (Int.toNat (((l0).length : Int)))), (4, .int .i64 (x1))] a' ∧ Sl 1 encI w' fp0 A0 l0 ∧ Ow 1 encI 2 w' [b1] (some ⟨b1, 0, none⟩) (Int.toNat (((l0).length : Int))) l2 ∧ Chg [] w0 w' ∧ w0.heap.size ≤ w'.heap.size) hr1 (fun hst => ⟨0, List.replicate (Int.toNat (((l0).length : Int))) ((0 : Int)), rfl, Fr.of hst (by kernel_rfl), F0, F1, hB, hZ⟩) ?_
  rintro _ c1 a' w2 ⟨x1, l2, rfl, hF1, F2, F3, hB, hZ⟩ hx1
  refine Fr.goOn hF1 (by kernel_rfl) ?_
  have hm := hx1
  unfold m_laws_toInt64S_s1 at hm
  refine cW_seq ?_
  refine cW_seq ?_
  refine cW_region ?_
  refine wS_pure 4 [(11, .bool (decide (x1 < (((l0).length : Int))))), (10, .int .i64 (((l0).length : Int))), (9, .slice A0 (l0).length cap0), (8, .int .i64 (x1))] (by kernel_rfl) ?_
  refine wS_end (by rfl) ?_
  refine eX_then ?_
  refine cW_cond (t := decide (x1 < (((l0).length : Int)))) (by kernel_rfl) (fun hb1 => ?_) (fun hb1 => ?_)
  ·have hm := condT hb1 hm
   refine cW_skip ?_
   refine eX_then ?_
   refine cW_seq ?_
   refine cW_block ?_
   refine cW_region ?_
   refine wS_pure 4 [(17, .int .i64 (x1)), (16, .slice A0 (l0).length cap0), (15, .int .i64 (x1)), (14, .slice (some ⟨b1, 0, none⟩) (l2).length (Int.toNat (((l0).length : Int))))] (by kernel_rfl) ?_
   obtain ⟨x2, hx2, hm⟩ := bindE hm
   refine wS_idx (d := 18) (T := 24) (A := A0) (n := (l0).length) (cap := cap0) (kd := .i64) (m := x1) (by kernel_rfl) sl24 (F2.is hx2) ?_
   refine wS_load1 (d := 19) (T := 2) (ad := (elA A0 1 (x1) 0)) (v := .int .i64 (x2)) (by kernel_rfl) vt2 (Sl.cell F2 hx2 0 (by rfl)) ?_
   obtain ⟨x3, hx3, hm⟩ := bindE hm
   refine wS_idx (d := 20) (T := 24) (A := (some ⟨b1, 0, none⟩)) (n := (l2).length) (cap := (Int.toNat (((l0).length : Int)))) (kd := .i64) (m := x1) (by kernel_rfl) sl24 ((F3.sl encI_ok).is hx3) ?_
   refine wS_storeEl (x := x3) x2 (T := 2) (U := 2) (cap := (Int.toNat (((l0).length : Int)))) (j := 0) (A := (some ⟨b1, 0, none⟩)) (v := .int .i64 (x2)) (vs := [.int .i64 (x2)]) (m := x1) (by kernel_rfl) (by rfl) sz2 (by rfl) encI_ok F3 hx3 (by simp only [List.length_cons, List.length_nil]; omega) (by rfl) ?_
   intro w3 F4 hc2
   replace F2 := F2.chg hc2 (Dj.of L0 G1)
   replace hB := hB.inS hc2 (inLow G1)
   replace hZ := Nat.le_trans hZ hc2.size
   clear F3
   rewrite [show (l2).length = (l2.set (Int.toNat x1) x2).length from (List.length_set ..).symm]
   refine wS_end (by rfl) ?_
   refine eX_block ?_
   refine eX_then ?_
   refine cW_region ?_
   refine wS_pure 3 [(4, .int .i64 (wr (x1 + 1))), (13, .int .i64 (wr (x1 + 1))), (12, .int .i64 (x1))] (by kernel_rfl) ?_
   refine wS_end (by rfl) ?_
   have hq : (some (Ctl.next ((wr (x1 + 1), l2.set (Int.toNat x1) x2))) : Option (Ctl (Int × (List (Int))) ((List (Int))))) = some _ := hm
   replace hq := someE hq
   subst hq
   exact eX_next hx1 (fun hst => ⟨wr (x1 + 1), l2.set (Int.toNat x1) x2, rfl, Fr.of hst (by kernel_rfl), F2, F4, hB, hZ⟩)
  ·have hm := condF hb1 hm
   refine cW_exit ?_
   refine eX_then_exit ?_
   have hq : (some (Ctl.out l2) : Option (Ctl (Int × (List (Int))) ((List (Int))))) = some _ := hm
   replace hq := someE hq
   subst hq
   refine eX_outX hx1 (fun hr2 => ?_)
   replace hr2 := hr2.symm
   subst hr2
   refine eX_block_hit ?_
   exact eX_J (fun hst => ⟨l2, rfl, Fr.of hst (by kernel_rfl), F3, hB, hZ⟩)
 ·rintro a' w4 ⟨l1, hJ, hF2, F5, hB, hZ⟩
  subst hJ
  refine Fr.goX hF2 (by kernel_rfl) ?_
  refine eX_then ?_
  refine cW_seq ?_
  refine cW_region ?_
  refine wS_pure 2 [(2, .slice (some ⟨b1, 0, none⟩) (l1).length (Int.toNat (((l0).length : Int)))), (21, .slice (some ⟨b1, 0, none⟩) (l1).length (Int.toNat (((l0).length : Int))))] (by kernel_rfl) ?_
  refine wS_end (by rfl) ?_
  refine eX_then ?_
  refine cW_ret ?_
  have hq : (some l1 : Option ((List (Int)))) = some _ := hm
  replace hq := someE hq
  subst hq
  refine eX_ret (vs := [.slice (some ⟨b1, 0, none⟩) (l1).length (Int.toNat (((l0).length : Int)))]) [.tmp 2] (by rfl) ⟨by (show lkE _ _ _ = _); kernel_rfl, trivial⟩ ?_
  exact ⟨(some ⟨b1, 0, none⟩), (Int.toNat (((l0).length : Int))), [b1], rfl, F5, G1, hB⟩

set_option maxRecDepth 100000 in
/-- laws.toChannel -/
theorem c_laws_toChannel {w0 : World} {l0_0 : List (Int)} {A0_0 : Option Addr} {cap0_0 : Nat} {fp0_0 : List Nat} {l0_1 : List (Int)} {A0_1 : Option Addr} {cap0_1 : Nat} {fp0_1 : List Nat} {r : ((List (Int)) × (List (Int)))} (hm : m_laws_toChannel l0_0 l0_1 = some r) (F0_0 : Sl 1 encI w0 fp0_0 A0_0 l0_0) (F0_1 : Sl 1 encI w0 fp0_1 A0_1 l0_1) :
  Calls Tryd.prog 22 #[.agg #[.slice A0_0 (l0_0).length cap0_0, .slice A0_1 (l0_1).length cap0_1]] w0 fun e w' => ∃ A100_0 cap100_0 fp100_0, ∃ A100_1 cap100_1 fp100_1, e = .returned (.agg #[.slice A100_0 (r.1).length cap100_0, .slice A100_1 (r.2).length cap100_1]) ∧ Ow 1 encI 2 w' fp100_0 A100_0 cap100_0 r.1 ∧ (∀ x ∈ fp100_0, w0.heap.size ≤ x) ∧ Ow 1 encI 2 w' fp100_1 A100_1 cap100_1 r.2 ∧ (∀ x ∈ fp100_1, w0.heap.size ≤ x) ∧ Dj fp100_0 fp100_1 ∧ Chg [] w0 w' := by
 have L0_0 := F0_0.low
 have L0_1 := F0_1.low
 have hB : Chg [] w0 w0 := Chg.refl _ _
 have hZ := Nat.le_refl w0.heap.size
 unfold m_laws_toChannel at hm
 refine enterE (N := 13) Tryd.func22 (by rfl) Tryd.ntmps22 (by simp) [(0, .agg #[.slice A0_0 (l0_0).length cap0_0, .slice A0_1 (l0_1).length cap0_1])] (by rfl) (by kernel_rfl) (fun a => ?_)
 refine cW_seq ?_
 refine cW_region ?_
 refine wS_box (d := 1) (T := 39) (x := .agg #[.slice A0_0 (l0_0).length cap0_0, .slice A0_1 (l0_1).length cap0_1]) (by kernel_rfl) ?_
 intro b1 w1 G1 F1 hc1
 replace F1 : Cl w1 b1 39 [.slice A0_0 (l0_0).length cap0_0, .slice A0_1 (l0_1).length cap0_1] := F1
 replace F0_0 := F0_0.chg hc1 Dj.nil
 replace F0_1 := F0_1.chg hc1 Dj.nil
 replace hB := hB.inS hc1 inNil
 replace G1 := Nat.le_trans hZ G1
 replace hZ := Nat.le_trans hZ hc1.size
 refine wS_alloc (d := 2) (T := 26) (z := .agg #[.slice none 0 0, .slice none 0 0]) (by kernel_rfl) (by kernel_rfl) ?_
 intro b2 w2 G2 F2 hc2
 replace F2 : Cl w2 b2 26 [.slice none 0 0, .slice none 0 0] := F2
 have D1 : Dj [b1] [b2] := Dj.of (lt1 F1.lt) (low1 G2)
 replace F0_0 := F0_0.chg hc2 Dj.nil
 replace F0_1 := F0_1.chg hc2 Dj.nil
 replace F1 := F1.chg hc2 notNil
 replace hB := hB.inS hc2 inNil
 replace G2 := Nat.le_trans hZ G2
 replace hZ := Nat.le_trans hZ hc2.size
 refine wS_end (by rfl) ?_
 refine eX_then ?_
 refine cW_seq ?_
 refine cW_region ?_
 refine wS_alloc (d := 3) (T := 26) (z := .agg #[.slice none 0 0, .slice none 0 0]) (by kernel_rfl) (by kernel_rfl) ?_
 intro b3 w3 G3 F3 hc3
 replace F3 : Cl w3 b3 26 [.slice none 0 0, .slice none 0 0] := F3
 have D2 : Dj [b1] [b3] := Dj.of (lt1 F1.lt) (low1 G3)
 have D3 : Dj [b2] [b3] := Dj.of (lt1 F2.lt) (low1 G3)
 replace F0_0 := F0_0.chg hc3 Dj.nil
 replace F0_1 := F0_1.chg hc3 Dj.nil
 replace F1 := F1.chg hc3 notNil
 replace F2 := F2.chg hc3 notNil
 replace hB := hB.inS hc3 inNil
 replace G3 := Nat.le_trans hZ G3
 replace hZ := Nat.le_trans hZ hc3.size
 refine wS_end (by rfl) ?_
 refine eX_then ?_
 refine cW_seq ?_
 refine cW_region ?_
 refine wS_pure 1 [(4, .pointer (some ⟨b1, 0, none⟩))] (by kernel_rfl) ?_
 refine wS_load1 (d := 5) (T := 24) (ad := ⟨b1, 0, none⟩) (v := .slice A0_0 (l0_0).length cap0_0) (by kernel_rfl) vt24 ((F1).cell 0) ?_
 obtain ⟨y1, hy1, hm⟩ := bindE hm
 refine wS_calls (d := 6) (f := 65) (vs := [.slice A0_0 (l0_0).length cap0_0]) (by kernel_rfl) ent65 (c_laws_toInt64S hy1 F0_0) ?_
 rintro _ w4 ⟨A1, cap1, fp1, rfl, F4, G4, hc4⟩
 have D4 : Dj [b1] fp1 := Dj.of (lt1 F1.lt) G4
 have D5 : Dj [b2] fp1 := Dj.of (lt1 F2.lt) G4
 have D6 : Dj [b3] fp1 := Dj.of (lt1 F3.lt) G4
 replace F0_0 := F0_0.chg hc4 Dj.nil
 replace F0_1 := F0_1.chg hc4 Dj.nil
 replace F1 := F1.chg hc4 notNil
 replace F2 := F2.chg hc4 notNil
 replace F3 := F3.chg hc4 notNil
 replace hB := hB.inS hc4 inNil
 replace G4 := low_le hZ G4
 replace hZ := Nat.le_trans hZ hc4.size
 refine ⟨.slice A1 (y1).length cap1, rfl, ?_⟩
 refine wS_pure 1 [(7, .pointer (some ⟨b3, 0, none⟩))] (by kernel_rfl) ?_
 refine wS_store (T := 24) (g := b3) (o := 0) (ad := ⟨b3, 0, none⟩) (v := .slice A1 (y1).length cap1) (vs := [.slice A1 (y1).length cap1]) (by kernel_rfl) (by rfl) sz24 (by rfl) (by rfl) F3 (by simp only [List.length_cons, List.length_nil]; omega) ?_
 intro w5 F5 hc5
 replace F0_0 := F0_0.chg hc5 (Dj.of L0_0 (low1 G3))
 replace F0_1 := F0_1.chg hc5 (Dj.of L0_1 (low1 G3))
 replace F1 := F1.chg hc5 (dj1 D2)
 replace F2 := F2.chg hc5 (dj1 D3)
 replace F4 := F4.chg hc5 (D6).symm
 replace hB := hB.inS hc5 (inLow (low1 G3))
 replace hZ := Nat.le_trans hZ hc5.size
 replace F5 : Cl w5 b3 26 [.slice A1 (y1).length cap1, .slice none 0 0] := F5
 clear F3
 refine wS_end (by rfl) ?_
 refine eX_then ?_
 refine cW_seq ?_
 refine cW_region ?_
 refine wS_pure 1 [(8, .pointer (some ⟨b1, 1, none⟩))] (by kernel_rfl) ?_
 refine wS_load1 (d := 9) (T := 24) (ad := ⟨b1, 1, none⟩) (v := .slice A0_1 (l0_1).length cap0_1) (by kernel_rfl) vt24 ((F1).cell 1) ?_
 obtain ⟨y2, hy2, hm⟩ := bindE hm
 refine wS_calls (d := 10) (f := 65) (vs := [.slice A0_1 (l0_1).length cap0_1]) (by kernel_rfl) ent65 (c_laws_toInt64S hy2 F0_1) ?_
 rintro _ w6 ⟨A2, cap2, fp2, rfl, F6, G5, hc6⟩
 have D7 : Dj [b1] fp2 := Dj.of (lt1 F1.lt) G5
 have D8 : Dj [b2] fp2 := Dj.of (lt1 F2.lt) G5
 have D9 : Dj [b3] fp2 := Dj.of (lt1 F5.lt) G5
 have D10 : Dj fp1 fp2 := Dj.of F4.low G5
 replace F0_0 := F0_0.chg hc6 Dj.nil
 replace F0_1 := F0_1.chg hc6 Dj.nil
 replace F1 := F1.chg hc6 notNil
 replace F2 := F2.chg hc6 notNil
 replace F5 := F5.chg hc6 notNil
 replace F4 := F4.chg hc6 Dj.nil
 replace hB := hB.inS hc6 inNil
 replace G5 := low_le hZ G5
 replace hZ := Nat.le_trans hZ hc6.size
 refine ⟨.slice A2 (y2).length cap2, rfl, ?_⟩
 refine wS_pure 1 [(11, .pointer (some ⟨b3, 1, none⟩))] (by kernel_rfl) ?_
 refine wS_store (T := 24) (g := b3) (o := 1) (ad := ⟨b3, 1, none⟩) (v := .slice A2 (y2).length cap2) (vs := [.slice A2 (y2).length cap2]) (by kernel_rfl) (by rfl) sz24 (by rfl) (by rfl) F5 (by simp only [List.length_cons, List.length_nil]; omega) ?_
 intro w7 F7 hc7
 replace F0_0 := F0_0.chg hc7 (Dj.of L0_0 (low1 G3))
 replace F0_1 := F0_1.chg hc7 (Dj.of L0_1 (low1 G3))
 replace F1 := F1.chg hc7 (dj1 D2)
 replace F2 := F2.chg hc7 (dj1 D3)
 replace F4 := F4.chg hc7 (D6).symm
 replace F6 := F6.chg hc7 (D9).symm
 replace hB := hB.inS hc7 (inLow (low1 G3))
 replace hZ := Nat.le_trans hZ hc7.size
 replace F7 : Cl w7 b3 26 [.slice A1 (y1).length cap1, .slice A2 (y2).length cap2] := F7
 clear F5
 refine wS_end (by rfl) ?_
 refine eX_then ?_
 refine cW_seq ?_
 refine cW_region ?_
 refine wS_loadA (d := 12) (T := 26) (ad := ⟨b3, 0, none⟩) (vs := [.slice A1 (y1).length cap1, .slice A2 (y2).length cap2]) (by kernel_rfl) vt26 (fun i u hu => box_cells F7 0 hu (by rfl)) ?_
 refine wS_store (T := 26) (g := b2) (o := 0) (ad := ⟨b2, 0, none⟩) (v := .agg #[.slice A1 (y1).length cap1, .slice A2 (y2).length cap2]) (vs := [.slice A1 (y1).length cap1, .slice A2 (y2).length cap2]) (by kernel_rfl) (by rfl) sz26 (by rfl) (by rfl) F2 (by simp only [List.length_cons, List.length_nil]; omega) ?_
 intro w8 F8 hc8
 replace F0_0 := F0_0.chg hc8 (Dj.of L0_0 (low1 G2))
 replace F0_1 := F0_1.chg hc8 (Dj.of L0_1 (low1 G2))
 replace F1 := F1.chg hc8 (dj1 D1)
 replace F7 := F7.chg hc8 (dj1 (D3).symm)
 replace F4 := F4.chg hc8 (D5).symm
 replace F6 := F6.chg hc8 (D8).symm
 replace hB := hB.inS hc8 (inLow (low1 G2))
 replace hZ := Nat.le_trans hZ hc8.size
 replace F8 : Cl w8 b2 26 [.slice A1 (y1).length cap1, .slice A2 (y2).length cap2] := F8
 clear F2
 refine wS_end (by rfl) ?_
 refine eX_then ?_
 refine cW_ret ?_
 have hq : (some ((y1, y2)) : Option (((List (Int)) × (List (Int))))) = some _ := hm
 replace hq := someE hq
 subst hq
 refine eX_ret (vs := [.agg #[.slice A1 (y1).length cap1, .slice A2 (y2).length cap2]]) [.cell 2 26] (by rfl) ⟨⟨⟨b2, 0, none⟩, by kernel_rfl, run_loadVarA (vs := [.slice A1 (y1).length cap1, .slice A2 (y2).length cap2]) vt26 (fun i u hu => by exact box_cells F8 0 hu (by rfl))⟩, trivial⟩ ?_
 exact ⟨A1, cap1, fp1, A2, cap2, fp2, rfl, F4, G4, F6, G5, D10, hB⟩

set_option maxRecDepth 100000 in
/-- laws.eqInt64S -/
theorem c_laws_eqInt64S {w0 : World} {l0 : List (Int)} {A0 : Option Addr} {cap0 : Nat} {fp0 : List Nat} {l1 : List (Int)} {A1 : Option Addr} {cap1 : Nat} {fp1 : List Nat} {r : (Bool)} (hm : m_laws_eqInt64S l0 l1 = some r) (F0 : Sl 1 encI w0 fp0 A0 l0) (F1 : Sl 1 encI w0 fp1 A1 l1) :
  Calls Tryd.prog 66 #[.slice A0 (l0).length cap0, .slice A1 (l1).length cap1] w0 fun e w' => e = .returned (.bool (r)) ∧ Chg [] w0 w' := by
 have L0 := F0.low
 have L1 := F1.low
 have hB : Chg [] w0 w0 := Chg.refl _ _
 have hZ := Nat.le_refl w0.heap.size
 unfold m_laws_eqInt64S at hm
 refine enterE (N := 26) Tryd.func66 (by rfl) Tryd.ntmps66 (by simp) [(0, .slice A0 (l0).length cap0), (1, .slice A1 (l1).length cap1)] (by rfl) (by kernel_rfl) (fun a => ?_)
 refine cW_seq ?_
 refine cW_region ?_
 refine wS_pure 1 [(4, .bool (false))] (by kernel_rfl) ?_
 refine wS_end (by rfl) ?_
 refine eX_then ?_
 refine cW_seq ?_
 refine cW_seq ?_
 refine cW_region ?_
 refine wS_pure 5 [(10, .bool ((((l0).length : Int)) != (((l1).length : Int)))), (9, .int .i64 (((l1).length : Int))), (8, .slice A1 (l1).length cap1), (7, .int .i64 (((l0).length : Int))), (6, .slice A0 (l0).length cap0)] (by kernel_rfl) ?_
 refine wS_end (by rfl) ?_
 refine eX_then ?_
 refine cW_cond (t := (((l0).length : Int)) != (((l1).length : Int))) (by kernel_rfl) (fun hb1 => ?_) (fun hb1 => ?_)
 ·have hm := condT hb1 hm
  refine cW_seq ?_
  refine cW_region ?_
  refine wS_pure 1 [(4, .bool (false))] (by kernel_rfl) ?_
  refine wS_end (by rfl) ?_
  refine eX_then ?_
  refine cW_ret ?_
  refine eX_then_ret ?_
  have hq : (some false : Option ((Bool))) = some _ := hm
  replace hq := someE hq
  subst hq
  refine eX_ret (vs := [.bool (false)]) [.tmp 4] (by rfl) ⟨by (show lkE _ _ _ = _); kernel_rfl, trivial⟩ ?_
  exact ⟨rfl, hB⟩
 ·have hm := condF hb1 hm
  refine cW_skip ?_
  refine eX_then ?_
  refine cW_seq ?_
  refine cW_seq ?_
  refine cW_region ?_
  refine wS_pure 1 [(5, .int .i64 (0))] (by kernel_rfl) ?_
  refine wS_end (by rfl) ?_
  refine eX_then ?_
  obtain ⟨r1, hr1, hm⟩ := bindE hm
  have hm1 := hm
  refine cW_cut (fun a' w' => Sum.inl (()) = r1 ∧ Fr 26 [] a' ∧ Chg [] w0 w' ∧ w0.heap.size ≤ w'.heap.size) ?_ ?_
  ·refine cW_block ?_
   refine cW_loop _ (fun (s1 : Int) a' w' => ∃ x1 : Int, x1 = s1 ∧ Fr 26 [(0, .slice A0 (l0).length cap0), (1, .slice A1 (l1).length cap1), (5, .int .i64 (x1))] a' ∧ Sl 1 encI w' fp0 A0 l0 ∧ Sl 1 encI w' fp1 A1 l1 ∧ Chg [] w0 w' ∧ w0.heap.size ≤ w'.heap.size) hr1 (fun hst => ⟨0, rfl, Fr.of hst (by kernel_rfl), F0, F1, hB, hZ⟩) ?_
   rintro _ c1 a' w1 ⟨x1, rfl, hF1, F2, F3, hB, hZ⟩ hx1
   refine Fr.goOn hF1 (by kernel_rfl) ?_
   have hm := hx1
   unfold m_laws_eqInt64S_s1 at hm
   refine cW_seq ?_
   refine cW_seq ?_
   refine cW_region ?_
   refine wS_pure 4 [(14, .bool (decide (x1 < (((l0).length : Int))))), (13, .int .i64 (((l0).length : Int))), (12, .slice A0 (l0).length cap0), (11, .int .i64 (x1))] (by kernel_rfl) ?_
   refine wS_end (by rfl) ?_
   refine eX_then ?_
   refine cW_cond (t := decide (x1 < (((l0).length : Int)))) (by kernel_rfl) (fun hb2 => ?_) (fun hb2 => ?_)
   ·have hm := condT hb2 hm
    refine cW_skip ?_
    refine eX_then ?_
    refine cW_seq ?_
    refine cW_block ?_
    refine cW_seq ?_
    refine cW_drawnTail [] 8 (by kernel_rfl) (by kernel_rfl) (fun w2 hc1 => ?_)
    replace F2 := F2.chg hc1 Dj.nil
    replace F3 := F3.chg hc1 Dj.nil
    replace hB := hB.inS hc1 inNil
    replace hZ := Nat.le_trans hZ hc1.size
    have hS := Chg.refl [] w2
    have Z1 := F2
    have Z2 := F3
    refine wH_take [0, 1] [1, 0] [(18, .int .i64 (x1)), (17, .slice A0 (l0).length cap0)] (by kernel_rfl) (qT (qT (qB (qT (qL (qB (qT (qT qZ)))))))) (by kernel_rfl) ?_
    obtain ⟨x2, hx2, hm⟩ := bindE hm
    refine wH_idx (i := 2) (d := 19) (T := 24) (A := A0) (n := (l0).length) (cap := cap0) (kd := .i64) (m := x1) (by kernel_rfl) (qT (qT (qB (qT (qL (qB (qT (qT qZ)))))))) (by kernel_rfl) (by kernel_rfl) sl24 (F2.is hx2) ?_
    refine wH_load1 (i := 3) (d := 20) (T := 2) (ad := (elA A0 1 (x1) 0)) (v := .int .i64 (x2)) (by kernel_rfl) (qT (qT (qB (qT (qL (qB (qT (qT qZ)))))))) (by kernel_rfl) (by kernel_rfl) vt2 (fun W hW => Sl.cell (Z1.chg hW Dj.nil) hx2 0 (by rfl)) ?_
    refine wH_take [4, 5] [5, 4, 3, 2, 1, 0] [(22, .int .i64 (x1)), (21, .slice A1 (l1).length cap1)] (by kernel_rfl) (qT (qT (qB (qT (qL (qB (qT (qT qZ)))))))) (by kernel_rfl) ?_
    obtain ⟨x3, hx3, hm⟩ := bindE hm
    refine wH_idx (i := 6) (d := 23) (T := 24) (A := A1) (n := (l1).length) (cap := cap1) (kd := .i64) (m := x1) (by kernel_rfl) (qT (qT (qB (qT (qL (qB (qT (qT qZ)))))))) (by kernel_rfl) (by kernel_rfl) sl24 (F3.is hx3) ?_
    refine wH_load1 (i := 7) (d := 24) (T := 2) (ad := (elA A1 1 (x1) 0)) (v := .int .i64 (x3)) (by kernel_rfl) (qT (qT (qB (qT (qL (qB (qT (qT qZ)))))))) (by kernel_rfl) (by kernel_rfl) vt2 (fun W hW => Sl.cell (Z2.chg hW Dj.nil) hx3 0 (by rfl)) ?_
    refine wH_done (by kernel_rfl) ?_
    refine eX_tail ?_
    refine wS_pure 1 [(25, .bool (x2 != x3))] (by kernel_rfl) ?_
    refine wS_end (by rfl) ?_
    refine eX_then ?_
    refine cW_cond (t := x2 != x3) (by kernel_rfl) (fun hb3 => ?_) (fun hb3 => ?_)
    ·have hm := condT hb3 hm
     refine cW_seq ?_
     refine cW_region ?_
     refine wS_pure 1 [(4, .bool (false))] (by kernel_rfl) ?_
     refine wS_end (by rfl) ?_
     refine eX_then ?_
     refine cW_ret ?_
     refine eX_block_ret ?_
     refine eX_then_ret ?_
     have hq : (some (Ctl.out (Sum.inr false)) : Option (Ctl (Int) (Sum (Unit) ((Bool))))) = some _ := hm
     replace hq := someE hq
     subst hq
     refine eX_outR hx1 (fun hr => ?_)
     subst hr
     refine eX_block_ret ?_
     refine eX_then_ret ?_
     refine eX_then_ret ?_
     have hq : (some false : Option ((Bool))) = some _ := hm1
     replace hq := someE hq
     subst hq
     refine eX_ret (vs := [.bool (false)]) [.tmp 4] (by rfl) ⟨by (show lkE _ _ _ = _); kernel_rfl, trivial⟩ ?_
     exact ⟨rfl, hB⟩
    ·have hm := condF hb3 hm
     refine cW_skip ?_
     refine eX_block ?_
     refine eX_then ?_
     refine cW_region ?_
     refine wS_pure 3 [(5, .int .i64 (wr (x1 + 1))), (16, .int .i64 (wr (x1 + 1))), (15, .int .i64 (x1))] (by kernel_rfl) ?_
     refine wS_end (by rfl) ?_
     have hq : (some (Ctl.next (wr (x1 + 1))) : Option (Ctl (Int) (Sum (Unit) ((Bool))))) = some _ := hm
     replace hq := someE hq
     subst hq
     exact eX_next hx1 (fun hst => ⟨wr (x1 + 1), rfl, Fr.of hst (by kernel_rfl), F2, F3, hB, hZ⟩)
   ·have hm := condF hb2 hm
    refine cW_exit ?_
    refine eX_then_exit ?_
    have hq : (some (Ctl.out (Sum.inl (()))) : Option (Ctl (Int) (Sum (Unit) ((Bool))))) = some _ := hm
    replace hq := someE hq
    subst hq
    refine eX_outX hx1 (fun hr2 => ?_)
    replace hr2 := hr2.symm
    subst hr2
    refine eX_block_hit ?_
    exact eX_J (fun hst => ⟨rfl, Fr.of hst (by kernel_rfl), hB, hZ⟩)
  ·rintro a' w3 ⟨hJ, hF2, hB, hZ⟩
   subst hJ
   refine Fr.goX hF2 (by kernel_rfl) ?_
   refine eX_then ?_
   refine cW_seq ?_
   refine cW_region ?_
   refine wS_pure 1 [(4, .bool (true))] (by kernel_rfl) ?_
   refine wS_end (by rfl) ?_
   refine eX_then ?_
   refine cW_ret ?_
   have hq : (some true : Option ((Bool))) = some _ := hm
   replace hq := someE hq
   subst hq
   refine eX_ret (vs := [.bool (true)]) [.tmp 4] (by rfl) ⟨by (show lkE _ _ _ = _); kernel_rfl, trivial⟩ ?_
   exact ⟨rfl, hB⟩

set_option maxRecDepth 100000 in
/-- laws.eqInt64SS -/
theorem c_laws_eqInt64SS {w0 : World} {l0 : List (List (Int))} {A0 : Option Addr} {cap0 : Nat} {fp0 : List Nat} {l1 : List (List (Int))} {A1 : Option Addr} {cap1 : Nat} {fp1 : List Nat} {r : (Bool)} (hm : m_laws_eqInt64SS l0 l1 = some r) (F0 : SlR 1 encI w0 fp0 A0 l0) (F1 : SlR 1 encI w0 fp1 A1 l1) :
  Calls Tryd.prog 23 #[.slice A0 (l0).length cap0, .slice A1 (l1).length cap1] w0 fun e w' => e = .returned (.bool (r)) ∧ Chg [] w0 w' := by
 have L0 := F0.low
 have L1 := F1.low
 have hB : Chg [] w0 w0 := Chg.refl _ _
 have hZ := Nat.le_refl w0.heap.size
 unfold m_laws_eqInt64SS at hm
 refine enterE (N := 27) Tryd.func23 (by rfl) Tryd.ntmps23 (by simp) [(0, .slice A0 (l0).length cap0), (1, .slice A1 (l1).length cap1)] (by rfl) (by kernel_rfl) (fun a => ?_)
 refine cW_seq ?_
 refine cW_region ?_
 refine wS_pure 1 [(4, .bool (false))] (by kernel_rfl) ?_
 refine wS_end (by rfl) ?_
 refine eX_then ?_
 refine cW_seq ?_
 refine cW_seq ?_
 refine cW_region ?_
 refine wS_pure 5 [(10, .bool ((((l0).length : Int)) != (((l1).length : Int)))), (9, .int .i64 (((l1).length : Int))), (8, .slice A1 (l1).length cap1), (7, .int .i64 (((l0).length : Int))), (6, .slice A0 (l0).length cap0)] (by kernel_rfl) ?_
 refine wS_end (by rfl) ?_
 refine eX_then ?_
 refine cW_cond (t := (((l0).length : Int)) != (((l1).length : Int))) (by kernel_rfl) (fun hb1 => ?_) (fun hb1 => ?_)
 ·have hm := condT hb1 hm
  refine cW_seq ?_
  refine cW_region ?_
  refine wS_pure 1 [(4, .bool (false))] (by kernel_rfl) ?_
  refine wS_end (by rfl) ?_
  refine eX_then ?_
  refine cW_ret ?_
  refine eX_then_ret ?_
  have hq : (some false : Option ((Bool))) = some _ := hm
  replace hq := someE hq
  subst hq
  refine eX_ret (vs := [.bool (false)]) [.tmp 4] (by rfl) ⟨by (show lkE _ _ _ = _); kernel_rfl, trivial⟩ ?_
  exact ⟨rfl, hB⟩
 ·have hm := condF hb1 hm
  refine cW_skip ?_
  refine eX_then ?_
  refine cW_seq ?_
  refine cW_seq ?_
  refine cW_region ?_
  refine wS_pure 1 [(5, .int .i64 (0))] (by kernel_rfl) ?_
  refine wS_end (by rfl) ?_
  refine eX_then ?_
  obtain ⟨r1, hr1, hm⟩ := bindE hm
  have hm1 := hm
  refine cW_cut (fun a' w' => Sum.inl (()) = r1 ∧ Fr 27 [] a' ∧ Chg [] w0 w' ∧ w0.heap.size ≤ w'.heap.size) ?_ ?_
  ·refine cW_block ?_
   refine cW_loop _ (fun (s1 : Int) a' w' => ∃ x1 : Int, x1 = s1 ∧ Fr 27 [(0, .slice A0 (l0).length cap0), (1, .slice A1 (l1).length cap1), (5, .int .i64 (x1))] a' ∧ SlR 1 encI w' fp0 A0 l0 ∧ SlR 1 encI w' fp1 A1 l1 ∧ Chg [] w0 w' ∧ w0.heap.size ≤ w'.heap.size) hr1 (fun hst => ⟨0, rfl, Fr.of hst (by kernel_rfl), F0, F1, hB, hZ⟩) ?_
   rintro _ c1 a' w1 ⟨x1, rfl, hF1, F2, F3, hB, hZ⟩ hx1
   refine Fr.goOn hF1 (by kernel_rfl) ?_
   have hm := hx1
   unfold m_laws_eqInt64SS_s1 at hm
   refine cW_seq ?_
   refine cW_seq ?_
   refine cW_region ?_
   refine wS_pure 4 [(14, .bool (decide (x1 < (((l0).length : Int))))), (13, .int .i64 (((l0).length : Int))), (12, .slice A0 (l0).length cap0), (11, .int .i64 (x1))] (by kernel_rfl) ?_
   refine wS_end (by rfl) ?_
   refine eX_then ?_
   refine cW_cond (t := decide (x1 < (((l0).length : Int)))) (by kernel_rfl) (fun hb2 => ?_) (fun hb2 => ?_)
   ·have hm := condT hb2 hm
    refine cW_skip ?_
    refine eX_then ?_
    refine cW_seq ?_
    refine cW_block ?_
    refine cW_seq ?_
    refine cW_drawnTail [] 8 (by kernel_rfl) (by kernel_rfl) (fun w2 hc1 => ?_)
    replace F2 := F2.chg hc1 Dj.nil
    replace F3 := F3.chg hc1 Dj.nil
    replace hB := hB.inS hc1 inNil
    replace hZ := Nat.le_trans hZ hc1.size
    have hS := Chg.refl [] w2
    have Z1 := F2
    have Z2 := F3
    refine wH_take [0, 1] [1, 0] [(18, .int .i64 (x1)), (17, .slice A0 (l0).length cap0)] (by kernel_rfl) (qT (qT (qB (qT (qL (qB (qT (qT qZ)))))))) (by kernel_rfl) ?_
    obtain ⟨x2, hx2, hm⟩ := bindE hm
    refine wH_idx (i := 2) (d := 19) (T := 28) (A := A0) (n := (l0).length) (cap := cap0) (kd := .i64) (m := x1) (by kernel_rfl) (qT (qT (qB (qT (qL (qB (qT (qT qZ)))))))) (by kernel_rfl) (by kernel_rfl) sl28 (F2.is hx2) ?_
    obtain ⟨A2, cap2, hc2, F4, K1⟩ := SlR.row Z1 hx2
    refine wH_load1 (i := 3) (d := 20) (T := 24) (ad := (elA A0 1 (x1) 0)) (v := .slice A2 (x2).length cap2) (by kernel_rfl) (qT (qT (qB (qT (qL (qB (qT (qT qZ)))))))) (by kernel_rfl) (by kernel_rfl) vt24 (fun W hW => hW.keep hc2) ?_
    refine wH_take [4, 5] [5, 4, 3, 2, 1, 0] [(22, .int .i64 (x1)), (21, .slice A1 (l1).length cap1)] (by kernel_rfl) (qT (qT (qB (qT (qL (qB (qT (qT qZ)))))))) (by kernel_rfl) ?_
    obtain ⟨x3, hx3, hm⟩ := bindE hm
    refine wH_idx (i := 6) (d := 23) (T := 28) (A := A1) (n := (l1).length) (cap := cap1) (kd := .i64) (m := x1) (by kernel_rfl) (qT (qT (qB (qT (qL (qB (qT (qT qZ)))))))) (by kernel_rfl) (by kernel_rfl) sl28 (F3.is hx3) ?_
    obtain ⟨A3, cap3, hc3, F5, K2⟩ := SlR.row Z2 hx3
    refine wH_load1 (i := 7) (d := 24) (T := 24) (ad := (elA A1 1 (x1) 0)) (v := .slice A3 (x3).length cap3) (by kernel_rfl) (qT (qT (qB (qT (qL (qB (qT (qT qZ)))))))) (by kernel_rfl) (by kernel_rfl) vt24 (fun W hW => hW.keep hc3) ?_
    refine wH_done (by kernel_rfl) ?_
    refine eX_tail ?_
    obtain ⟨y1, hy1, hm⟩ := bindE hm
    refine wS_calls (d := 25) (f := 66) (vs := [.slice A2 (x2).length cap2, .slice A3 (x3).length cap3]) (by kernel_rfl) ent66 (c_laws_eqInt64S hy1 F4 F5) ?_
    rintro _ w3 ⟨rfl, hc4⟩
    replace F2 := F2.chg hc4 Dj.nil
    replace F3 := F3.chg hc4 Dj.nil
    replace F4 := F4.chg hc4 Dj.nil
    replace F5 := F5.chg hc4 Dj.nil
    replace hB := hB.inS hc4 inNil
    replace hZ := Nat.le_trans hZ hc4.size
    refine ⟨.bool (y1), rfl, ?_⟩
    refine wS_pure 1 [(26, .bool (!y1))] (by kernel_rfl) ?_
    refine wS_end (by rfl) ?_
    refine eX_then ?_
    refine cW_cond (t := !y1) (by kernel_rfl) (fun hb3 => ?_) (fun hb3 => ?_)
    ·have hm := condT hb3 hm
     refine cW_seq ?_
     refine cW_region ?_
     refine wS_pure 1 [(4, .bool (false))] (by kernel_rfl) ?_
     refine wS_end (by rfl) ?_
     refine eX_then ?_
     refine cW_ret ?_
     refine eX_block_ret ?_
     refine eX_then_ret ?_
     have hq : (some (Ctl.out (Sum.inr false)) : Option (Ctl (Int) (Sum (Unit) ((Bool))))) = some _ := hm
     replace hq := someE hq
     subst hq
     refine eX_outR hx1 (fun hr => ?_)
     subst hr
     refine eX_block_ret ?_
     refine eX_then_ret ?_
     refine eX_then_ret ?_
     have hq : (some false : Option ((Bool))) = some _ := hm1
     replace hq := someE hq
     subst hq
     refine eX_ret (vs := [.bool (false)]) [.tmp 4] (by rfl) ⟨by (show lkE _ _ _ = _); kernel_rfl, trivial⟩ ?_
     exact ⟨rfl, hB⟩
    ·have hm := condF hb3 hm
     refine cW_skip ?_
     refine eX_block ?_
     refine eX_then ?_
     refine cW_region ?_
     refine wS_pure 3 [(5, .int .i64 (wr (x1 + 1))), (16, .int .i64 (wr (x1 + 1))), (15, .int .i64 (x1))] (by kernel_rfl) ?_
     refine wS_end (by rfl) ?_
     have hq : (some (Ctl.next (wr (x1 + 1))) : Option (Ctl (Int) (Sum (Unit) ((Bool))))) = some _ := hm
     replace hq := someE hq
     subst hq
     exact eX_next hx1 (fun hst => ⟨wr (x1 + 1), rfl, Fr.of hst (by kernel_rfl), F2, F3, hB, hZ⟩)
   ·have hm := condF hb2 hm
    refine cW_exit ?_
    refine eX_then_exit ?_
    have hq : (some (Ctl.out (Sum.inl (()))) : Option (Ctl (Int) (Sum (Unit) ((Bool))))) = some _ := hm
    replace hq := someE hq
    subst hq
    refine eX_outX hx1 (fun hr2 => ?_)
    replace hr2 := hr2.symm
    subst hr2
    refine eX_block_hit ?_
    exact eX_J (fun hst => ⟨rfl, Fr.of hst (by kernel_rfl), hB, hZ⟩)
  ·rintro a' w4 ⟨hJ, hF2, hB, hZ⟩
   subst hJ
   refine Fr.goX hF2 (by kernel_rfl) ?_
   refine eX_then ?_
   refine cW_seq ?_
   refine cW_region ?_
   refine wS_pure 1 [(4, .bool (true))] (by kernel_rfl) ?_
   refine wS_end (by rfl) ?_
   refine eX_then ?_
   refine cW_ret ?_
   have hq : (some true : Option ((Bool))) = some _ := hm
   replace hq := someE hq
   subst hq
   refine eX_ret (vs := [.bool (true)]) [.tmp 4] (by rfl) ⟨by (show lkE _ _ _ = _); kernel_rfl, trivial⟩ ?_
   exact ⟨rfl, hB⟩

set_option maxRecDepth 100000 in
/-- laws.eqChannel -/
theorem c_laws_eqChannel {w0 : World} {l0_0 : List (Int)} {A0_0 : Option Addr} {cap0_0 : Nat} {fp0_0 : List Nat} {l0_1 : List (Int)} {A0_1 : Option Addr} {cap0_1 : Nat} {fp0_1 : List Nat} {l1_0 : List (Int)} {A1_0 : Option Addr} {cap1_0 : Nat} {fp1_0 : List Nat} {l1_1 : List (Int)} {A1_1 : Option Addr} {cap1_1 : Nat} {fp1_1 : List Nat} {r : (Bool)} (hm : m_laws_eqChannel l0_0 l0_1 l1_0 l1_1 = some r) (F0_0 : Sl 1 encI w0 fp0_0 A0_0 l0_0) (F0_1 : Sl 1 encI w0 fp0_1 A0_1 l0_1) (F1_0 : Sl 1 encI w0 fp1_0 A1_0 l1_0) (F1_1 : Sl 1 encI w0 fp1_1 A1_1 l1_1) :
  Calls Tryd.prog 24 #[.agg #[.slice A0_0 (l0_0).length cap0_0, .slice A0_1 (l0_1).length cap0_1], .agg #[.slice A1_0 (l1_0).length cap1_0, .slice A1_1 (l1_1).length cap1_1]] w0 fun e w' => e = .returned (.bool (r)) ∧ Chg [] w0 w' := by
 have L0_0 := F0_0.low
 have L0_1 := F0_1.low
 have L1_0 := F1_0.low
 have L1_1 := F1_1.low
 have hB : Chg [] w0 w0 := Chg.refl _ _
 have hZ := Nat.le_refl w0.heap.size
 unfold m_laws_eqChannel at hm
 refine enterE (N := 17) Tryd.func24 (by rfl) Tryd.ntmps24 (by simp) [(0, .agg #[.slice A0_0 (l0_0).length cap0_0, .slice A0_1 (l0_1).length cap0_1]), (1, .agg #[.slice A1_0 (l1_0).length cap1_0, .slice A1_1 (l1_1).length cap1_1])] (by rfl) (by kernel_rfl) (fun a => ?_)
 refine cW_seq ?_
 refine cW_region ?_
 refine wS_box (d := 2) (T := 26) (x := .agg #[.slice A0_0 (l0_0).length cap0_0, .slice A0_1 (l0_1).length cap0_1]) (by kernel_rfl) ?_
 intro b1 w1 G1 F1 hc1
 replace F1 : Cl w1 b1 26 [.slice A0_0 (l0_0).length cap0_0, .slice A0_1 (l0_1).length cap0_1] := F1
 replace F0_0 := F0_0.chg hc1 Dj.nil
 replace F0_1 := F0_1.chg hc1 Dj.nil
 replace F1_0 := F1_0.chg hc1 Dj.nil
 replace F1_1 := F1_1.chg hc1 Dj.nil
 replace hB := hB.inS hc1 inNil
 replace G1 := Nat.le_trans hZ G1
 replace hZ := Nat.le_trans hZ hc1.size
 refine wS_box (d := 3) (T := 26) (x := .agg #[.slice A1_0 (l1_0).length cap1_0, .slice A1_1 (l1_1).length cap1_1]) (by kernel_rfl) ?_
 intro b2 w2 G2 F2 hc2
 replace F2 : Cl w2 b2 26 [.slice A1_0 (l1_0).length cap1_0, .slice A1_1 (l1_1).length cap1_1] := F2
 have D1 : Dj [b1] [b2] := Dj.of (lt1 F1.lt) (low1 G2)
 replace F0_0 := F0_0.chg hc2 Dj.nil
 replace F0_1 := F0_1.chg hc2 Dj.nil
 replace F1_0 := F1_0.chg hc2 Dj.nil
 replace F1_1 := F1_1.chg hc2 Dj.nil
 replace F1 := F1.chg hc2 notNil
 replace hB := hB.inS hc2 inNil
 replace G2 := Nat.le_trans hZ G2
 replace hZ := Nat.le_trans hZ hc2.size
 refine wS_pure 1 [(4, .bool (false))] (by kernel_rfl) ?_
 refine wS_end (by rfl) ?_
 refine eX_then ?_
 refine cW_seq ?_
 refine cW_seq ?_
 refine cW_region ?_
 refine wS_pure 1 [(5, .pointer (some ⟨b1, 0, none⟩))] (by kernel_rfl) ?_
 refine wS_load1 (d := 6) (T := 24) (ad := ⟨b1, 0, none⟩) (v := .slice A0_0 (l0_0).length cap0_0) (by kernel_rfl) vt24 ((F1).cell 0) ?_
 refine wS_pure 1 [(7, .pointer (some ⟨b2, 0, none⟩))] (by kernel_rfl) ?_
 refine wS_load1 (d := 8) (T := 24) (ad := ⟨b2, 0, none⟩) (v := .slice A1_0 (l1_0).length cap1_0) (by kernel_rfl) vt24 ((F2).cell 0) ?_
 obtain ⟨y1, hy1, hm⟩ := bindE hm
 refine wS_calls (d := 9) (f := 66) (vs := [.slice A0_0 (l0_0).length cap0_0, .slice A1_0 (l1_0).length cap1_0]) (by kernel_rfl) ent66 (c_laws_eqInt64S hy1 F0_0 F1_0) ?_
 rintro _ w3 ⟨rfl, hc3⟩
 replace F0_0 := F0_0.chg hc3 Dj.nil
 replace F0_1 := F0_1.chg hc3 Dj.nil
 replace F1_0 := F1_0.chg hc3 Dj.nil
 replace F1_1 := F1_1.chg hc3 Dj.nil
 replace F1 := F1.chg hc3 notNil
 replace F2 := F2.chg hc3 notNil
 replace hB := hB.inS hc3 inNil
 replace hZ := Nat.le_trans hZ hc3.size
 refine ⟨.bool (y1), rfl, ?_⟩
 refine wS_pure 1 [(10, .bool (!y1))] (by kernel_rfl) ?_
 refine wS_end (by rfl) ?_
 refine eX_then ?_
 refine cW_cond (t := !y1) (by kernel_rfl) (fun hb1 => ?_) (fun hb1 => ?_)
 ·have hm := condT hb1 hm
  refine cW_seq ?_
  refine cW_region ?_
  refine wS_pure 1 [(4, .bool (false))] (by kernel_rfl) ?_
  refine wS_end (by rfl) ?_
  refine eX_then ?_
  refine cW_ret ?_
  refine eX_then_ret ?_
  have hq : (some false : Option ((Bool))) = some _ := hm
  replace hq := someE hq
  subst hq
  refine eX_ret (vs := [.bool (false)]) [.tmp 4] (by rfl) ⟨by (show lkE _ _ _ = _); kernel_rfl, trivial⟩ ?_
  exact ⟨rfl, hB⟩
 ·have hm := condF hb1 hm
  refine cW_skip ?_
  refine eX_then ?_
  refine cW_seq ?_
  refine cW_seq ?_
  refine cW_region ?_
  refine wS_pure 1 [(11, .pointer (some ⟨b1, 1, none⟩))] (by kernel_rfl) ?_
  refine wS_load1 (d := 12) (T := 24) (ad := ⟨b1, 1, none⟩) (v := .slice A0_1 (l0_1).length cap0_1) (by kernel_rfl) vt24 ((F1).cell 1) ?_
  refine wS_pure 1 [(13, .pointer (some ⟨b2, 1, none⟩))] (by kernel_rfl) ?_
  refine wS_load1 (d := 14) (T := 24) (ad := ⟨b2, 1, none⟩) (v := .slice A1_1 (l1_1).length cap1_1) (by kernel_rfl) vt24 ((F2).cell 1) ?_
  obtain ⟨y2, hy2, hm⟩ := bindE hm
  refine wS_calls (d := 15) (f := 66) (vs := [.slice A0_1 (l0_1).length cap0_1, .slice A1_1 (l1_1).length cap1_1]) (by kernel_rfl) ent66 (c_laws_eqInt64S hy2 F0_1 F1_1) ?_
  rintro _ w4 ⟨rfl, hc4⟩
  replace F0_0 := F0_0.chg hc4 Dj.nil
  replace F0_1 := F0_1.chg hc4 Dj.nil
  replace F1_0 := F1_0.chg hc4 Dj.nil
  replace F1_1 := F1_1.chg hc4 Dj.nil
  replace F1 := F1.chg hc4 notNil
  replace F2 := F2.chg hc4 notNil
  replace hB := hB.inS hc4 inNil
  replace hZ := Nat.le_trans hZ hc4.size
  refine ⟨.bool (y2), rfl, ?_⟩
  refine wS_pure 1 [(16, .bool (!y2))] (by kernel_rfl) ?_
  refine wS_end (by rfl) ?_
  refine eX_then ?_
  refine cW_cond (t := !y2) (by kernel_rfl) (fun hb2 => ?_) (fun hb2 => ?_)
  ·have hm := condT hb2 hm
   refine cW_seq ?_
   refine cW_region ?_
   refine wS_pure 1 [(4, .bool (false))] (by kernel_rfl) ?_
   refine wS_end (by rfl) ?_
   refine eX_then ?_
   refine cW_ret ?_
   refine eX_then_ret ?_
   have hq : (some false : Option ((Bool))) = some _ := hm
   replace hq := someE hq
   subst hq
   refine eX_ret (vs := [.bool (false)]) [.tmp 4] (by rfl) ⟨by (show lkE _ _ _ = _); kernel_rfl, trivial⟩ ?_
   exact ⟨rfl, hB⟩
  ·have hm := condF hb2 hm
   refine cW_skip ?_
   refine eX_then ?_
   refine cW_seq ?_
   refine cW_region ?_
   refine wS_pure 1 [(4, .bool (true))] (by kernel_rfl) ?_
   refine wS_end (by rfl) ?_
   refine eX_then ?_
   refine cW_ret ?_
   have hq : (some true : Option ((Bool))) = some _ := hm
   replace hq := someE hq
   subst hq
   refine eX_ret (vs := [.bool (true)]) [.tmp 4] (by rfl) ⟨by (show lkE _ _ _ = _); kernel_rfl, trivial⟩ ?_
   exact ⟨rfl, hB⟩

set_option maxRecDepth 100000 in
/-- laws.markInt64S -/
theorem c_laws_markInt64S {w0 : World} {l0 : List (Int)} {A0 : Option Addr} {cap0 : Nat} {fp0 : List Nat} {p1 : Int} {r : (Int) × (List (Int))} (hm : m_laws_markInt64S l0 p1 = some r) (F0 : Ow 1 encI 2 w0 fp0 A0 cap0 l0) :
  Calls Tryd.prog 67 #[.slice A0 (l0).length cap0, .int .i64 (p1)] w0 fun e w' => e = .returned (.int .i64 (r.1)) ∧ Ow 1 encI 2 w' fp0 A0 cap0 r.2 ∧ (r.2).length = (l0).length ∧ Chg (fp0 ++ []) w0 w' := by
 have L0 := F0.low
 have hB : Chg (fp0 ++ []) w0 w0 := Chg.refl _ _
 have hZ := Nat.le_refl w0.heap.size
 unfold m_laws_markInt64S at hm
 refine enterE (N := 19) Tryd.func67 (by rfl) Tryd.ntmps67 (by simp) [(0, .slice A0 (l0).length cap0), (1, .int .i64 (p1))] (by rfl) (by kernel_rfl) (fun a => ?_)
 refine cW_seq ?_
 refine cW_region ?_
 refine wS_pure 1 [(4, .int .i64 (0))] (by kernel_rfl) ?_
 refine wS_end (by rfl) ?_
 refine eX_then ?_
 refine cW_seq ?_
 refine cW_seq ?_
 refine cW_region ?_
 refine wS_pure 1 [(5, .int .i64 (0))] (by kernel_rfl) ?_
 refine wS_end (by rfl) ?_
 refine eX_then ?_
 obtain ⟨r1, hr1, hm⟩ := bindE hm
 have hm1 := hm
 refine cW_cut (fun a' w' => ∃ x1 : Int, ∃ l1 : List (Int), (x1, l1) = r1 ∧ Fr 19 [(1, .int .i64 (x1))] a' ∧ Ow 1 encI 2 w' fp0 A0 cap0 l1 ∧ (l1).length = (l0).length ∧ Chg (fp0 ++ []) w0 w' ∧ w0.heap.size ≤ w'.heap.size) ?_ ?_
 ·refine cW_block ?_
  refine cW_loop _ (fun (s1 : Int × Int × (List (Int))) a' w' => ∃ x2 : Int, ∃ x3 : Int, ∃ l2 : List (Int), (x2, x3, l2) = s1 ∧ Fr 19 [(0, .slice A0 (l2).length cap0), (1, .int .i64 (x2)), (5, .int .i64 (x3))] a' ∧ Ow 1 encI 2 w' fp0 A0 cap0 l2 ∧ (l2).length = (l0).length ∧ Chg (fp0 ++ []) w0 w' ∧ w0.heap.size ≤ w'.heap.size) hr1 (fun hst => ⟨p1, 0, l0, rfl, Fr.of hst (by kernel_rfl), F0, (Eq.refl (l0).length), hB, hZ⟩) ?_
  rintro _ c1 a' w1 ⟨x2, x3, l2, rfl, hF1, F1, hl1, hB, hZ⟩ hx1
  refine Fr.goOn hF1 (by kernel_rfl) ?_
  have hm := hx1
  unfold m_laws_markInt64S_s1 at hm
  refine cW_seq ?_
  refine cW_seq ?_
  refine cW_region ?_
  refine wS_pure 4 [(9, .bool (decide (x3 < (((l2).length : Int))))), (8, .int .i64 (((l2).length : Int))), (7, .slice A0 (l2).length cap0), (6, .int .i64 (x3))] (by kernel_rfl) ?_
  refine wS_end (by rfl) ?_
  refine eX_then ?_
  refine cW_cond (t := decide (x3 < (((l2).length : Int)))) (by kernel_rfl) (fun hb1 => ?_) (fun hb1 => ?_)
  ·have hm := condT hb1 hm
   refine cW_skip ?_
   refine eX_then ?_
   refine cW_seq ?_
   refine cW_block ?_
   refine cW_seq ?_
   refine cW_region ?_
   refine wS_pure 3 [(14, .int .i64 (x2)), (13, .int .i64 (x3)), (12, .slice A0 (l2).length cap0)] (by kernel_rfl) ?_
   obtain ⟨x4, hx2, hm⟩ := bindE hm
   refine wS_idx (d := 15) (T := 24) (A := A0) (n := (l2).length) (cap := cap0) (kd := .i64) (m := x3) (by kernel_rfl) sl24 ((F1.sl encI_ok).is hx2) ?_
   refine wS_storeEl (x := x4) x2 (T := 2) (U := 2) (cap := cap0) (j := 0) (A := A0) (v := .int .i64 (x2)) (vs := [.int .i64 (x2)]) (m := x3) (by kernel_rfl) (by rfl) sz2 (by rfl) encI_ok F1 hx2 (by simp only [List.length_cons, List.length_nil]; omega) (by rfl) ?_
   intro w2 F2 hc1
   replace hB := hB.inS hc1 (inMem (fun x hx => (List.mem_append_left _ hx)))
   replace hZ := Nat.le_trans hZ hc1.size
   clear F1
   have hl2 := (show (l2.set (Int.toNat x3) x2).length = (l2).length from List.length_set ..).trans hl1
   rewrite [show (l2).length = (l2.set (Int.toNat x3) x2).length from (List.length_set ..).symm]
   refine wS_end (by rfl) ?_
   refine eX_then ?_
   refine cW_region ?_
   refine wS_pure 3 [(1, .int .i64 (wr (x2 + 1))), (17, .int .i64 (wr (x2 + 1))), (16, .int .i64 (x2))] (by kernel_rfl) ?_
   refine wS_end (by rfl) ?_
   refine eX_block ?_
   refine eX_then ?_
   refine cW_region ?_
   refine wS_pure 3 [(5, .int .i64 (wr (x3 + 1))), (11, .int .i64 (wr (x3 + 1))), (10, .int .i64 (x3))] (by kernel_rfl) ?_
   refine wS_end (by rfl) ?_
   have hq : (some (Ctl.next ((wr (x2 + 1), wr (x3 + 1), l2.set (Int.toNat x3) x2))) : Option (Ctl (Int × Int × (List (Int))) (Int × (List (Int))))) = some _ := hm
   replace hq := someE hq
   subst hq
   exact eX_next hx1 (fun hst => ⟨wr (x2 + 1), wr (x3 + 1), l2.set (Int.toNat x3) x2, rfl, Fr.of hst (by kernel_rfl), F2, hl2, hB, hZ⟩)
  ·have hm := condF hb1 hm
   refine cW_exit ?_
   refine eX_then_exit ?_
   have hq : (some (Ctl.out ((x2, l2))) : Option (Ctl (Int × Int × (List (Int))) (Int × (List (Int))))) = some _ := hm
   replace hq := someE hq
   subst hq
   refine eX_outX hx1 (fun hr2 => ?_)
   replace hr2 := hr2.symm
   subst hr2
   refine eX_block_hit ?_
   exact eX_J (fun hst => ⟨x2, l2, rfl, Fr.of hst (by kernel_rfl), F1, hl1, hB, hZ⟩)
 ·rintro a' w3 ⟨x1, l1, hJ, hF2, F3, hl3, hB, hZ⟩
  subst hJ
  refine Fr.goX hF2 (by kernel_rfl) ?_
  refine eX_then ?_
  refine cW_seq ?_
  refine cW_region ?_
  refine wS_pure 2 [(4, .int .i64 (x1)), (18, .int .i64 (x1))] (by kernel_rfl) ?_
  refine wS_end (by rfl) ?_
  refine eX_then ?_
  refine cW_ret ?_
  have hq : (some ((x1, l1)) : Option ((Int) × (List (Int)))) = some _ := hm
  replace hq := someE hq
  subst hq
  refine eX_ret (vs := [.int .i64 (x1)]) [.tmp 4] (by rfl) ⟨by (show lkE _ _ _ = _); kernel_rfl, trivial⟩ ?_
  exact ⟨rfl, F3, (by first | exact hl3 | rfl), hB⟩

set_option maxRecDepth 100000 in
/-- laws.markChannel -/
theorem c_laws_markChannel {w0 : World} {l0_0 : List (Int)} {A0_0 : Option Addr} {cap0_0 : Nat} {fp0_0 : List Nat} {l0_1 : List (Int)} {A0_1 : Option Addr} {cap0_1 : Nat} {fp0_1 : List Nat} {p1 : Int} {r : (Int) × (List (Int)) × (List (Int))} (hm : m_laws_markChannel l0_0 l0_1 p1 = some r) (F0_0 : Ow 1 encI 2 w0 fp0_0 A0_0 cap0_0 l0_0) (F0_1 : Ow 1 encI 2 w0 fp0_1 A0_1 cap0_1 l0_1) (J0_0__0_1 : Dj fp0_0 fp0_1) :
  Calls Tryd.prog 25 #[.agg #[.slice A0_0 (l0_0).length cap0_0, .slice A0_1 (l0_1).length cap0_1], .int .i64 (p1)] w0 fun e w' => e = .returned (.int .i64 (r.1)) ∧ Ow 1 encI 2 w' fp0_0 A0_0 cap0_0 r.2.1 ∧ (r.2.1).length = (l0_0).length ∧ Ow 1 encI 2 w' fp0_1 A0_1 cap0_1 r.2.2 ∧ (r.2.2).length = (l0_1).length ∧ Chg (fp0_0 ++ (fp0_1 ++ [])) w0 w' := by
 have L0_0 := F0_0.low
 have L0_1 := F0_1.low
 have hB : Chg (fp0_0 ++ (fp0_1 ++ [])) w0 w0 := Chg.refl _ _
 have hZ := Nat.le_refl w0.heap.size
 unfold m_laws_markChannel at hm
 refine enterE (N := 14) Tryd.func25 (by rfl) Tryd.ntmps25 (by simp) [(0, .agg #[.slice A0_0 (l0_0).length cap0_0, .slice A0_1 (l0_1).length cap0_1]), (1, .int .i64 (p1))] (by rfl) (by kernel_rfl) (fun a => ?_)
 refine cW_seq ?_
 refine cW_region ?_
 refine wS_box (d := 2) (T := 26) (x := .agg #[.slice A0_0 (l0_0).length cap0_0, .slice A0_1 (l0_1).length cap0_1]) (by kernel_rfl) ?_
 intro b1 w1 G1 F1 hc1
 replace F1 : Cl w1 b1 26 [.slice A0_0 (l0_0).length cap0_0, .slice A0_1 (l0_1).length cap0_1] := F1
 replace F0_0 := F0_0.chg hc1 Dj.nil
 replace F0_1 := F0_1.chg hc1 Dj.nil
 replace hB := hB.inS hc1 inNil
 replace G1 := Nat.le_trans hZ G1
 replace hZ := Nat.le_trans hZ hc1.size
 refine wS_pure 1 [(4, .int .i64 (0))] (by kernel_rfl) ?_
 refine wS_end (by rfl) ?_
 refine eX_then ?_
 refine cW_seq ?_
 refine cW_region ?_
 refine wS_pure 1 [(5, .pointer (some ⟨b1, 0, none⟩))] (by kernel_rfl) ?_
 refine wS_load1 (d := 6) (T := 24) (ad := ⟨b1, 0, none⟩) (v := .slice A0_0 (l0_0).length cap0_0) (by kernel_rfl) vt24 ((F1).cell 0) ?_
 refine wS_pure 1 [(7, .int .i64 (p1))] (by kernel_rfl) ?_
 obtain ⟨y1, hy1, hm⟩ := bindE hm
 refine wS_calls (d := 8) (f := 67) (vs := [.slice A0_0 (l0_0).length cap0_0, .int .i64 (p1)]) (by kernel_rfl) ent67 (c_laws_markInt64S hy1 F0_0) ?_
 rintro _ w2 ⟨rfl, F2, hl1, hc2⟩
 replace F0_1 := F0_1.chg hc2 (Dj.app (J0_0__0_1).symm Dj.nil)
 replace F1 := F1.chg hc2 (dj1 (Dj.app (Dj.of L0_0 (low1 G1)).symm Dj.nil))
 replace hB := hB.inS hc2 (inApp (inMem (fun x hx => (List.mem_append_left _ hx))) inNil)
 replace hZ := Nat.le_trans hZ hc2.size
 clear F0_0
 have hl2 := hl1.trans (Eq.refl (l0_0).length)
 refine ⟨.int .i64 (y1.1), rfl, ?_⟩
 rewrite [(show (l0_0).length = (y1.2).length from hl1.symm)]
 try rewrite [(show (l0_0).length = (y1.2).length from hl1.symm)] at F1
 refine wS_pure 1 [(1, .int .i64 (y1.1))] (by kernel_rfl) ?_
 refine wS_end (by rfl) ?_
 refine eX_then ?_
 refine cW_seq ?_
 refine cW_region ?_
 refine wS_pure 1 [(9, .pointer (some ⟨b1, 1, none⟩))] (by kernel_rfl) ?_
 refine wS_load1 (d := 10) (T := 24) (ad := ⟨b1, 1, none⟩) (v := .slice A0_1 (l0_1).length cap0_1) (by kernel_rfl) vt24 ((F1).cell 1) ?_
 refine wS_pure 1 [(11, .int .i64 (y1.1))] (by kernel_rfl) ?_
 obtain ⟨y2, hy2, hm⟩ := bindE hm
 refine wS_calls (d := 12) (f := 67) (vs := [.slice A0_1 (l0_1).length cap0_1, .int .i64 (y1.1)]) (by kernel_rfl) ent67 (c_laws_markInt64S hy2 F0_1) ?_
 rintro _ w3 ⟨rfl, F3, hl3, hc3⟩
 replace F2 := F2.chg hc3 (Dj.app J0_0__0_1 Dj.nil)
 replace F1 := F1.chg hc3 (dj1 (Dj.app (Dj.of L0_1 (low1 G1)).symm Dj.nil))
 replace hB := hB.inS hc3 (inApp (inMem (fun x hx => (List.mem_append_right _ (List.mem_append_left _ hx)))) inNil)
 replace hZ := Nat.le_trans hZ hc3.size
 clear F0_1
 have hl4 := hl3.trans (Eq.refl (l0_1).length)
 refine ⟨.int .i64 (y2.1), rfl, ?_⟩
 rewrite [(show (l0_1).length = (y2.2).length from hl3.symm)]
 try rewrite [(show (l0_1).length = (y2.2).length from hl3.symm)] at F1
 refine wS_pure 1 [(1, .int .i64 (y2.1))] (by kernel_rfl) ?_
 refine wS_end (by rfl) ?_
 refine eX_then ?_
 refine cW_seq ?_
 refine cW_region ?_
 refine wS_pure 2 [(4, .int .i64 (y2.1)), (13, .int .i64 (y2.1))] (by kernel_rfl) ?_
 refine wS_end (by rfl) ?_
 refine eX_then ?_
 refine cW_ret ?_
 have hq : (some ((y2.1, y1.2, y2.2)) : Option ((Int) × (List (Int)) × (List (Int)))) = some _ := hm
 replace hq := someE hq
 subst hq
 refine eX_ret (vs := [.int .i64 (y2.1)]) [.tmp 4] (by rfl) ⟨by (show lkE _ _ _ = _); kernel_rfl, trivial⟩ ?_
 exact ⟨rfl, F2, (by first | exact hl2 | rfl), F3, (by first | exact hl4 | rfl), hB⟩

set_option maxRecDepth 100000 in
/-- laws.markInt64SS -/
theorem c_laws_markInt64SS {w0 : World} {l0 : List (List (Int))} {A0 : Option Addr} {cap0 : Nat} {fp0 fr0 : List Nat} {p1 : Int} {r : (Int) × (List (List (Int)))} (hm : m_laws_markInt64SS l0 p1 = some r) (F0 : OwR 1 encI 24 2 w0 fp0 fr0 A0 cap0 l0) :
  Calls Tryd.prog 26 #[.slice A0 (l0).length cap0, .int .i64 (p1)] w0 fun e w' => e = .returned (.int .i64 (r.1)) ∧ OwR 1 encI 24 2 w' fp0 fr0 A0 cap0 r.2 ∧ (r.2).length = (l0).length ∧ Chg ((fp0 ++ fr0) ++ []) w0 w' := by
 have L0 := F0.low
 have hB : Chg ((fp0 ++ fr0) ++ []) w0 w0 := Chg.refl _ _
 have hZ := Nat.le_refl w0.heap.size
 unfold m_laws_markInt64SS at hm
 refine enterE (N := 19) Tryd.func26 (by rfl) Tryd.ntmps26 (by simp) [(0, .slice A0 (l0).length cap0), (1, .int .i64 (p1))] (by rfl) (by kernel_rfl) (fun a => ?_)
 refine cW_seq ?_
 refine cW_region ?_
 refine wS_pure 1 [(4, .int .i64 (0))] (by kernel_rfl) ?_
 refine wS_end (by rfl) ?_
 refine eX_then ?_
 refine cW_seq ?_
 refine cW_seq ?_
 refine cW_region ?_
 refine wS_pure 1 [(5, .int .i64 (0))] (by kernel_rfl) ?_
 refine wS_end (by rfl) ?_
 refine eX_then ?_
 obtain ⟨r1, hr1, hm⟩ := bindE hm
 have hm1 := hm
 refine cW_cut (fun a' w' => ∃ x1 : Int, ∃ l1 : List (List (Int)), (x1, l1) = r1 ∧ Fr 19 [(1, .int .i64 (x1))] a' ∧ OwR 1 encI 24 2 w' fp0 fr0 A0 cap0 l1 ∧ (l1).length = (l0).length ∧ Chg ((fp0 ++ fr0) ++ []) w0 w' ∧ w0.heap.size ≤ w'.heap.size) ?_ ?_
 ·refine cW_block ?_
  refine cW_loop _ (fun (s1 : Int × Int × (List (List (Int)))) a' w' => ∃ x2 : Int, ∃ x3 : Int, ∃ l2 : List (List (Int)), (x2, x3, l2) = s1 ∧ Fr 19 [(0, .slice A0 (l2).length cap0), (1, .int .i64 (x2)), (5, .int .i64 (x3))] a' ∧ OwR 1 encI 24 2 w' fp0 fr0 A0 cap0 l2 ∧ (l2).length = (l0).length ∧ Chg ((fp0 ++ fr0) ++ []) w0 w' ∧ w0.heap.size ≤ w'.heap.size) hr1 (fun hst => ⟨p1, 0, l0, rfl, Fr.of hst (by kernel_rfl), F0, (Eq.refl (l0).length), hB, hZ⟩) ?_
  rintro _ c1 a' w1 ⟨x2, x3, l2, rfl, hF1, F1, hl1, hB, hZ⟩ hx1
  refine Fr.goOn hF1 (by kernel_rfl) ?_
  have hm := hx1
  unfold m_laws_markInt64SS_s1 at hm
  refine cW_seq ?_
  refine cW_seq ?_
  refine cW_region ?_
  refine wS_pure 4 [(9, .bool (decide (x3 < (((l2).length : Int))))), (8, .int .i64 (((l2).length : Int))), (7, .slice A0 (l2).length cap0), (6, .int .i64 (x3))] (by kernel_rfl) ?_
  refine wS_end (by rfl) ?_
  refine eX_then ?_
  refine cW_cond (t := decide (x3 < (((l2).length : Int)))) (by kernel_rfl) (fun hb1 => ?_) (fun hb1 => ?_)
  ·have hm := condT hb1 hm
   refine cW_skip ?_
   refine eX_then ?_
   refine cW_seq ?_
   refine cW_block ?_
   refine cW_region ?_
   refine wS_pure 2 [(13, .int .i64 (x3)), (12, .slice A0 (l2).length cap0)] (by kernel_rfl) ?_
   obtain ⟨x4, hx2, hm⟩ := bindE hm
   refine wS_idx (d := 14) (T := 28) (A := A0) (n := (l2).length) (cap := cap0) (kd := .i64) (m := x3) (by kernel_rfl) sl28 ((F1.slr encI_ok).is hx2) ?_
   obtain ⟨A1, cap1, fp1, hc1, hsub1, F2, hcl1⟩ := OwR.lend F1 hx2
   have Dm1 := (F1.dj).symm
   refine wS_load1 (d := 15) (T := 24) (ad := (elA A0 1 (x3) 0)) (v := .slice A1 (x4).length cap1) (by kernel_rfl) vt24 hc1 ?_
   refine wS_pure 1 [(16, .int .i64 (x2))] (by kernel_rfl) ?_
   obtain ⟨y1, hy1, hm⟩ := bindE hm
   refine wS_calls (d := 17) (f := 67) (vs := [.slice A1 (x4).length cap1, .int .i64 (x2)]) (by kernel_rfl) ent67 (c_laws_markInt64S hy1 F2) ?_
   rintro _ w2 ⟨rfl, F3, hl2, hc2⟩
   have F4 := hcl1 _ _ (hc2.more (fun x hx => by simpa using hx)) F3 hl2
   have hc3 := hc2.more (S' := (fp0 ++ fr0) ++ []) (fun x hx => List.mem_append_left _ (hsub1 x (by simpa using hx)))
   have hl3 := (show (l2.set (Int.toNat x3) y1.2).length = (l2).length from List.length_set ..).trans hl1
   clear F1
   replace hB := hB.inS hc3 (inApp (inMem (fun x hx => (List.mem_append_left _ hx))) inNil)
   replace hZ := Nat.le_trans hZ hc3.size
   refine ⟨.int .i64 (y1.1), rfl, ?_⟩
   rewrite [(show (l2).length = (l2.set (Int.toNat x3) y1.2).length from (List.length_set ..).symm)]
   refine wS_pure 1 [(1, .int .i64 (y1.1))] (by kernel_rfl) ?_
   refine wS_end (by rfl) ?_
   refine eX_block ?_
   refine eX_then ?_
   refine cW_region ?_
   refine wS_pure 3 [(5, .int .i64 (wr (x3 + 1))), (11, .int .i64 (wr (x3 + 1))), (10, .int .i64 (x3))] (by kernel_rfl) ?_
   refine wS_end (by rfl) ?_
   have hq : (some (Ctl.next ((y1.1, wr (x3 + 1), l2.set (Int.toNat x3) y1.2))) : Option (Ctl (Int × Int × (List (List (Int)))) (Int × (List (List (Int)))))) = some _ := hm
   replace hq := someE hq
   subst hq
   exact eX_next hx1 (fun hst => ⟨y1.1, wr (x3 + 1), l2.set (Int.toNat x3) y1.2, rfl, Fr.of hst (by kernel_rfl), F4, hl3, hB, hZ⟩)
  ·have hm := condF hb1 hm
   refine cW_exit ?_
   refine eX_then_exit ?_
   have hq : (some (Ctl.out ((x2, l2))) : Option (Ctl (Int × Int × (List (List (Int)))) (Int × (List (List (Int)))))) = some _ := hm
   replace hq := someE hq
   subst hq
   refine eX_outX hx1 (fun hr2 => ?_)
   replace hr2 := hr2.symm
   subst hr2
   refine eX_block_hit ?_
   exact eX_J (fun hst => ⟨x2, l2, rfl, Fr.of hst (by kernel_rfl), F1, hl1, hB, hZ⟩)
 ·rintro a' w3 ⟨x1, l1, hJ, hF2, F5, hl4, hB, hZ⟩
  subst hJ
  refine Fr.goX hF2 (by kernel_rfl) ?_
  refine eX_then ?_
  refine cW_seq ?_
  refine cW_region ?_
  refine wS_pure 2 [(4, .int .i64 (x1)), (18, .int .i64 (x1))] (by kernel_rfl) ?_
  refine wS_end (by rfl) ?_
  refine eX_then ?_
  refine cW_ret ?_
  have hq : (some ((x1, l1)) : Option ((Int) × (List (List (Int))))) = some _ := hm
  replace hq := someE hq
  subst hq
  refine eX_ret (vs := [.int .i64 (x1)]) [.tmp 4] (by rfl) ⟨by (show lkE _ _ _ = _); kernel_rfl, trivial⟩ ?_
  exact ⟨rfl, F5, (by first | exact hl4 | rfl), hB⟩

set_option maxRecDepth 100000 in
/-- laws.heldInt64S -/
theorem c_laws_heldInt64S {w0 : World} {l0 : List (Int)} {A0 : Option Addr} {cap0 : Nat} {fp0 : List Nat} {p1 : Int} {r : (Int)} (hm : m_laws_heldInt64S l0 p1 = some r) (F0 : Sl 1 encI w0 fp0 A0 l0) :
  Calls Tryd.prog 68 #[.slice A0 (l0).length cap0, .int .i64 (p1)] w0 fun e w' => e = .returned (.int .i64 (r)) ∧ Chg [] w0 w' := by
 have L0 := F0.low
 have hB : Chg [] w0 w0 := Chg.refl _ _
 have hZ := Nat.le_refl w0.heap.size
 unfold m_laws_heldInt64S at hm
 refine enterE (N := 21) Tryd.func68 (by rfl) Tryd.ntmps68 (by simp) [(0, .slice A0 (l0).length cap0), (1, .int .i64 (p1))] (by rfl) (by kernel_rfl) (fun a => ?_)
 refine cW_seq ?_
 refine cW_region ?_
 refine wS_pure 1 [(4, .int .i64 (0))] (by kernel_rfl) ?_
 refine wS_end (by rfl) ?_
 refine eX_then ?_
 refine cW_seq ?_
 refine cW_seq ?_
 refine cW_region ?_
 refine wS_pure 1 [(5, .int .i64 (0))] (by kernel_rfl) ?_
 refine wS_end (by rfl) ?_
 refine eX_then ?_
 obtain ⟨r1, hr1, hm⟩ := bindE hm
 have hm1 := hm
 refine cW_cut (fun a' w' => ∃ x1 : Int, Sum.inl x1 = r1 ∧ Fr 21 [(1, .int .i64 (x1))] a' ∧ Chg [] w0 w' ∧ w0.heap.size ≤ w'.heap.size) ?_ ?_
 ·refine cW_block ?_
  refine cW_loop _ (fun (s1 : Int × Int) a' w' => ∃ x2 : Int, ∃ x3 : Int, (x2, x3) = s1 ∧ Fr 21 [(0, .slice A0 (l0).length cap0), (1, .int .i64 (x2)), (5, .int .i64 (x3))] a' ∧ Sl 1 encI w' fp0 A0 l0 ∧ Chg [] w0 w' ∧ w0.heap.size ≤ w'.heap.size) hr1 (fun hst => ⟨p1, 0, rfl, Fr.of hst (by kernel_rfl), F0, hB, hZ⟩) ?_
  rintro _ c1 a' w1 ⟨x2, x3, rfl, hF1, F1, hB, hZ⟩ hx1
  refine Fr.goOn hF1 (by kernel_rfl) ?_
  have hm := hx1
  unfold m_laws_heldInt64S_s1 at hm
  refine cW_seq ?_
  refine cW_seq ?_
  refine cW_region ?_
  refine wS_pure 4 [(9, .bool (decide (x3 < (((l0).length : Int))))), (8, .int .i64 (((l0).length : Int))), (7, .slice A0 (l0).length cap0), (6, .int .i64 (x3))] (by kernel_rfl) ?_
  refine wS_end (by rfl) ?_
  refine eX_then ?_
  refine cW_cond (t := decide (x3 < (((l0).length : Int)))) (by kernel_rfl) (fun hb1 => ?_) (fun hb1 => ?_)
  ·have hm := condT hb1 hm
   refine cW_skip ?_
   refine eX_then ?_
   refine cW_seq ?_
   refine cW_block ?_
   refine cW_seq ?_
   refine cW_seq ?_
   refine cW_region ?_
   refine wS_pure 2 [(13, .int .i64 (x3)), (12, .slice A0 (l0).length cap0)] (by kernel_rfl) ?_
   obtain ⟨x4, hx2, hm⟩ := bindE hm
   refine wS_idx (d := 14) (T := 24) (A := A0) (n := (l0).length) (cap := cap0) (kd := .i64) (m := x3) (by kernel_rfl) sl24 (F1.is hx2) ?_
   refine wS_load1 (d := 15) (T := 2) (ad := (elA A0 1 (x3) 0)) (v := .int .i64 (x4)) (by kernel_rfl) vt2 (Sl.cell F1 hx2 0 (by rfl)) ?_
   refine wS_pure 2 [(17, .bool (x4 != x2)), (16, .int .i64 (x2))] (by kernel_rfl) ?_
   refine wS_end (by rfl) ?_
   refine eX_then ?_
   refine cW_cond (t := x4 != x2) (by kernel_rfl) (fun hb2 => ?_) (fun hb2 => ?_)
   ·have hm := condT hb2 hm
    refine cW_seq ?_
    refine cW_region ?_
    refine wS_pure 1 [(4, .int .i64 ((-1)))] (by kernel_rfl) ?_
    refine wS_end (by rfl) ?_
    refine eX_then ?_
    refine cW_ret ?_
    refine eX_then_ret ?_
    refine eX_block_ret ?_
    refine eX_then_ret ?_
    have hq : (some (Ctl.out (Sum.inr ((-1)))) : Option (Ctl (Int × Int) (Sum (Int) ((Int))))) = some _ := hm
    replace hq := someE hq
    subst hq
    refine eX_outR hx1 (fun hr => ?_)
    subst hr
    refine eX_block_ret ?_
    refine eX_then_ret ?_
    refine eX_then_ret ?_
    have hq : (some ((-1)) : Option ((Int))) = some _ := hm1
    replace hq := someE hq
    subst hq
    refine eX_ret (vs := [.int .i64 ((-1))]) [.tmp 4] (by rfl) ⟨by (show lkE _ _ _ = _); kernel_rfl, trivial⟩ ?_
    exact ⟨rfl, hB⟩
   ·have hm := condF hb2 hm
    refine cW_skip ?_
    refine eX_then ?_
    refine cW_region ?_
    refine wS_pure 3 [(1, .int .i64 (wr (x2 + 1))), (19, .int .i64 (wr (x2 + 1))), (18, .int .i64 (x2))] (by kernel_rfl) ?_
    refine wS_end (by rfl) ?_
    refine eX_block ?_
    refine eX_then ?_
    refine cW_region ?_
    refine wS_pure 3 [(5, .int .i64 (wr (x3 + 1))), (11, .int .i64 (wr (x3 + 1))), (10, .int .i64 (x3))] (by kernel_rfl) ?_
    refine wS_end (by rfl) ?_
    have hq : (some (Ctl.next ((wr (x2 + 1), wr (x3 + 1)))) : Option (Ctl (Int × Int) (Sum (Int) ((Int))))) = some _ := hm
    replace hq := someE hq
    subst hq
    exact eX_next hx1 (fun hst => ⟨wr (x2 + 1), wr (x3 + 1), rfl, Fr.of hst (by kernel_rfl), F1, hB, hZ⟩)
  ·have hm := condF hb1 hm
   refine cW_exit ?_
   refine eX_then_exit ?_
   have hq : (some (Ctl.out (Sum.inl x2)) : Option (Ctl (Int × Int) (Sum (Int) ((Int))))) = some _ := hm
   replace hq := someE hq
   subst hq
   refine eX_outX hx1 (fun hr2 => ?_)
   replace hr2 := hr2.symm
   subst hr2
   refine eX_block_hit ?_
   exact eX_J (fun hst => ⟨x2, rfl, Fr.of hst (by kernel_rfl), hB, hZ⟩)
 ·rintro a' w2 ⟨x1, hJ, hF2, hB, hZ⟩
  subst hJ
  refine Fr.goX hF2 (by kernel_rfl) ?_
  refine eX_then ?_
  refine cW_seq ?_
  refine cW_region ?_
  refine wS_pure 2 [(4, .int .i64 (x1)), (20, .int .i64 (x1))] (by kernel_rfl) ?_
  refine wS_end (by rfl) ?_
  refine eX_then ?_
  refine cW_ret ?_
  have hq : (some x1 : Option ((Int))) = some _ := hm
  replace hq := someE hq
  subst hq
  refine eX_ret (vs := [.int .i64 (x1)]) [.tmp 4] (by rfl) ⟨by (show lkE _ _ _ = _); kernel_rfl, trivial⟩ ?_
  exact ⟨rfl, hB⟩

set_option maxRecDepth 100000 in
/-- laws.heldInt64SS -/
theorem c_laws_heldInt64SS {w0 : World} {l0 : List (List (Int))} {A0 : Option Addr} {cap0 : Nat} {fp0 : List Nat} {p1 : Int} {r : (Int)} (hm : m_laws_heldInt64SS l0 p1 = some r) (F0 : SlR 1 encI w0 fp0 A0 l0) :
  Calls Tryd.prog 27 #[.slice A0 (l0).length cap0, .int .i64 (p1)] w0 fun e w' => e = .returned (.int .i64 (r)) ∧ Chg [] w0 w' := by
 have L0 := F0.low
 have hB : Chg [] w0 w0 := Chg.refl _ _
 have hZ := Nat.le_refl w0.heap.size
 unfold m_laws_heldInt64SS at hm
 refine enterE (N := 21) Tryd.func27 (by rfl) Tryd.ntmps27 (by simp) [(0, .slice A0 (l0).length cap0), (1, .int .i64 (p1))] (by rfl) (by kernel_rfl) (fun a => ?_)
 refine cW_seq ?_
 refine cW_region ?_
 refine wS_pure 1 [(4, .int .i64 (0))] (by kernel_rfl) ?_
 refine wS_end (by rfl) ?_
 refine eX_then ?_
 refine cW_seq ?_
 refine cW_seq ?_
 refine cW_region ?_
 refine wS_pure 1 [(5, .int .i64 (0))] (by kernel_rfl) ?_
 refine wS_end (by rfl) ?_
 refine eX_then ?_
 obtain ⟨r1, hr1, hm⟩ := bindE hm
 have hm1 := hm
 refine cW_cut (fun a' w' => ∃ x1 : Int, Sum.inl x1 = r1 ∧ Fr 21 [(1, .int .i64 (x1))] a' ∧ Chg [] w0 w' ∧ w0.heap.size ≤ w'.heap.size) ?_ ?_
 ·refine cW_block ?_
  refine cW_loop _ (fun (s1 : Int × Int) a' w' => ∃ x2 : Int, ∃ x3 : Int, (x2, x3) = s1 ∧ Fr 21 [(0, .slice A0 (l0).length cap0), (1, .int .i64 (x2)), (5, .int .i64 (x3))] a' ∧ SlR 1 encI w' fp0 A0 l0 ∧ Chg [] w0 w' ∧ w0.heap.size ≤ w'.heap.size) hr1 (fun hst => ⟨p1, 0, rfl, Fr.of hst (by kernel_rfl), F0, hB, hZ⟩) ?_
  rintro _ c1 a' w1 ⟨x2, x3, rfl, hF1, F1, hB, hZ⟩ hx1
  refine Fr.goOn hF1 (by kernel_rfl) ?_
  have hm := hx1
  unfold m_laws_heldInt64SS_s1 at hm
  refine cW_seq ?_
  refine cW_seq ?_
  refine cW_region ?_
  refine wS_pure 4 [(9, .bool (decide (x3 < (((l0).length : Int))))), (8, .int .i64 (((l0).length : Int))), (7, .slice A0 (l0).length cap0), (6, .int .i64 (x3))] (by kernel_rfl) ?_
  refine wS_end (by rfl) ?_
  refine eX_then ?_
  refine cW_cond (t := decide (x3 < (((l0).length : Int)))) (by kernel_rfl) (fun hb1 => ?_) (fun hb1 => ?_)
  ·have hm := condT hb1 hm
   refine cW_skip ?_
   refine eX_then ?_
   refine cW_seq ?_
   refine cW_block ?_
   refine cW_seq ?_
   refine cW_region ?_
   refine wS_pure 2 [(13, .int .i64 (x3)), (12, .slice A0 (l0).length cap0)] (by kernel_rfl) ?_
   obtain ⟨x4, hx2, hm⟩ := bindE hm
   refine wS_idx (d := 14) (T := 28) (A := A0) (n := (l0).length) (cap := cap0) (kd := .i64) (m := x3) (by kernel_rfl) sl28 (F1.is hx2) ?_
   obtain ⟨A1, cap1, hc1, F2, K1⟩ := SlR.row F1 hx2
   refine wS_load1 (d := 15) (T := 24) (ad := (elA A0 1 (x3) 0)) (v := .slice A1 (x4).length cap1) (by kernel_rfl) vt24 hc1 ?_
   refine wS_pure 1 [(16, .int .i64 (x2))] (by kernel_rfl) ?_
   obtain ⟨y1, hy1, hm⟩ := bindE hm
   refine wS_calls (d := 17) (f := 68) (vs := [.slice A1 (x4).length cap1, .int .i64 (x2)]) (by kernel_rfl) ent68 (c_laws_heldInt64S hy1 F2) ?_
   rintro _ w2 ⟨rfl, hc2⟩
   replace F1 := F1.chg hc2 Dj.nil
   replace F2 := F2.chg hc2 Dj.nil
   replace hB := hB.inS hc2 inNil
   replace hZ := Nat.le_trans hZ hc2.size
   refine ⟨.int .i64 (y1), rfl, ?_⟩
   refine wS_pure 1 [(1, .int .i64 (y1))] (by kernel_rfl) ?_
   refine wS_end (by rfl) ?_
   refine eX_then ?_
   refine cW_seq ?_
   refine cW_region ?_
   refine wS_pure 2 [(19, .bool (decide (y1 < 0))), (18, .int .i64 (y1))] (by kernel_rfl) ?_
   refine wS_end (by rfl) ?_
   refine eX_then ?_
   refine cW_cond (t := decide (y1 < 0)) (by kernel_rfl) (fun hb2 => ?_) (fun hb2 => ?_)
   ·have hm := condT hb2 hm
    refine cW_seq ?_
    refine cW_region ?_
    refine wS_pure 1 [(4, .int .i64 ((-1)))] (by kernel_rfl) ?_
    refine wS_end (by rfl) ?_
    refine eX_then ?_
    refine cW_ret ?_
    refine eX_block_ret ?_
    refine eX_then_ret ?_
    have hq : (some (Ctl.out (Sum.inr ((-1)))) : Option (Ctl (Int × Int) (Sum (Int) ((Int))))) = some _ := hm
    replace hq := someE hq
    subst hq
    refine eX_outR hx1 (fun hr => ?_)
    subst hr
    refine eX_block_ret ?_
    refine eX_then_ret ?_
    refine eX_then_ret ?_
    have hq : (some ((-1)) : Option ((Int))) = some _ := hm1
    replace hq := someE hq
    subst hq
    refine eX_ret (vs := [.int .i64 ((-1))]) [.tmp 4] (by rfl) ⟨by (show lkE _ _ _ = _); kernel_rfl, trivial⟩ ?_
    exact ⟨rfl, hB⟩
   ·have hm := condF hb2 hm
    refine cW_skip ?_
    refine eX_block ?_
    refine eX_then ?_
    refine cW_region ?_
    refine wS_pure 3 [(5, .int .i64 (wr (x3 + 1))), (11, .int .i64 (wr (x3 + 1))), (10, .int .i64 (x3))] (by kernel_rfl) ?_
    refine wS_end (by rfl) ?_
    have hq : (some (Ctl.next ((y1, wr (x3 + 1)))) : Option (Ctl (Int × Int) (Sum (Int) ((Int))))) = some _ := hm
    replace hq := someE hq
    subst hq
    exact eX_next hx1 (fun hst => ⟨y1, wr (x3 + 1), rfl, Fr.of hst (by kernel_rfl), F1, hB, hZ⟩)
  ·have hm := condF hb1 hm
   refine cW_exit ?_
   refine eX_then_exit ?_
   have hq : (some (Ctl.out (Sum.inl x2)) : Option (Ctl (Int × Int) (Sum (Int) ((Int))))) = some _ := hm
   replace hq := someE hq
   subst hq
   refine eX_outX hx1 (fun hr2 => ?_)
   replace hr2 := hr2.symm
   subst hr2
   refine eX_block_hit ?_
   exact eX_J (fun hst => ⟨x2, rfl, Fr.of hst (by kernel_rfl), hB, hZ⟩)
 ·rintro a' w3 ⟨x1, hJ, hF2, hB, hZ⟩
  subst hJ
  refine Fr.goX hF2 (by kernel_rfl) ?_
  refine eX_then ?_
  refine cW_seq ?_
  refine cW_region ?_
  refine wS_pure 2 [(4, .int .i64 (x1)), (20, .int .i64 (x1))] (by kernel_rfl) ?_
  refine wS_end (by rfl) ?_
  refine eX_then ?_
  refine cW_ret ?_
  have hq : (some x1 : Option ((Int))) = some _ := hm
  replace hq := someE hq
  subst hq
  refine eX_ret (vs := [.int .i64 (x1)]) [.tmp 4] (by rfl) ⟨by (show lkE _ _ _ = _); kernel_rfl, trivial⟩ ?_
  exact ⟨rfl, hB⟩

set_option maxRecDepth 100000 in
/-- spec.l00Max -/
theorem c_spec_l00Max {w0 : World} {p0 : Int} {p1 : Int} {r : (Int)} (hm : m_spec_l00Max p0 p1 = some r)  :
  Calls Tryd.prog 99 #[.int .i64 (p0), .int .i64 (p1)] w0 fun e w' => e = .returned (.int .i64 (r)) ∧ Chg [] w0 w' := by
 have hB : Chg [] w0 w0 := Chg.refl _ _
 have hZ := Nat.le_refl w0.heap.size
 unfold m_spec_l00Max at hm
 refine enterE (N := 10) Tryd.func99 (by rfl) Tryd.ntmps99 (by simp) [(0, .int .i64 (p0)), (1, .int .i64 (p1))] (by rfl) (by kernel_rfl) (fun a => ?_)
 refine cW_seq ?_
 refine cW_region ?_
 refine wS_pure 1 [(4, .int .i64 (0))] (by kernel_rfl) ?_
 refine wS_end (by rfl) ?_
 refine eX_then ?_
 refine cW_seq ?_
 refine cW_seq ?_
 refine cW_region ?_
 refine wS_pure 3 [(7, .bool (decide (p0 > p1))), (6, .int .i64 (p1)), (5, .int .i64 (p0))] (by kernel_rfl) ?_
 refine wS_end (by rfl) ?_
 refine eX_then ?_
 refine cW_cond (t := decide (p0 > p1)) (by kernel_rfl) (fun hb1 => ?_) (fun hb1 => ?_)
 ·have hm := condT hb1 hm
  refine cW_seq ?_
  refine cW_region ?_
  refine wS_pure 2 [(4, .int .i64 (p0)), (8, .int .i64 (p0))] (by kernel_rfl) ?_
  refine wS_end (by rfl) ?_
  refine eX_then ?_
  refine cW_ret ?_
  refine eX_then_ret ?_
  have hq : (some p0 : Option ((Int))) = some _ := hm
  replace hq := someE hq
  subst hq
  refine eX_ret (vs := [.int .i64 (p0)]) [.tmp 4] (by rfl) ⟨by (show lkE _ _ _ = _); kernel_rfl, trivial⟩ ?_
  exact ⟨rfl, hB⟩
 ·have hm := condF hb1 hm
  refine cW_skip ?_
  refine eX_then ?_
  refine cW_seq ?_
  refine cW_region ?_
  refine wS_pure 2 [(4, .int .i64 (p1)), (9, .int .i64 (p1))] (by kernel_rfl) ?_
  refine wS_end (by rfl) ?_
  refine eX_then ?_
  refine cW_ret ?_
  have hq : (some p1 : Option ((Int))) = some _ := hm
  replace hq := someE hq
  subst hq
  refine eX_ret (vs := [.int .i64 (p1)]) [.tmp 4] (by rfl) ⟨by (show lkE _ _ _ = _); kernel_rfl, trivial⟩ ?_
  exact ⟨rfl, hB⟩

set_option maxRecDepth 100000 in
/-- spec.l00Min -/
theorem c_spec_l00Min {w0 : World} {p0 : Int} {p1 : Int} {r : (Int)} (hm : m_spec_l00Min p0 p1 = some r)  :
  Calls Tryd.prog 100 #[.int .i64 (p0), .int .i64 (p1)] w0 fun e w' => e = .returned (.int .i64 (r)) ∧ Chg [] w0 w' := by
 have hB : Chg [] w0 w0 := Chg.refl _ _
 have hZ := Nat.le_refl w0.heap.size
 unfold m_spec_l00Min at hm
 refine enterE (N := 10) Tryd.func100 (by rfl) Tryd.ntmps100 (by simp) [(0, .int .i64 (p0)), (1, .int .i64 (p1))] (by rfl) (by kernel_rfl) (fun a => ?_)
 refine cW_seq ?_
 refine cW_region ?_
 refine wS_pure 1 [(4, .int .i64 (0))] (by kernel_rfl) ?_
 refine wS_end (by rfl) ?_
 refine eX_then ?_
 refine cW_seq ?_
 refine cW_seq ?_
 refine cW_region ?_
 refine wS_pure 3 [(7, .bool (decide (p0 < p1))), (6, .int .i64 (p1)), (5, .int .i64 (p0))] (by kernel_rfl) ?_
 refine wS_end (by rfl) ?_
 refine eX_then ?_
 refine cW_cond (t := decide (p0 < p1)) (by kernel_rfl) (fun hb1 => ?_) (fun hb1 => ?_)
 ·have hm := condT hb1 hm
  refine cW_seq ?_
  refine cW_region ?_
  refine wS_pure 2 [(4, .int .i64 (p0)), (8, .int .i64 (p0))] (by kernel_rfl) ?_
  refine wS_end (by rfl) ?_
  refine eX_then ?_
  refine cW_ret ?_
  refine eX_then_ret ?_
  have hq : (some p0 : Option ((Int))) = some _ := hm
  replace hq := someE hq
  subst hq
  refine eX_ret (vs := [.int .i64 (p0)]) [.tmp 4] (by rfl) ⟨by (show lkE _ _ _ = _); kernel_rfl, trivial⟩ ?_
  exact ⟨rfl, hB⟩
 ·have hm := condF hb1 hm
  refine cW_skip ?_
  refine eX_then ?_
  refine cW_seq ?_
  refine cW_region ?_
  refine wS_pure 2 [(4, .int .i64 (p1)), (9, .int .i64 (p1))] (by kernel_rfl) ?_
  refine wS_end (by rfl) ?_
  refine eX_then ?_
  refine cW_ret ?_
  have hq : (some p1 : Option ((Int))) = some _ := hm
  replace hq := someE hq
  subst hq
  refine eX_ret (vs := [.int .i64 (p1)]) [.tmp 4] (by rfl) ⟨by (show lkE _ _ _ = _); kernel_rfl, trivial⟩ ?_
  exact ⟨rfl, hB⟩

set_option maxRecDepth 100000 in
/-- spec.l03Pieces -/
theorem c_spec_l03Pieces_bimplChannel {w0 : World} {l0_0 : List (Int)} {A0_0 : Option Addr} {cap0_0 : Nat} {fp0_0 : List Nat} {l0_1 : List (Int)} {A0_1 : Option Addr} {cap0_1 : Nat} {fp0_1 : List Nat} {b0 : Nat} {r : (List (List (Int)))} (hm : m_spec_l03Pieces_bimplChannel l0_0 l0_1 = some r) (F0_0 : Sl 1 encI w0 fp0_0 A0_0 l0_0) (F0_1 : Sl 1 encI w0 fp0_1 A0_1 l0_1) (F0 : Cl w0 b0 26 [.slice A0_0 (l0_0).length cap0_0, .slice A0_1 (l0_1).length cap0_1]) :
  Calls Tryd.prog 98 #[.pointer (some ⟨b0, 0, none⟩)] w0 fun e w' => ∃ A100 cap100 fp100 fr100, e = .returned (.slice A100 (r).length cap100) ∧ OwR 1 encI 24 2 w' fp100 fr100 A100 cap100 r ∧ (∀ x ∈ fp100 ++ fr100, w0.heap.size ≤ x) ∧ Chg [] w0 w' := by
 have L0_0 := F0_0.low
 have L0_1 := F0_1.low
 have L0 := lt1 F0.lt
 have hB : Chg [] w0 w0 := Chg.refl _ _
 have hZ := Nat.le_refl w0.heap.size
 unfold m_spec_l03Pieces_bimplChannel at hm
 refine enterE (N := 66) Tryd.func98 (by rfl) Tryd.ntmps98 (by simp) [(0, .pointer (some ⟨b0, 0, none⟩))] (by rfl) (by kernel_rfl) (fun a => ?_)
 refine cW_seq ?_
 refine cW_region ?_
 refine wS_pure 1 [(2, .slice none 0 0)] (by kernel_rfl) ?_
 refine wS_end (by rfl) ?_
 refine eX_then ?_
 refine cW_seq ?_
 refine cW_region ?_
 refine wS_rows0 (k := 1) (enc := encI) (d := 8) (t := 28) (T := 24) (T2 := 2) (by kernel_rfl) el28 ?_
 intro b1 w1 G1 F1 hc1
 replace F0_0 := F0_0.chg hc1 Dj.nil
 replace F0_1 := F0_1.chg hc1 Dj.nil
 replace F0 := F0.chg hc1 notNil
 replace hB := hB.inS hc1 inNil
 replace G1 := Nat.le_trans hZ G1
 replace G1 := low1 G1
 replace hZ := Nat.le_trans hZ hc1.size
 replace G1 := lowApp G1 lowNil
 refine wS_pure 1 [(3, .slice (some ⟨b1, 0, none⟩) (([] : List (List (Int)))).length 0)] (by kernel_rfl) ?_
 refine wS_end (by rfl) ?_
 refine eX_then ?_
 refine cW_seq ?_
 refine cW_region ?_
 refine wS_pure 1 [(9, .pointer (some ⟨b0, 0, none⟩))] (by kernel_rfl) ?_
 obtain ⟨y1, hy1, hm⟩ := bindE hm
 refine wS_calls (d := 10) (f := 55) (vs := [.pointer (some ⟨b0, 0, none⟩)]) (by kernel_rfl) ent55 (c_spec_l03Nets_bimplChannel hy1 F0_0 F0_1 F0) ?_
 rintro _ w2 ⟨A1, cap1, fp1, rfl, F2, G2, hc2⟩
 have D1 : Dj ([b1] ++ []) fp1 := Dj.of F1.low G2
 replace F0_0 := F0_0.chg hc2 Dj.nil
 replace F0_1 := F0_1.chg hc2 Dj.nil
 replace F0 := F0.chg hc2 notNil
 replace F1 := F1.chg hc2 Dj.nil
 replace hB := hB.inS hc2 inNil
 replace G2 := low_le hZ G2
 replace hZ := Nat.le_trans hZ hc2.size
 refine ⟨.slice A1 (y1).length cap1, rfl, ?_⟩
 refine wS_pure 1 [(4, .slice A1 (y1).length cap1)] (by kernel_rfl) ?_
 refine wS_end (by rfl) ?_
 refine eX_then ?_
 refine cW_seq ?_
 refine cW_seq ?_
 refine cW_region ?_
 refine wS_pure 1 [(5, .int .i64 (0))] (by kernel_rfl) ?_
 refine wS_end (by rfl) ?_
 refine eX_then ?_
 obtain ⟨r1, hr1, hm⟩ := bindE hm
 have hm1 := hm
 refine cW_cut (fun a' w' => ∃ l1 : List (List (Int)), ∃ A3 : Option Addr, ∃ cap3 : Nat, ∃ fp2 : List Nat, ∃ fr1 : List Nat, l1 = r1 ∧ Fr 66 [(3, .slice A3 (l1).length cap3)] a' ∧ OwR 1 encI 24 2 w' fp2 fr1 A3 cap3 l1 ∧ (∀ x ∈ (fp2 ++ fr1), w0.heap.size ≤ x) ∧ Chg [] w0 w' ∧ w0.heap.size ≤ w'.heap.size) ?_ ?_
 ·refine cW_block ?_
  refine cW_loop _ (fun (s1 : (List (List (Int))) × Int) a' w' => ∃ l2 : List (List (Int)), ∃ A4 : Option Addr, ∃ cap4 : Nat, ∃ fp3 : List Nat, ∃ fr2 : List Nat, ∃ x1 : Int, (l2, x1) = s1 ∧ Fr 66 [(0, .pointer (some ⟨b0, 0, none⟩)), (3, .slice A4 (l2).length cap4), (4, .slice A1 (y1).length cap1), (5, .int .i64 (x1))] a' ∧ Sl 1 encI w' fp0_0 A0_0 l0_0 ∧ Sl 1 encI w' fp0_1 A0_1 l0_1 ∧ Cl w' b0 26 [.slice A0_0 (l0_0).length cap0_0, .slice A0_1 (l0_1).length cap0_1] ∧ Ow 1 encI 2 w' fp1 A1 cap1 y1 ∧ OwR 1 encI 24 2 w' fp3 fr2 A4 cap4 l2 ∧ (∀ x ∈ (fp3 ++ fr2), w0.heap.size ≤ x) ∧ Dj fp1 (fp3 ++ fr2) ∧ Chg [] w0 w' ∧ w0.heap.size ≤ w'.heap.size) hr1 (fun hst => ⟨([] : List (List (Int))), (some ⟨b1, 0, none⟩), 0, [b1], [], 0, rfl, Fr.of hst (by kernel_rfl), F0_0, F0_1, F0, F2, F1, G1, (D1).symm, hB, hZ⟩) ?_
  rintro _ c1 a' w3 ⟨l2, A4, cap4, fp3, fr2, x1, rfl, hF1, F3, F4, F5, F6, F7, G3, D2, hB, hZ⟩ hx1
  refine Fr.goOn hF1 (by kernel_rfl) ?_
  have hm := hx1
  unfold m_spec_l03Pieces_bimplChannel_s3 at hm
  refine cW_seq ?_
  refine cW_seq ?_
  refine cW_region ?_
  refine wS_pure 4 [(14, .bool (decide (x1 < (((y1).length : Int))))), (13, .int .i64 (((y1).length : Int))), (12, .slice A1 (y1).length cap1), (11, .int .i64 (x1))] (by kernel_rfl) ?_
  refine wS_end (by rfl) ?_
  refine eX_then ?_
  refine cW_cond (t := decide (x1 < (((y1).length : Int)))) (by kernel_rfl) (fun hb1 => ?_) (fun hb1 => ?_)
  ·have hm := condT hb1 hm
   refine cW_skip ?_
   refine eX_then ?_
   refine cW_seq ?_
   refine cW_block ?_
   refine cW_seq ?_
   refine cW_region ?_
   refine wS_pure 1 [(6, .int .i64 ((-1)))] (by kernel_rfl) ?_
   refine wS_end (by rfl) ?_
   refine eX_then ?_
   refine cW_seq ?_
   refine cW_region ?_
   refine wS_pure 1 [(7, .int .i64 (0))] (by kernel_rfl) ?_
   refine wS_end (by rfl) ?_
   refine eX_then ?_
   obtain ⟨r2, hr2, hm⟩ := bindE hm
   have hm2 := hm
   refine cW_cut (fun a' w' => ∃ l3 : List (List (Int)), ∃ A5 : Option Addr, ∃ cap5 : Nat, ∃ fp4 : List Nat, ∃ fr3 : List Nat, l3 = r2 ∧ Fr 66 [(0, .pointer (some ⟨b0, 0, none⟩)), (3, .slice A5 (l3).length cap5), (4, .slice A1 (y1).length cap1), (5, .int .i64 (x1))] a' ∧ Sl 1 encI w' fp0_0 A0_0 l0_0 ∧ Sl 1 encI w' fp0_1 A0_1 l0_1 ∧ Cl w' b0 26 [.slice A0_0 (l0_0).length cap0_0, .slice A0_1 (l0_1).length cap0_1] ∧ Ow 1 encI 2 w' fp1 A1 cap1 y1 ∧ OwR 1 encI 24 2 w' fp4 fr3 A5 cap5 l3 ∧ (∀ x ∈ (fp4 ++ fr3), w0.heap.size ≤ x) ∧ Dj fp1 (fp4 ++ fr3) ∧ Chg [] w0 w' ∧ w0.heap.size ≤ w'.heap.size) ?_ ?_
   ·refine cW_block ?_
    refine cW_loop _ (fun (s2 : (List (List (Int))) × Int × Int) a' w' => ∃ l4 : List (List (Int)), ∃ A6 : Option Addr, ∃ cap6 : Nat, ∃ fp5 : List Nat, ∃ fr4 : List Nat, ∃ x2 : Int, ∃ x3 : Int, (l4, x2, x3) = s2 ∧ Fr 66 [(0, .pointer (some ⟨b0, 0, none⟩)), (3, .slice A6 (l4).length cap6), (4, .slice A1 (y1).length cap1), (5, .int .i64 (x1)), (6, .int .i64 (x2)), (7, .int .i64 (x3))] a' ∧ Sl 1 encI w' fp0_0 A0_0 l0_0 ∧ Sl 1 encI w' fp0_1 A0_1 l0_1 ∧ Cl w' b0 26 [.slice A0_0 (l0_0).length cap0_0, .slice A0_1 (l0_1).length cap0_1] ∧ Ow 1 encI 2 w' fp1 A1 cap1 y1 ∧ OwR 1 encI 24 2 w' fp5 fr4 A6 cap6 l4 ∧ (∀ x ∈ (fp5 ++ fr4), w0.heap.size ≤ x) ∧ Dj fp1 (fp5 ++ fr4) ∧ Chg [] w0 w' ∧ w0.heap.size ≤ w'.heap.size) hr2 (fun hst => ⟨l2, A4, cap4, fp3, fr2, (-1), 0, rfl, Fr.of hst (by kernel_rfl), F3, F4, F5, F6, F7, G3, D2, hB, hZ⟩) ?_
    rintro _ c2 a' w4 ⟨l4, A6, cap6, fp5, fr4, x2, x3, rfl, hF2, F8, F9, F10, F11, F12, G4, D3, hB, hZ⟩ hx2
    refine Fr.goOn hF2 (by kernel_rfl) ?_
    have hm := hx2
    unfold m_spec_l03Pieces_bimplChannel_s4 at hm
    refine cW_seq ?_
    refine cW_seq ?_
    refine cW_region ?_
    refine wS_pure 4 [(20, .pointer (some ⟨b0, 0, none⟩)), (19, .pointer (some ⟨b0, 0, none⟩)), (18, .pointer (some ⟨b0, 0, none⟩)), (17, .int .i64 (x3))] (by kernel_rfl) ?_
    refine wS_load1 (d := 21) (T := 24) (ad := ⟨b0, 0, none⟩) (v := .slice A0_0 (l0_0).length cap0_0) (by kernel_rfl) vt24 ((F10).cell 0) ?_
    refine wS_pure 2 [(23, .bool (decide (x3 < (((l0_0).length : Int))))), (22, .int .i64 (((l0_0).length : Int)))] (by kernel_rfl) ?_
    refine wS_end (by rfl) ?_
    refine eX_then ?_
    refine cW_cond (t := decide (x3 < (((l0_0).length : Int)))) (by kernel_rfl) (fun hb2 => ?_) (fun hb2 => ?_)
    ·have hm := condT hb2 hm
     refine cW_skip ?_
     refine eX_then ?_
     refine cW_seq ?_
     refine cW_block ?_
     refine cW_seq ?_
     refine cW_seq ?_
     refine cW_drawnTail [] 24 (by kernel_rfl) (by kernel_rfl) (fun w5 hc3 => ?_)
     replace F8 := F8.chg hc3 Dj.nil
     replace F9 := F9.chg hc3 Dj.nil
     replace F10 := F10.chg hc3 notNil
     replace F11 := F11.chg hc3 Dj.nil
     replace F12 := F12.chg hc3 Dj.nil
     replace hB := hB.inS hc3 inNil
     replace hZ := Nat.le_trans hZ hc3.size
     have hS := Chg.refl [] w5
     have Z1 := F8
     have Z2 := F9
     have Z3 := F10
     have Z4 := F11
     have Z5 := F12
     refine wH_take [0, 1, 2] [2, 1, 0] [(28, .pointer (some ⟨b0, 0, none⟩)), (27, .pointer (some ⟨b0, 0, none⟩)), (26, .pointer (some ⟨b0, 0, none⟩))] (by kernel_rfl) (qT (qT (qT (qB (qT (qL (qB (qT (qB (qT (qL (qB (qT (qT qZ)))))))))))))) (by kernel_rfl) ?_
     refine wH_load1 (i := 3) (d := 29) (T := 24) (ad := ⟨b0, 0, none⟩) (v := .slice A0_0 (l0_0).length cap0_0) (by kernel_rfl) (qT (qT (qT (qB (qT (qL (qB (qT (qB (qT (qL (qB (qT (qT qZ)))))))))))))) (by kernel_rfl) (by kernel_rfl) vt24 (fun W hW => (Z3.chg hW notNil).cell 0) ?_
     refine wH_take [4] [4, 3, 2, 1, 0] [(30, .int .i64 (x3))] (by kernel_rfl) (qT (qT (qT (qB (qT (qL (qB (qT (qB (qT (qL (qB (qT (qT qZ)))))))))))))) (by kernel_rfl) ?_
     obtain ⟨x4, hx3, hm⟩ := bindE hm
     refine wH_idx (i := 5) (d := 31) (T := 24) (A := A0_0) (n := (l0_0).length) (cap := cap0_0) (kd := .i64) (m := x3) (by kernel_rfl) (qT (qT (qT (qB (qT (qL (qB (qT (qB (qT (qL (qB (qT (qT qZ)))))))))))))) (by kernel_rfl) (by kernel_rfl) sl24 (F8.is hx3) ?_
     refine wH_load1 (i := 6) (d := 32) (T := 2) (ad := (elA A0_0 1 (x3) 0)) (v := .int .i64 (x4)) (by kernel_rfl) (qT (qT (qT (qB (qT (qL (qB (qT (qB (qT (qL (qB (qT (qT qZ)))))))))))))) (by kernel_rfl) (by kernel_rfl) vt2 (fun W hW => Sl.cell (Z1.chg hW Dj.nil) hx3 0 (by rfl)) ?_
     refine wH_take [7, 8] [8, 7, 6, 5, 4, 3, 2, 1, 0] [(34, .int .i64 (x1)), (33, .slice A1 (y1).length cap1)] (by kernel_rfl) (qT (qT (qT (qB (qT (qL (qB (qT (qB (qT (qL (qB (qT (qT qZ)))))))))))))) (by kernel_rfl) ?_
     obtain ⟨x5, hx4, hm⟩ := bindE hm
     refine wH_idx (i := 9) (d := 35) (T := 24) (A := A1) (n := (y1).length) (cap := cap1) (kd := .i64) (m := x1) (by kernel_rfl) (qT (qT (qT (qB (qT (qL (qB (qT (qB (qT (qL (qB (qT (qT qZ)))))))))))))) (by kernel_rfl) (by kernel_rfl) sl24 ((F11.sl encI_ok).is hx4) ?_
     refine wH_load1 (i := 10) (d := 36) (T := 2) (ad := (elA A1 1 (x1) 0)) (v := .int .i64 (x5)) (by kernel_rfl) (qT (qT (qT (qB (qT (qL (qB (qT (qB (qT (qL (qB (qT (qT qZ)))))))))))))) (by kernel_rfl) (by kernel_rfl) vt2 (fun W hW => Sl.cell ((Z4.chg hW Dj.nil).sl encI_ok) hx4 0 (by rfl)) ?_
     refine wH_take [11, 12] [12, 11, 10, 9, 8, 7, 6, 5, 4, 3, 2, 1, 0] [(38, .bool (x4 != x5)), (37, .bool (x4 != x5))] (by kernel_rfl) (qT (qT (qT (qB (qT (qL (qB (qT (qB (qT (qL (qB (qT (qT qZ)))))))))))))) (by kernel_rfl) ?_
     refine wH_bool (x4 != x5) (fun hb3 => ?_) (fun hb3 => ?_)
     ·have hm := condT hb3 hm
      rewrite [hb3]
      refine wH_take [13, 14, 15] [15, 14, 13, 12, 11, 10, 9, 8, 7, 6, 5, 4, 3, 2, 1, 0] [(41, .pointer (some ⟨b0, 1, none⟩)), (40, .pointer (some ⟨b0, 0, none⟩)), (39, .pointer (some ⟨b0, 0, none⟩))] (by kernel_rfl) (qT (qT (qT (qB (qT (qL (qB (qT (qB (qT (qL (qB (qT (qT qZ)))))))))))))) (by kernel_rfl) ?_
      refine wH_load1 (i := 16) (d := 42) (T := 24) (ad := ⟨b0, 1, none⟩) (v := .slice A0_1 (l0_1).length cap0_1) (by kernel_rfl) (qT (qT (qT (qB (qT (qL (qB (qT (qB (qT (qL (qB (qT (qT qZ)))))))))))))) (by kernel_rfl) (by kernel_rfl) vt24 (fun W hW => (Z3.chg hW notNil).cell 1) ?_
      refine wH_take [17] [17, 16, 15, 14, 13, 12, 11, 10, 9, 8, 7, 6, 5, 4, 3, 2, 1, 0] [(43, .int .i64 (x3))] (by kernel_rfl) (qT (qT (qT (qB (qT (qL (qB (qT (qB (qT (qL (qB (qT (qT qZ)))))))))))))) (by kernel_rfl) ?_
      obtain ⟨x6, hx5, hm⟩ := bindE hm
      refine wH_idx (i := 18) (d := 44) (T := 24) (A := A0_1) (n := (l0_1).length) (cap := cap0_1) (kd := .i64) (m := x3) (by kernel_rfl) (qT (qT (qT (qB (qT (qL (qB (qT (qB (qT (qL (qB (qT (qT qZ)))))))))))))) (by kernel_rfl) (by kernel_rfl) sl24 (F9.is hx5) ?_
      refine wH_load1 (i := 19) (d := 45) (T := 2) (ad := (elA A0_1 1 (x3) 0)) (v := .int .i64 (x6)) (by kernel_rfl) (qT (qT (qT (qB (qT (qL (qB (qT (qB (qT (qL (qB (qT (qT qZ)))))))))))))) (by kernel_rfl) (by kernel_rfl) vt2 (fun W hW => Sl.cell (Z2.chg hW Dj.nil) hx5 0 (by rfl)) ?_
      refine wH_take [20, 21] [21, 20, 19, 18, 17, 16, 15, 14, 13, 12, 11, 10, 9, 8, 7, 6, 5, 4, 3, 2, 1, 0] [(47, .int .i64 (x1)), (46, .slice A1 (y1).length cap1)] (by kernel_rfl) (qT (qT (qT (qB (qT (qL (qB (qT (qB (qT (qL (qB (qT (qT qZ)))))))))))))) (by kernel_rfl) ?_
      obtain ⟨x7, hx6, hm⟩ := bindE hm
      refine wH_idx (i := 22) (d := 48) (T := 24) (A := A1) (n := (y1).length) (cap := cap1) (kd := .i64) (m := x1) (by kernel_rfl) (qT (qT (qT (qB (qT (qL (qB (qT (qB (qT (qL (qB (qT (qT qZ)))))))))))))) (by kernel_rfl) (by kernel_rfl) sl24 ((F11.sl encI_ok).is hx6) ?_
      refine wH_load1 (i := 23) (d := 49) (T := 2) (ad := (elA A1 1 (x1) 0)) (v := .int .i64 (x7)) (by kernel_rfl) (qT (qT (qT (qB (qT (qL (qB (qT (qB (qT (qL (qB (qT (qT qZ)))))))))))))) (by kernel_rfl) (by kernel_rfl) vt2 (fun W hW => Sl.cell ((Z4.chg hW Dj.nil).sl encI_ok) hx6 0 (by rfl)) ?_
      refine wH_done (by kernel_rfl) ?_
      refine eX_tail ?_
      refine wS_pure 2 [(51, .bool (x6 != x7)), (50, .bool (x6 != x7))] (by kernel_rfl) ?_
      refine wS_end (by rfl) ?_
      refine eX_then ?_
      refine cW_prune [(0, .pointer (some ⟨b0, 0, none⟩)), (3, .slice A6 (l4).length cap6), (4, .slice A1 (y1).length cap1), (5, .int .i64 (x1)), (6, .int .i64 (x2)), (7, .int .i64 (x3)), (51, .bool (x6 != x7))] (by kernel_rfl) (by kernel_rfl) (fun a1 => ?_)
      refine cW_cond (t := x6 != x7) (by kernel_rfl) (fun hb4 => ?_) (fun hb4 => ?_)
      ·have hm := condT hb4 hm
       refine cW_exit ?_
       refine eX_then_exit ?_
       refine eX_block_hit ?_
       refine eX_then ?_
       refine cW_region ?_
       refine wS_pure 3 [(7, .int .i64 (wr (x3 + 1))), (25, .int .i64 (wr (x3 + 1))), (24, .int .i64 (x3))] (by kernel_rfl) ?_
       refine wS_end (by rfl) ?_
       have hq : (some (Ctl.next ((l4, x2, wr (x3 + 1)))) : Option (Ctl ((List (List (Int))) × Int × Int) ((List (List (Int)))))) = some _ := hm
       replace hq := someE hq
       subst hq
       exact eX_next hx2 (fun hst => ⟨l4, A6, cap6, fp5, fr4, x2, wr (x3 + 1), rfl, Fr.of hst (by kernel_rfl), F8, F9, F10, F11, F12, G4, D3, hB, hZ⟩)
      ·have hm := condF hb4 hm
       refine cW_skip ?_
       refine eX_then ?_
       obtain ⟨s3, hs1, hm⟩ := bindE hm
       refine cW_cut (fun a' w' => ∃ l5 : List (List (Int)), ∃ A7 : Option Addr, ∃ cap7 : Nat, ∃ fp6 : List Nat, ∃ fr5 : List Nat, ∃ x8 : Int, (l5, x8) = s3 ∧ Fr 66 [(0, .pointer (some ⟨b0, 0, none⟩)), (3, .slice A7 (l5).length cap7), (4, .slice A1 (y1).length cap1), (5, .int .i64 (x1)), (6, .int .i64 (x8)), (7, .int .i64 (x3))] a' ∧ Sl 1 encI w' fp0_0 A0_0 l0_0 ∧ Sl 1 encI w' fp0_1 A0_1 l0_1 ∧ Cl w' b0 26 [.slice A0_0 (l0_0).length cap0_0, .slice A0_1 (l0_1).length cap0_1] ∧ Ow 1 encI 2 w' fp1 A1 cap1 y1 ∧ OwR 1 encI 24 2 w' fp6 fr5 A7 cap7 l5 ∧ (∀ x ∈ (fp6 ++ fr5), w0.heap.size ≤ x) ∧ Dj fp1 (fp6 ++ fr5) ∧ Chg [] w0 w' ∧ w0.heap.size ≤ w'.heap.size) ?_ ?_
       ·have hm := hs1
        refine cW_seq ?_
        obtain ⟨s4, hs2, hm⟩ := bindE hm
        refine cW_cut (fun a' w' => ∃ l6 : List (List (Int)), ∃ A8 : Option Addr, ∃ cap8 : Nat, ∃ fp7 : List Nat, ∃ fr6 : List Nat, l6 = s4 ∧ Fr 66 [(0, .pointer (some ⟨b0, 0, none⟩)), (3, .slice A8 (l6).length cap8), (4, .slice A1 (y1).length cap1), (5, .int .i64 (x1)), (7, .int .i64 (x3))] a' ∧ Sl 1 encI w' fp0_0 A0_0 l0_0 ∧ Sl 1 encI w' fp0_1 A0_1 l0_1 ∧ Cl w' b0 26 [.slice A0_0 (l0_0).length cap0_0, .slice A0_1 (l0_1).length cap0_1] ∧ Ow 1 encI 2 w' fp1 A1 cap1 y1 ∧ OwR 1 encI 24 2 w' fp7 fr6 A8 cap8 l6 ∧ (∀ x ∈ (fp7 ++ fr6), w0.heap.size ≤ x) ∧ Dj fp1 (fp7 ++ fr6) ∧ Chg [] w0 w' ∧ w0.heap.size ≤ w'.heap.size) ?_ ?_
        ·have hm := hs2
         refine cW_seq ?_
         refine cW_region ?_
         refine wS_pure 2 [(53, .bool (decide (x2 ≥ 0))), (52, .int .i64 (x2))] (by kernel_rfl) ?_
         refine wS_end (by rfl) ?_
         refine eX_then ?_
         refine cW_cond (t := decide (x2 ≥ 0)) (by kernel_rfl) (fun hb5 => ?_) (fun hb5 => ?_)
         ·have hm := condT hb5 hm
          refine cW_region ?_
          refine wS_pure 3 [(56, .int .i64 (x1)), (55, .slice A1 (y1).length cap1), (54, .slice A6 (l4).length cap6)] (by kernel_rfl) ?_
          obtain ⟨x9, hx7, hm⟩ := bindE hm
          refine wS_idx (d := 57) (T := 24) (A := A1) (n := (y1).length) (cap := cap1) (kd := .i64) (m := x1) (by kernel_rfl) sl24 ((F11.sl encI_ok).is hx7) ?_
          refine wS_load1 (d := 58) (T := 2) (ad := (elA A1 1 (x1) 0)) (v := .int .i64 (x9)) (by kernel_rfl) vt2 (Sl.cell (F11.sl encI_ok) hx7 0 (by rfl)) ?_
          refine wS_pure 2 [(60, .int .i64 (x3)), (59, .int .i64 (x2))] (by kernel_rfl) ?_
          refine wS_bs (enc := encI) ([x9, x2, x3] : List (Int)) [.int .i64 (x9), .int .i64 (x2), .int .i64 (x3)] (d := 61) (t := 24) (T := 2) (n := 3) (ps := [(0, .int .i64 (x9)), (1, .int .i64 (x2)), (2, .int .i64 (x3))]) (by kernel_rfl) el24 encI_ok (by rfl) (by omega) (by omega) (by kernel_rfl) (by rfl) ?_
          intro b2 w6 G5 F13 hc4
          have D4 : Dj fp1 [b2] := Dj.of F11.low (low1 G5)
          have D5 : Dj (fp5 ++ fr4) [b2] := Dj.of F12.low (low1 G5)
          replace F8 := F8.chg hc4 Dj.nil
          replace F9 := F9.chg hc4 Dj.nil
          replace F10 := F10.chg hc4 notNil
          replace F11 := F11.chg hc4 Dj.nil
          replace F12 := F12.chg hc4 Dj.nil
          replace hB := hB.inS hc4 inNil
          replace G5 := Nat.le_trans hZ G5
          replace G5 := low1 G5
          replace hZ := Nat.le_trans hZ hc4.size
          refine wS_row1 (k := 1) (enc := encI) (l := ([x9, x2, x3] : List (Int))) (d := 62) (t := 28) (T := 24) (B := (some ⟨b2, 0, none⟩)) (c := 3) (by kernel_rfl) el28 F13 ?_
          intro b3 w7 G6 F14 hc5
          have D6 : Dj fp1 ([b3] ++ [b2]) := Dj.app (Dj.of F11.low (low1 G6)) D4
          have D7 : Dj (fp5 ++ fr4) ([b3] ++ [b2]) := Dj.app (Dj.of F12.low (low1 G6)) D5
          replace F8 := F8.chg hc5 Dj.nil
          replace F9 := F9.chg hc5 Dj.nil
          replace F10 := F10.chg hc5 notNil
          replace F11 := F11.chg hc5 Dj.nil
          replace F12 := F12.chg hc5 Dj.nil
          replace F13 := F13.chg hc5 Dj.nil
          replace hB := hB.inS hc5 inNil
          replace G6 := Nat.le_trans hZ G6
          replace G6 := lowApp (low1 G6) G5
          replace hZ := Nat.le_trans hZ hc5.size
          replace F13 := (F13.sl encI_ok)
          obtain ⟨_, hk1, hm⟩ := bindE hm
          replace hk1 := apE hk1
          refine wS_appendR (k := 1) (enc := encI) (ll := (l4 : List (List (Int)))) (ll2 := (([([x9, x2, x3] : List (Int))] : List (List (Int))) : List (List (Int)))) (d := 63) (t := 28) (T := 24) (A := A6) (A2 := (some ⟨b3, 0, none⟩)) (cap := cap6) (cap2 := 1) (by kernel_rfl) el28 F12 F14 (by rfl) D7 hk1 ?_
          intro w8 fp8 A9 cap9 F15 hc6 hp1
          have G7 := lowApp (low_ap (low_inl G4) hZ hp1) (lowApp (low_inr G4) (low_inr G6))
          have D8 : Dj fp1 (fp8 ++ (fr4 ++ [b2])) := Dj.app (Dj.ap (Dj.inl D3) F11.low hp1) (Dj.app (Dj.inr D3) (Dj.inr D6))
          replace F8 := F8.chg hc6 (Dj.inl (Dj.of L0_0 G4))
          replace F9 := F9.chg hc6 (Dj.inl (Dj.of L0_1 G4))
          replace F10 := F10.chg hc6 (dj1 (Dj.inl (Dj.of L0 G4)))
          replace F11 := F11.chg hc6 (Dj.inl D3)
          replace hB := hB.inS hc6 (memS_inl (inLow G4))
          replace hZ := Nat.le_trans hZ hc6.size
          refine wS_pure 1 [(3, .slice A9 (l4 ++ (([([x9, x2, x3] : List (Int))] : List (List (Int))))).length cap9)] (by kernel_rfl) ?_
          refine wS_end (by rfl) ?_
          have hq : (some (l4 ++ (([([x9, x2, x3] : List (Int))] : List (List (Int))))) : Option ((List (List (Int))))) = some _ := hm
          replace hq := someE hq
          subst hq
          exact eX_J (fun hst => ⟨l4 ++ (([([x9, x2, x3] : List (Int))] : List (List (Int)))), A9, cap9, fp8, (fr4 ++ [b2]), rfl, Fr.of hst (by kernel_rfl), F8, F9, F10, F11, F15, G7, D8, hB, hZ⟩)
         ·have hm := condF hb5 hm
          refine cW_skip ?_
          have hq : (some l4 : Option ((List (List (Int))))) = some _ := hm
          replace hq := someE hq
          subst hq
          exact eX_J (fun hst => ⟨l4, A6, cap6, fp5, fr4, rfl, Fr.of hst (by kernel_rfl), F8, F9, F10, F11, F12, G4, D3, hB, hZ⟩)
        ·rintro a' w9 ⟨l6, A8, cap8, fp7, fr6, hJ, hF3, F16, F17, F18, F19, F20, G8, D9, hB, hZ⟩
         subst hJ
         refine Fr.goX hF3 (by kernel_rfl) ?_
         refine eX_then ?_
         refine cW_region ?_
         refine wS_pure 2 [(6, .int .i64 (x3)), (64, .int .i64 (x3))] (by kernel_rfl) ?_
         refine wS_end (by rfl) ?_
         have hq : (some ((l6, x3)) : Option ((List (List (Int))) × Int)) = some _ := hm
         replace hq := someE hq
         subst hq
         exact eX_J (fun hst => ⟨l6, A8, cap8, fp7, fr6, x3, rfl, Fr.of hst (by kernel_rfl), F16, F17, F18, F19, F20, G8, D9, hB, hZ⟩)
       ·rintro a' w10 ⟨l5, A7, cap7, fp6, fr5, x8, hJ, hF4, F21, F22, F23, F24, F25, G9, D10, hB, hZ⟩
        subst hJ
        refine Fr.goX hF4 (by kernel_rfl) ?_
        refine eX_block ?_
        refine eX_then ?_
        refine cW_region ?_
        refine wS_pure 3 [(7, .int .i64 (wr (x3 + 1))), (25, .int .i64 (wr (x3 + 1))), (24, .int .i64 (x3))] (by kernel_rfl) ?_
        refine wS_end (by rfl) ?_
        have hq : (some (Ctl.next ((l5, x8, wr (x3 + 1)))) : Option (Ctl ((List (List (Int))) × Int × Int) ((List (List (Int)))))) = some _ := hm
        replace hq := someE hq
        subst hq
        exact eX_next hx2 (fun hst => ⟨l5, A7, cap7, fp6, fr5, x8, wr (x3 + 1), rfl, Fr.of hst (by kernel_rfl), F21, F22, F23, F24, F25, G9, D10, hB, hZ⟩)
     ·have hm := condF hb3 hm
      rewrite [hb3]
      refine wH_take [13, 14, 15, 16, 17, 18, 19, 20, 21, 22, 23] [23, 22, 21, 20, 19, 18, 17, 16, 15, 14, 13, 12, 11, 10, 9, 8, 7, 6, 5, 4, 3, 2, 1, 0] [(49, undef), (48, undef), (47, undef), (46, undef), (45, undef), (44, undef), (43, undef), (42, undef), (41, undef), (40, undef), (39, undef)] (by kernel_rfl) (qT (qT (qT (qB (qT (qL (qB (qT (qB (qT (qL (qB (qT (qT qZ)))))))))))))) (by kernel_rfl) ?_
      refine wH_done (by kernel_rfl) ?_
      refine eX_tail ?_
      refine wS_pure 2 [(51, .bool (false)), (50, undef)] (by kernel_rfl) ?_
      refine wS_end (by rfl) ?_
      refine eX_then ?_
      refine cW_prune [(0, .pointer (some ⟨b0, 0, none⟩)), (3, .slice A6 (l4).length cap6), (4, .slice A1 (y1).length cap1), (5, .int .i64 (x1)), (6, .int .i64 (x2)), (7, .int .i64 (x3)), (51, .bool (false))] (by kernel_rfl) (by kernel_rfl) (fun a2 => ?_)
      refine cW_cond_f (by kernel_rfl) ?_
      refine cW_skip ?_
      refine eX_then ?_
      obtain ⟨s5, hs3, hm⟩ := bindE hm
      refine cW_cut (fun a' w' => ∃ l7 : List (List (Int)), ∃ A10 : Option Addr, ∃ cap10 : Nat, ∃ fp9 : List Nat, ∃ fr7 : List Nat, ∃ x10 : Int, (l7, x10) = s5 ∧ Fr 66 [(0, .pointer (some ⟨b0, 0, none⟩)), (3, .slice A10 (l7).length cap10), (4, .slice A1 (y1).length cap1), (5, .int .i64 (x1)), (6, .int .i64 (x10)), (7, .int .i64 (x3))] a' ∧ Sl 1 encI w' fp0_0 A0_0 l0_0 ∧ Sl 1 encI w' fp0_1 A0_1 l0_1 ∧ Cl w' b0 26 [.slice A0_0 (l0_0).length cap0_0, .slice A0_1 (l0_1).length cap0_1] ∧ Ow 1 encI 2 w' fp1 A1 cap1 y1 ∧ OwR 1 encI 24 2 w' fp9 fr7 A10 cap10 l7 ∧ (∀ x ∈ (fp9 ++ fr7), w0.heap.size ≤ x) ∧ Dj fp1 (fp9 ++ fr7) ∧ Chg [] w0 w' ∧ w0.heap.size ≤ w'.heap.size) ?_ ?_
      ·have hm := hs3
       refine cW_seq ?_
       obtain ⟨s6, hs4, hm⟩ := bindE hm
       refine cW_cut (fun a' w' => ∃ l8 : List (List (Int)), ∃ A11 : Option Addr, ∃ cap11 : Nat, ∃ fp10 : List Nat, ∃ fr8 : List Nat, l8 = s6 ∧ Fr 66 [(0, .pointer (some ⟨b0, 0, none⟩)), (3, .slice A11 (l8).length cap11), (4, .slice A1 (y1).length cap1), (5, .int .i64 (x1)), (7, .int .i64 (x3))] a' ∧ Sl 1 encI w' fp0_0 A0_0 l0_0 ∧ Sl 1 encI w' fp0_1 A0_1 l0_1 ∧ Cl w' b0 26 [.slice A0_0 (l0_0).length cap0_0, .slice A0_1 (l0_1).length cap0_1] ∧ Ow 1 encI 2 w' fp1 A1 cap1 y1 ∧ OwR 1 encI 24 2 w' fp10 fr8 A11 cap11 l8 ∧ (∀ x ∈ (fp10 ++ fr8), w0.heap.size ≤ x) ∧ Dj fp1 (fp10 ++ fr8) ∧ Chg [] w0 w' ∧ w0.heap.size ≤ w'.heap.size) ?_ ?_
       ·have hm := hs4
        refine cW_seq ?_
        refine cW_region ?_
        refine wS_pure 2 [(53, .bool (decide (x2 ≥ 0))), (52, .int .i64 (x2))] (by kernel_rfl) ?_
        refine wS_end (by rfl) ?_
        refine eX_then ?_
        refine cW_cond (t := decide (x2 ≥ 0)) (by kernel_rfl) (fun hb6 => ?_) (fun hb6 => ?_)
        ·have hm := condT hb6 hm
         refine cW_region ?_
         refine wS_pure 3 [(56, .int .i64 (x1)), (55, .slice A1 (y1).length cap1), (54, .slice A6 (l4).length cap6)] (by kernel_rfl) ?_
         obtain ⟨x11, hx8, hm⟩ := bindE hm
         refine wS_idx (d := 57) (T := 24) (A := A1) (n := (y1).length) (cap := cap1) (kd := .i64) (m := x1) (by kernel_rfl) sl24 ((F11.sl encI_ok).is hx8) ?_
         refine wS_load1 (d := 58) (T := 2) (ad := (elA A1 1 (x1) 0)) (v := .int .i64 (x11)) (by kernel_rfl) vt2 (Sl.cell (F11.sl encI_ok) hx8 0 (by rfl)) ?_
         refine wS_pure 2 [(60, .int .i64 (x3)), (59, .int .i64 (x2))] (by kernel_rfl) ?_
         refine wS_bs (enc := encI) ([x11, x2, x3] : List (Int)) [.int .i64 (x11), .int .i64 (x2), .int .i64 (x3)] (d := 61) (t := 24) (T := 2) (n := 3) (ps := [(0, .int .i64 (x11)), (1, .int .i64 (x2)), (2, .int .i64 (x3))]) (by kernel_rfl) el24 encI_ok (by rfl) (by omega) (by omega) (by kernel_rfl) (by rfl) ?_
         intro b4 w11 G10 F26 hc7
         have D11 : Dj fp1 [b4] := Dj.of F11.low (low1 G10)
         have D12 : Dj (fp5 ++ fr4) [b4] := Dj.of F12.low (low1 G10)
         replace F8 := F8.chg hc7 Dj.nil
         replace F9 := F9.chg hc7 Dj.nil
         replace F10 := F10.chg hc7 notNil
         replace F11 := F11.chg hc7 Dj.nil
         replace F12 := F12.chg hc7 Dj.nil
         replace hB := hB.inS hc7 inNil
         replace G10 := Nat.le_trans hZ G10
         replace G10 := low1 G10
         replace hZ := Nat.le_trans hZ hc7.size
         refine wS_row1 (k := 1) (enc := encI) (l := ([x11, x2, x3] : List (Int))) (d := 62) (t := 28) (T := 24) (B := (some ⟨b4, 0, none⟩)) (c := 3) (by kernel_rfl) el28 F26 ?_
         intro b5 w12 G11 F27 hc8
         have D13 : Dj fp1 ([b5] ++ [b4]) := Dj.app (Dj.of F11.low (low1 G11)) D11
         have D14 : Dj (fp5 ++ fr4) ([b5] ++ [b4]) := Dj.app (Dj.of F12.low (low1 G11)) D12
         replace F8 := F8.chg hc8 Dj.nil
         replace F9 := F9.chg hc8 Dj.nil
         replace F10 := F10.chg hc8 notNil
         replace F11 := F11.chg hc8 Dj.nil
         replace F12 := F12.chg hc8 Dj.nil
         replace F26 := F26.chg hc8 Dj.nil
         replace hB := hB.inS hc8 inNil
         replace G11 := Nat.le_trans hZ G11
         replace G11 := lowApp (low1 G11) G10
         replace hZ := Nat.le_trans hZ hc8.size
         replace F26 := (F26.sl encI_ok)
         obtain ⟨_, hk2, hm⟩ := bindE hm
         replace hk2 := apE hk2
         refine wS_appendR (k := 1) (enc := encI) (ll := (l4 : List (List (Int)))) (ll2 := (([([x11, x2, x3] : List (Int))] : List (List (Int))) : List (List (Int)))) (d := 63) (t := 28) (T := 24) (A := A6) (A2 := (some ⟨b5, 0, none⟩)) (cap := cap6) (cap2 := 1) (by kernel_rfl) el28 F12 F27 (by rfl) D14 hk2 ?_
         intro w13 fp11 A12 cap12 F28 hc9 hp2
         have G12 := lowApp (low_ap (low_inl G4) hZ hp2) (lowApp (low_inr G4) (low_inr G11))
         have D15 : Dj fp1 (fp11 ++ (fr4 ++ [b4])) := Dj.app (Dj.ap (Dj.inl D3) F11.low hp2) (Dj.app (Dj.inr D3) (Dj.inr D13))
         replace F8 := F8.chg hc9 (Dj.inl (Dj.of L0_0 G4))
         replace F9 := F9.chg hc9 (Dj.inl (Dj.of L0_1 G4))
         replace F10 := F10.chg hc9 (dj1 (Dj.inl (Dj.of L0 G4)))
         replace F11 := F11.chg hc9 (Dj.inl D3)
         replace hB := hB.inS hc9 (memS_inl (inLow G4))
         replace hZ := Nat.le_trans hZ hc9.size
         refine wS_pure 1 [(3, .slice A12 (l4 ++ (([([x11, x2, x3] : List (Int))] : List (List (Int))))).length cap12)] (by kernel_rfl) ?_
         refine wS_end (by rfl) ?_
         have hq : (some (l4 ++ (([([x11, x2, x3] : List (Int))] : List (List (Int))))) : Option ((List (List (Int))))) = some _ := hm
         replace hq := someE hq
         subst hq
         exact eX_J (fun hst => ⟨l4 ++ (([([x11, x2, x3] : List (Int))] : List (List (Int)))), A12, cap12, fp11, (fr4 ++ [b4]), rfl, Fr.of hst (by kernel_rfl), F8, F9, F10, F11, F28, G12, D15, hB, hZ⟩)
        ·have hm := condF hb6 hm
         refine cW_skip ?_
         have hq : (some l4 : Option ((List (List (Int))))) = some _ := hm
         replace hq := someE hq
         subst hq
         exact eX_J (fun hst => ⟨l4, A6, cap6, fp5, fr4, rfl, Fr.of hst (by kernel_rfl), F8, F9, F10, F11, F12, G4, D3, hB, hZ⟩)
       ·rintro a' w14 ⟨l8, A11, cap11, fp10, fr8, hJ, hF5, F29, F30, F31, F32, F33, G13, D16, hB, hZ⟩
        subst hJ
        refine Fr.goX hF5 (by kernel_rfl) ?_
        refine eX_then ?_
        refine cW_region ?_
        refine wS_pure 2 [(6, .int .i64 (x3)), (64, .int .i64 (x3))] (by kernel_rfl) ?_
        refine wS_end (by rfl) ?_
        have hq : (some ((l8, x3)) : Option ((List (List (Int))) × Int)) = some _ := hm
        replace hq := someE hq
        subst hq
        exact eX_J (fun hst => ⟨l8, A11, cap11, fp10, fr8, x3, rfl, Fr.of hst (by kernel_rfl), F29, F30, F31, F32, F33, G13, D16, hB, hZ⟩)
      ·rintro a' w15 ⟨l7, A10, cap10, fp9, fr7, x10, hJ, hF6, F34, F35, F36, F37, F38, G14, D17, hB, hZ⟩
       subst hJ
       refine Fr.goX hF6 (by kernel_rfl) ?_
       refine eX_block ?_
       refine eX_then ?_
       refine cW_region ?_
       refine wS_pure 3 [(7, .int .i64 (wr (x3 + 1))), (25, .int .i64 (wr (x3 + 1))), (24, .int .i64 (x3))] (by kernel_rfl) ?_
       refine wS_end (by rfl) ?_
       have hq : (some (Ctl.next ((l7, x10, wr (x3 + 1)))) : Option (Ctl ((List (List (Int))) × Int × Int) ((List (List (Int)))))) = some _ := hm
       replace hq := someE hq
       subst hq
       exact eX_next hx2 (fun hst => ⟨l7, A10, cap10, fp9, fr7, x10, wr (x3 + 1), rfl, Fr.of hst (by kernel_rfl), F34, F35, F36, F37, F38, G14, D17, hB, hZ⟩)
    ·have hm := condF hb2 hm
     refine cW_exit ?_
     refine eX_then_exit ?_
     have hq : (some (Ctl.out l4) : Option (Ctl ((List (List (Int))) × Int × Int) ((List (List (Int)))))) = some _ := hm
     replace hq := someE hq
     subst hq
     refine eX_outX hx2 (fun hr3 => ?_)
     replace hr3 := hr3.symm
     subst hr3
     refine eX_block_hit ?_
     exact eX_J (fun hst => ⟨l4, A6, cap6, fp5, fr4, rfl, Fr.of hst (by kernel_rfl), F8, F9, F10, F11, F12, G4, D3, hB, hZ⟩)
   ·rintro a' w16 ⟨l3, A5, cap5, fp4, fr3, hJ, hF7, F39, F40, F41, F42, F43, G15, D18, hB, hZ⟩
    subst hJ
    refine Fr.goX hF7 (by kernel_rfl) ?_
    refine eX_block ?_
    refine eX_then ?_
    refine cW_region ?_
    refine wS_pure 3 [(5, .int .i64 (wr (x1 + 1))), (16, .int .i64 (wr (x1 + 1))), (15, .int .i64 (x1))] (by kernel_rfl) ?_
    refine wS_end (by rfl) ?_
    have hq : (some (Ctl.next ((l3, wr (x1 + 1)))) : Option (Ctl ((List (List (Int))) × Int) ((List (List (Int)))))) = some _ := hm
    replace hq := someE hq
    subst hq
    exact eX_next hx1 (fun hst => ⟨l3, A5, cap5, fp4, fr3, wr (x1 + 1), rfl, Fr.of hst (by kernel_rfl), F39, F40, F41, F42, F43, G15, D18, hB, hZ⟩)
  ·have hm := condF hb1 hm
   refine cW_exit ?_
   refine eX_then_exit ?_
   have hq : (some (Ctl.out l2) : Option (Ctl ((List (List (Int))) × Int) ((List (List (Int)))))) = some _ := hm
   replace hq := someE hq
   subst hq
   refine eX_outX hx1 (fun hr4 => ?_)
   replace hr4 := hr4.symm
   subst hr4
   refine eX_block_hit ?_
   exact eX_J (fun hst => ⟨l2, A4, cap4, fp3, fr2, rfl, Fr.of hst (by kernel_rfl), F7, G3, hB, hZ⟩)
 ·rintro a' w17 ⟨l1, A3, cap3, fp2, fr1, hJ, hF8, F44, G16, hB, hZ⟩
  subst hJ
  refine Fr.goX hF8 (by kernel_rfl) ?_
  refine eX_then ?_
  refine cW_seq ?_
  refine cW_region ?_
  refine wS_pure 2 [(2, .slice A3 (l1).length cap3), (65, .slice A3 (l1).length cap3)] (by kernel_rfl) ?_
  refine wS_end (by rfl) ?_
  refine eX_then ?_
  refine cW_ret ?_
  have hq : (some l1 : Option ((List (List (Int))))) = some _ := hm
  replace hq := someE hq
  subst hq
  refine eX_ret (vs := [.slice A3 (l1).length cap3]) [.tmp 2] (by rfl) ⟨by (show lkE _ _ _ = _); kernel_rfl, trivial⟩ ?_
  exact ⟨A3, cap3, fp2, fr1, rfl, F44, G16, hB⟩

end Go.Proofs.YtbfjekmefcpkmaaDoor
