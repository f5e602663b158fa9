/- Printed walks: spec.B10Tracks, impl.places, (impl.order).setsOk, impl.IsRouting, spec.l00In, spec.l00Has, spec.l03Is, spec.l03Above, spec.l03OfNets. -/
import Derived.Test.YtbfjekmefcpkmaaDoorProg
import Derived.Test.YtbfjekmefcpkmaaDoorWCn04
set_option linter.unusedSimpArgs false
set_option linter.unusedVariables false
namespace Go.Proofs.YtbfjekmefcpkmaaDoor
open Go.RowKit
attribute [local irreducible] wS cW eX wH

theorem ent55 : Ent Tryd.prog 55 := fun _ => by kernel_rfl
theorem ent56 : Ent Tryd.prog 56 := fun _ => by kernel_rfl
theorem ent57 : Ent Tryd.prog 57 := fun _ => by kernel_rfl
theorem ent58 : Ent Tryd.prog 58 := fun _ => by kernel_rfl
theorem ent59 : Ent Tryd.prog 59 := fun _ => by kernel_rfl
theorem ent94 : Ent Tryd.prog 94 := fun _ => by kernel_rfl
theorem ent95 : Ent Tryd.prog 95 := fun _ => by kernel_rfl
theorem ent121 : Ent Tryd.prog 121 := fun _ => by kernel_rfl
theorem vt92 : VarTy Tryd.prog 92 1 false := ⟨by kernel_rfl, by kernel_rfl⟩
theorem sl120 : SlTy Tryd.prog 120 4 1 := ⟨Tryd.underlying120, by kernel_rfl⟩
theorem el92 : ElTy Tryd.prog 92 120 1 (.slice none 0 0) := ElTy.mk' Tryd.underlying92 (by kernel_rfl) (by rfl)
theorem el120 : ElTy Tryd.prog 120 4 1 (.bool (false)) := ElTy.mk' Tryd.underlying120 (by kernel_rfl) (by rfl)
theorem sz4 : pureRun Tryd.prog (sizeOf 4) = some 1 := by kernel_rfl
theorem sz92 : pureRun Tryd.prog (sizeOf 92) = some 1 := by kernel_rfl

set_option maxRecDepth 100000 in
theorem c_sB10Tr {w0 l0 A0 cap0 fp0 l1_0 A1_0 cap1_0 fp1_0 l1_1 A1_1 cap1_1 fp1_1} {r : (List (List Int))} (hm : m_sB10Tr l0 l1_0 l1_1 = some r) (F0 : Sl 1 encU w0 fp0 A0 l0) (F1_0 : S1 w0 fp1_0 A1_0 l1_0) (F1_1 : S1 w0 fp1_1 A1_1 l1_1) :
  Calls Tryd.prog 17 #[.slice A0 l0.length cap0, .agg #[.slice A1_0 l1_0.length cap1_0, .slice A1_1 l1_1.length cap1_1]] w0 fun e w' => ∃ A100 cap100 fp100 fr100, e = .returned (.slice A100 r.length cap100) ∧ OwR 1 encI 24 2 w' fp100 fr100 A100 cap100 r ∧ (∀ x ∈ fp100 ++ fr100, w0.heap.size ≤ x) ∧ Chg [] w0 w' := by
 have L0 := F0.low
 have L1_0 := F1_0.low
 have L1_1 := F1_1.low
 have hB : Chg [] w0 w0 := Chg.refl _ _
 unfold m_sB10Tr at hm
 refine enterE (N := 80) Tryd.func17 (by rfl) Tryd.ntmps17 (by simp) [(0, .slice A0 l0.length cap0), (1, .agg #[.slice A1_0 l1_0.length cap1_0, .slice A1_1 l1_1.length cap1_1])] (by rfl) (by kernel_rfl) (fun a => ?_)
 refine sR <| wS_box (d := 3) (T := 26) (x := .agg #[.slice A1_0 l1_0.length cap1_0, .slice A1_1 l1_1.length cap1_1]) (by kernel_rfl) ?_
 intro b1 w1 G1 F1 hc1
 replace F1 : Cl w1 b1 26 [.slice A1_0 l1_0.length cap1_0, .slice A1_1 l1_1.length cap1_1] := F1
 replace F0 := F0.c hc1
 replace F1_0 := F1_0.c hc1
 replace F1_1 := F1_1.c hc1
 replace G1 := Nat.le_trans hB.size G1
 replace hB := hB.q hc1
 refine wP 1 [(4, .slice none 0 0)] <| wN <| sR <| wP 1 [(12, .slice A0 l0.length cap0)] ?_
 obtain ⟨y1, hy1, hm⟩ := bindE hm
 refine sC 13 [.slice A0 l0.length cap0] ent33 (c_spec_l00From hy1 F0) ?_
 rintro _ w2 ⟨b2, rfl, F2, G2, hc2⟩
 have D1 := Dj.of (lt1 F1.lt) (low1 G2)
 replace F0 := F0.c hc2
 replace F1_0 := F1_0.c hc2
 replace F1_1 := F1_1.c hc2
 replace F1 := F1.c hc2
 replace G2 := Nat.le_trans hB.size G2
 replace hB := hB.q hc2
 refine ⟨pt b2, rfl, ?_⟩
 refine wP 1 [(5, pt b2)] <| wN <| sR ?_
 obtain ⟨y2, hy2, hm⟩ := bindE hm
 refine sC 14 [pt b1] ent55 (c_sL03Ne hy2 F1_0 F1_1 F1) ?_
 rintro _ w3 ⟨A1, cap1, fp1, rfl, F3, G3, hc3⟩
 have D2 := Dj.of (lt1 F1.lt) G3
 have D3 := Dj.of (lt1 F2.lt) G3
 replace F0 := F0.c hc3
 replace F1_0 := F1_0.c hc3
 replace F1_1 := F1_1.c hc3
 replace F1 := F1.c hc3
 replace F2 := F2.c hc3
 replace G3 := low_le hB.size G3
 replace hB := hB.q hc3
 refine ⟨.slice A1 y2.length cap1, rfl, ?_⟩
 refine wP 1 [(6, .slice A1 y2.length cap1)] <| wN <| sR <| wS_rows0 (k := 1) (enc := encI) (d := 15) (t := 28) (T := 24) (T2 := 2) (by kernel_rfl) el28 ?_
 intro b3 w4 G4 F4 hc4
 have D4 := Dj.of (lt1 F1.lt) (lowApp (low1 G4) lowNil)
 have D5 := Dj.of (lt1 F2.lt) (lowApp (low1 G4) lowNil)
 have D6 := Dj.of F3.low (lowApp (low1 G4) lowNil)
 replace F0 := F0.c hc4
 replace F1_0 := F1_0.c hc4
 replace F1_1 := F1_1.c hc4
 replace F1 := F1.c hc4
 replace F2 := F2.c hc4
 replace F3 := F3.c hc4
 replace G4 := Nat.le_trans hB.size G4
 replace G4 := low1 G4
 replace hB := hB.q hc4
 replace G4 := lowApp G4 lowNil
 refine wP 1 [(7, .slice (ad b3) (([] : List (List Int))).length 0)] <| wN <| cW_seq <| sR <| wP 4 [(8, ii (wr (((y2.length : Int)) - 1))), (18, ii (wr (((y2.length : Int)) - 1))), (17, ii (y2.length : Int)), (16, .slice A1 y2.length cap1)] <| wN ?_
 obtain ⟨r1, hr1, hm⟩ := bindE hm
 have hm1 := hm
 refine cW_cut (fun a' w' => ∃ x1 : Int, ∃ x2 : Int, ∃ l1 : List Int, (x1, x2, l1) = r1 ∧ Fr 80 [(5, pt b2), (6, .slice A1 l1.length cap1), (7, .slice (ad b3) (([] : List (List Int))).length 0)] a' ∧ Sl 1 encU w' fp0 A0 l0 ∧ Cl w' b2 99 [.slice A0 l0.length cap0, ii x1, .int .u64 (x2)] ∧ O1 2 w' fp1 A1 cap1 l1 ∧ OwR 1 encI 24 2 w' [b3] [] (ad b3) 0 (([] : List (List Int))) ∧ Chg [] w0 w') ?_ ?_
 ·refine cW_block ?_
  refine cW_loop _ (fun (s1 : Int × Int × Int × (List Int)) a' w' => ∃ x3 : Int, ∃ x4 : Int, ∃ x5 : Int, ∃ l2 : List Int, (x3, x4, x5, l2) = s1 ∧ Fr 80 [(5, pt b2), (6, .slice A1 l2.length cap1), (7, .slice (ad b3) (([] : List (List Int))).length 0), (8, ii x3)] a' ∧ Sl 1 encU w' fp0 A0 l0 ∧ Cl w' b2 99 [.slice A0 l0.length cap0, ii x4, .int .u64 (x5)] ∧ O1 2 w' fp1 A1 cap1 l2 ∧ OwR 1 encI 24 2 w' [b3] [] (ad b3) 0 (([] : List (List Int))) ∧ Chg [] w0 w') hr1 (fun hst => ⟨wr (((y2.length : Int)) - 1), y1.1, y1.2, y2, rfl, fO hst, F0, F2, F3, F4, hB⟩) ?_
  rintro _ c1 a' w5 ⟨x3, x4, x5, l2, rfl, hF1, F5, F6, F7, F8, hB⟩ hx1
  refine gO hF1 ?_
  have hm := hx1
  unfold m_sB10Tr_s1 at hm
  refine cW_seq <| sR <| wP 2 [(20, .bool (decide (x3 > 0))), (19, ii x3)] <| wN <| cC (decide (x3 > 0)) (fun hb1 => ?_) (fun hb1 => ?_)
  ·have hm := condT hb1 hm
   refine cW_skip <| eX_then <| cW_seq <| cW_block <| sR <| wP 3 [(25, ii (wr (x3 + 1))), (24, ii x3), (23, pt b2)] ?_
   obtain ⟨y3, hy3, hm⟩ := bindE hm
   refine sC 26 [pt b2, ii (wr (x3 + 1))] ent34 (c_sL00SrPick hy3 F5 F6 (Dj.of L0 (low1 G2)).symm) ?_
   rintro _ w6 ⟨rfl, F9, hc5⟩
   replace F5 := F5.chg hc5 (Dj.app (Dj.of L0 (low1 G2)) Dj.nil)
   replace F7 := F7.chg hc5 (Dj.app (D3).symm Dj.nil)
   replace F8 := F8.chg hc5 (Dj.app (D5).symm Dj.nil)
   replace hB := hB.inS hc5 (inApp (inLow (low1 G2)) inNil)
   clear F6
   refine ⟨ii y3.1, rfl, ?_⟩
   refine wP 1 [(9, ii y3.1)] <| wN <| sR <| wP 2 [(28, ii x3), (27, .slice A1 l2.length cap1)] ?_
   obtain ⟨x6, hx2, hm⟩ := bindE hm
   refine sI 29 A1 l2.length cap1 .i64 x3 sl24 ((F7.sl encI_ok).is hx2) <| sL 30 (elA A1 1 (x3) 0) (ii x6) vt2 (Sl.cell (F7.sl encI_ok) hx2 0 (by rfl)) <| wP 1 [(10, ii x6)] <| wN <| sR <| wP 4 [(34, ii y3.1), (33, .slice A1 l2.length cap1), (32, ii x3), (31, .slice A1 l2.length cap1)] ?_
   obtain ⟨x7, hx3, hm⟩ := bindE hm
   refine sI 35 A1 l2.length cap1 .i64 y3.1 sl24 ((F7.sl encI_ok).is hx3) <| sL 36 (elA A1 1 (y3.1) 0) (ii x7) vt2 (Sl.cell (F7.sl encI_ok) hx3 0 (by rfl)) ?_
   obtain ⟨x8, hx4, hm⟩ := bindE hm
   refine sI 37 A1 l2.length cap1 .i64 x3 sl24 ((F7.sl encI_ok).is hx4) <| wS_storeEl (x := x8) x7 (T := 2) (U := 2) (cap := cap1) (j := 0) (A := A1) (v := ii x7) (vs := [ii x7]) (m := x3) (by kernel_rfl) (by rfl) sz2 (by rfl) encI_ok F7 hx4 (bl rfl) (by rfl) ?_
   intro w7 F10 hc6
   replace F5 := F5.chg hc6 (Dj.of L0 G3)
   replace F9 := F9.chg hc6 (dj1 D3)
   replace F8 := F8.chg hc6 (D6).symm
   replace hB := hB.inS hc6 (inLow G3)
   clear F7
   rewrite [show l2.length = (l2.set (Int.toNat x3) x7).length from (List.length_set ..).symm]
   refine wN <| cW_region <| wP 3 [(40, ii x6), (39, ii y3.1), (38, .slice A1 (l2.set (Int.toNat x3) x7).length cap1)] ?_
   obtain ⟨x9, hx5, hm⟩ := bindE hm
   refine sI 41 A1 ((l2.set (Int.toNat x3) x7).length) cap1 .i64 y3.1 sl24 ((F10.sl encI_ok).is hx5) <| wS_storeEl (x := x9) x6 (T := 2) (U := 2) (cap := cap1) (j := 0) (A := A1) (v := ii x6) (vs := [ii x6]) (m := y3.1) (by kernel_rfl) (by rfl) sz2 (by rfl) encI_ok F10 hx5 (bl rfl) (by rfl) ?_
   intro w8 F11 hc7
   replace F5 := F5.chg hc7 (Dj.of L0 G3)
   replace F9 := F9.chg hc7 (dj1 D3)
   replace F8 := F8.chg hc7 (D6).symm
   replace hB := hB.inS hc7 (inLow G3)
   clear F10
   rewrite [show (l2.set (Int.toNat x3) x7).length = ((l2.set (Int.toNat x3) x7).set (Int.toNat y3.1) x6).length from (List.length_set ..).symm]
   refine wE <| eX_block <| eX_then <| cP [(5, pt b2), (6, .slice A1 ((l2.set (Int.toNat x3) x7).set (Int.toNat y3.1) x6).length cap1), (7, .slice (ad b3) (([] : List (List Int))).length 0), (8, ii x3)] (fun a1 => ?_)
   refine cW_region <| wP 3 [(8, ii (wr (x3 - 1))), (22, ii (wr (x3 - 1))), (21, ii x3)] <| wE ?_
   obtain rfl := someE (x := (Ctl.next ((wr (x3 - 1), y3.2.1, y3.2.2, (l2.set (Int.toNat x3) x7).set (Int.toNat y3.1) x6)))) hm
   exact eX_next hx1 (fun hst => ⟨wr (x3 - 1), y3.2.1, y3.2.2, (l2.set (Int.toNat x3) x7).set (Int.toNat y3.1) x6, rfl, fO hst, F5, F9, F11, F8, hB⟩)
  have hm := condF hb1 hm
  refine cW_exit <| eX_then_exit ?_
  obtain rfl := someE (x := (Ctl.out ((x4, x5, l2)))) hm
  refine eX_outX hx1 (fun hr2 => ?_)
  replace hr2 := hr2.symm
  subst hr2
  refine eX_block_hit ?_
  exact eX_J (fun hst => ⟨x4, x5, l2, rfl, fO hst, F5, F6, F7, F8, hB⟩)
 rintro a' w9 ⟨x1, x2, l1, hJ, hF2, F12, F13, F14, F15, hB⟩
 subst hJ
 refine gX hF2 <| eX_then <| cW_seq <| sR <| wP 1 [(11, ii 0)] <| wN ?_
 obtain ⟨r2, hr3, hm⟩ := bindE hm
 have hm2 := hm
 refine cW_cut (fun a' w' => ∃ l3 : List (List Int), ∃ A3 : Option Addr, ∃ cap3 : Nat, ∃ fp2 : List Nat, ∃ fr1 : List Nat, l3 = r2 ∧ Fr 80 [(7, .slice A3 l3.length cap3)] a' ∧ OwR 1 encI 24 2 w' fp2 fr1 A3 cap3 l3 ∧ (∀ x ∈ (fp2 ++ fr1), w0.heap.size ≤ x) ∧ Chg [] w0 w') ?_ ?_
 ·refine cW_block ?_
  refine cW_loop _ (fun (s2 : (List (List Int)) × Int × Int × Int) a' w' => ∃ l4 : List (List Int), ∃ A4 : Option Addr, ∃ cap4 : Nat, ∃ fp3 : List Nat, ∃ fr2 : List Nat, ∃ x10 : Int, ∃ x11 : Int, ∃ x12 : Int, (l4, x10, x11, x12) = s2 ∧ Fr 80 [(5, pt b2), (6, .slice A1 l1.length cap1), (7, .slice A4 l4.length cap4), (11, ii x10)] a' ∧ Sl 1 encU w' fp0 A0 l0 ∧ Cl w' b2 99 [.slice A0 l0.length cap0, ii x11, .int .u64 (x12)] ∧ O1 2 w' fp1 A1 cap1 l1 ∧ OwR 1 encI 24 2 w' fp3 fr2 A4 cap4 l4 ∧ (∀ x ∈ (fp3 ++ fr2), w0.heap.size ≤ x) ∧ Dj [b2] (fp3 ++ fr2) ∧ Dj fp1 (fp3 ++ fr2) ∧ Chg [] w0 w') hr3 (fun hst => ⟨([] : List (List Int)), (ad b3), 0, [b3], [], 0, x1, x2, rfl, fO hst, F12, F13, F14, F15, G4, D5, D6, hB⟩) ?_
  rintro _ c2 a' w10 ⟨l4, A4, cap4, fp3, fr2, x10, x11, x12, rfl, hF3, F16, F17, F18, F19, G5, D7, D8, hB⟩ hx6
  refine gO hF3 ?_
  have hm := hx6
  unfold m_sB10Tr_s2 at hm
  refine cW_seq <| sR <| wP 4 [(45, .bool (decide (x10 < ((l1.length : Int))))), (44, ii (l1.length : Int)), (43, .slice A1 l1.length cap1), (42, ii x10)] <| wN <| cC (decide (x10 < ((l1.length : Int)))) (fun hb2 => ?_) (fun hb2 => ?_)
  ·have hm := condT hb2 hm
   refine cW_skip <| eX_then <| cW_seq <| cW_block ?_
   obtain ⟨s3, hs1, hm⟩ := bindE hm
   refine cW_cut (fun a' w' => ∃ l5 : List (List Int), ∃ A5 : Option Addr, ∃ cap5 : Nat, ∃ fp4 : List Nat, ∃ fr3 : List Nat, ∃ x13 : Int, ∃ x14 : Int, (l5, x13, x14) = s3 ∧ Fr 80 [(5, pt b2), (6, .slice A1 l1.length cap1), (7, .slice A5 l5.length cap5), (11, ii x10)] a' ∧ Sl 1 encU w' fp0 A0 l0 ∧ Cl w' b2 99 [.slice A0 l0.length cap0, ii x13, .int .u64 (x14)] ∧ O1 2 w' fp1 A1 cap1 l1 ∧ OwR 1 encI 24 2 w' fp4 fr3 A5 cap5 l5 ∧ (∀ x ∈ (fp4 ++ fr3), w0.heap.size ≤ x) ∧ Dj [b2] (fp4 ++ fr3) ∧ Dj fp1 (fp4 ++ fr3) ∧ Chg [] w0 w') ?_ ?_
   ·have hm := hs1
    refine sR <| wP 4 [(51, .bool (decide (((l4.length : Int)) > 0))), (50, .bool (decide (((l4.length : Int)) > 0))), (49, ii (l4.length : Int)), (48, .slice A4 l4.length cap4)] <| wS_bool (decide (((l4.length : Int)) > 0)) (fun hb3 => ?_) (fun hb3 => ?_)
    ·have hm := condT hb3 hm
     rewrite [hb3]
     refine wP 1 [(52, pt b2)] ?_
     obtain ⟨y4, hy4, hm⟩ := bindE hm
     refine sC 53 [pt b2, ii 3] ent56 (c_sL00SrOne hy4 F16 F17 (Dj.of L0 (low1 G2)).symm) ?_
     rintro _ w11 ⟨rfl, F20, hc8⟩
     replace F16 := F16.chg hc8 (Dj.app (Dj.of L0 (low1 G2)) Dj.nil)
     replace F18 := F18.chg hc8 (Dj.app (D3).symm Dj.nil)
     replace F19 := F19.chg hc8 (Dj.app (D7).symm Dj.nil)
     replace hB := hB.inS hc8 (inApp (inLow (low1 G2)) inNil)
     clear F17
     refine ⟨.bool (y4.1), rfl, ?_⟩
     refine wP 1 [(54, .bool (y4.1))] <| wN <| cC y4.1 (fun hb4 => ?_) (fun hb4 => ?_)
     ·have hm := condT hb4 hm
      refine cW_drawnTail [] 15 (by kernel_rfl) (by kernel_rfl) (fun w12 hc9 => ?_)
      replace F16 := F16.c hc9
      replace F20 := F20.c hc9
      replace F18 := F18.c hc9
      replace F19 := F19.c hc9
      replace hB := hB.q hc9
      have hS := Chg.refl [] w12
      have Z1 := F16
      have Z2 := F20
      have Z3 := F18
      have Z4 := F19
      refine hT [0, 1, 2, 3, 4, 5, 6, 7] [(62, ii (wr (((l4.length : Int)) - 1))), (61, ii (l4.length : Int)), (60, .slice A4 l4.length cap4), (59, .slice A4 l4.length cap4), (58, ii (wr (((l4.length : Int)) - 1))), (57, ii (l4.length : Int)), (56, .slice A4 l4.length cap4), (55, .slice A4 l4.length cap4)] ?_
      obtain ⟨x15, hx7, hm⟩ := bindE hm
      refine hI 8 63 A4 l4.length cap4 .i64 (wr (((l4.length : Int)) - 1)) sl28 ((F19.slr encI_ok).is hx7) ?_
      obtain ⟨A6, cap6, hc10, F21, K1⟩ := OwR.row Z4 encI_ok hx7
      have G6 := low_inr G5
      have Dm1 := (F19.dj).symm
      refine hL 9 64 (elA A4 1 (wr (((l4.length : Int)) - 1)) 0) (.slice A6 x15.length cap6) vt24 (fun W hW => hW.keep hc10) ?_
      refine hT [10, 11] [(66, ii x10), (65, .slice A1 l1.length cap1)] ?_
      obtain ⟨x16, hx8, hm⟩ := bindE hm
      refine hI 12 67 A1 l1.length cap1 .i64 x10 sl24 ((F18.sl encI_ok).is hx8) <| hL 13 68 (elA A1 1 (x10) 0) (ii x16) vt2 (fun W hW => Sl.cell ((Z3.c hW).sl encI_ok) hx8 0 (by rfl)) ?_
      refine wH_all [14] (by rfl) (by kernel_rfl) (by simp) ⟨⟨by kernel_rfl, ?_⟩, trivial⟩
      obtain ⟨y5, hy5, hm⟩ := bindE hm
      refine sC 69 [.slice A6 x15.length cap6, ii x16] ent57 (c_spec_l00Put hy5 F21) ?_
      rintro _ w13 ⟨A7, cap7, fp5, rfl, F22, G7, hc11⟩
      have D9 := Dj.of (lt1 F20.lt) G7
      have D10 := Dj.of F18.low G7
      have D11 := Dj.of F19.low G7
      have D12 := Dj.of F21.low G7
      replace F16 := F16.c hc11
      replace F20 := F20.c hc11
      replace F18 := F18.c hc11
      replace F19 := F19.c hc11
      replace F21 := F21.c hc11
      have hSz := hS
      replace hS := hS.inS hc11 inNil
      replace G7 := low_le hB.size G7
      replace hB := hB.q hc11
      refine ⟨.slice A7 y5.length cap7, rfl, ?_⟩
      refine wS_end (by kernel_rfl) <| eX_KH hS <| wD <| eX_tail ?_
      obtain ⟨x17, hx9, hm⟩ := bindE hm
      refine sI 70 A4 l4.length cap4 .i64 (wr (((l4.length : Int)) - 1)) sl28 ((F19.slr encI_ok).is hx9) <| wS_storeRow (k := 1) (enc := encI) (x := x17) (l := y5) (T := 24) (U := 24) (cap := cap4) (c := cap7) (A := A4) (B := A7) (m := wr (((l4.length : Int)) - 1)) (by kernel_rfl) sz24 F19 F22 D11 hx9 ?_
      intro w14 F23 hc12
      have D13 : Dj [b2] (fp3 ++ (fr2 ++ fp5)) := Dj.app (Dj.inl D7) (Dj.app (Dj.inr D7) D9)
      have D14 : Dj fp1 (fp3 ++ (fr2 ++ fp5)) := Dj.app (Dj.inl D8) (Dj.app (Dj.inr D8) D10)
      have G8 := lowApp (low_inl G5) (lowApp (low_inr G5) G7)
      have Dm2 := Dj.inl D11.symm
      replace F16 := F16.chg hc12 (Dj.inl (Dj.of L0 G5))
      replace F20 := F20.chg hc12 (dj1 (Dj.inl D7))
      replace F18 := F18.chg hc12 (Dj.inl D8)
      replace F21 := F21.chg hc12 Dm1
      replace F22 := F22.chg hc12 (Dj.inl (D11).symm)
      replace hB := hB.inS hc12 (memS_inl (inLow G5))
      replace F22 := (F22.sl encI_ok)
      rewrite [show l4.length = (l4.set (Int.toNat (wr (((l4.length : Int)) - 1))) y5).length from (List.length_set ..).symm]
      refine wE ?_
      obtain rfl := someE (x := ((l4.set (Int.toNat (wr (((l4.length : Int)) - 1))) y5, y4.2.1, y4.2.2))) hm
      exact eX_J (fun hst => ⟨l4.set (Int.toNat (wr (((l4.length : Int)) - 1))) y5, A4, cap4, fp3, (fr2 ++ fp5), y4.2.1, y4.2.2, rfl, fO hst, F16, F20, F18, F23, G8, D13, D14, hB⟩)
     have hm := condF hb4 hm
     refine cW_region <| wP 3 [(73, ii x10), (72, .slice A1 l1.length cap1), (71, .slice A4 l4.length cap4)] ?_
     obtain ⟨x18, hx10, hm⟩ := bindE hm
     refine sI 74 A1 l1.length cap1 .i64 x10 sl24 ((F18.sl encI_ok).is hx10) <| sL 75 (elA A1 1 (x10) 0) (ii x18) vt2 (Sl.cell (F18.sl encI_ok) hx10 0 (by rfl)) <| wS_bs (enc := encI) ([x18] : List Int) [ii x18] (d := 76) (t := 24) (T := 2) (n := 1) (ps := [(0, ii x18)]) (by kernel_rfl) el24 encI_ok (by rfl) (by omega) (by omega) (by kernel_rfl) (by rfl) ?_
     intro b4 w15 G9 F24 hc13
     have D15 := Dj.of (lt1 F20.lt) (low1 G9)
     have D16 := Dj.of F18.low (low1 G9)
     have D17 := Dj.of F19.low (low1 G9)
     replace F16 := F16.c hc13
     replace F20 := F20.c hc13
     replace F18 := F18.c hc13
     replace F19 := F19.c hc13
     replace G9 := Nat.le_trans hB.size G9
     replace G9 := low1 G9
     replace hB := hB.q hc13
     refine wS_row1 (k := 1) (enc := encI) (l := ([x18] : List Int)) (d := 77) (t := 28) (T := 24) (B := (ad b4)) (c := 1) (by kernel_rfl) el28 F24 ?_
     intro b5 w16 G10 F25 hc14
     have D18 : Dj [b2] ([b5] ++ [b4]) := Dj.app (Dj.of (lt1 F20.lt) (low1 G10)) D15
     have D19 : Dj fp1 ([b5] ++ [b4]) := Dj.app (Dj.of F18.low (low1 G10)) D16
     have D20 : Dj (fp3 ++ fr2) ([b5] ++ [b4]) := Dj.app (Dj.of F19.low (low1 G10)) D17
     replace F16 := F16.c hc14
     replace F20 := F20.c hc14
     replace F18 := F18.c hc14
     replace F19 := F19.c hc14
     replace F24 := F24.c hc14
     replace G10 := Nat.le_trans hB.size G10
     replace G10 := lowApp (low1 G10) G9
     replace hB := hB.q hc14
     replace F24 := (F24.sl encI_ok)
     obtain ⟨_, hk1, hm⟩ := bindE hm
     replace hk1 := apE hk1
     refine wS_appendR (k := 1) (enc := encI) (ll := (l4 : List (List Int))) (ll2 := (([([x18] : List Int)] : List (List Int)) : List (List Int))) (d := 78) (t := 28) (T := 24) (A := A4) (A2 := (ad b5)) (cap := cap4) (cap2 := 1) (by kernel_rfl) el28 F19 F25 (by rfl) D20 hk1 ?_
     intro w17 fp6 A8 cap8 F26 hc15 hp1
     have G11 := lowApp (low_ap (low_inl G5) hB.size hp1) (lowApp (low_inr G5) (low_inr G10))
     have D21 : Dj [b2] (fp6 ++ (fr2 ++ [b4])) := Dj.app (Dj.ap (Dj.inl D7) (lt1 F20.lt) hp1) (Dj.app (Dj.inr D7) (Dj.inr D18))
     have D22 : Dj fp1 (fp6 ++ (fr2 ++ [b4])) := Dj.app (Dj.ap (Dj.inl D8) F18.low hp1) (Dj.app (Dj.inr D8) (Dj.inr D19))
     replace F16 := F16.chg hc15 (Dj.inl (Dj.of L0 G5))
     replace F20 := F20.chg hc15 (dj1 (Dj.inl D7))
     replace F18 := F18.chg hc15 (Dj.inl D8)
     replace hB := hB.inS hc15 (memS_inl (inLow G5))
     refine wP 1 [(7, .slice A8 (l4 ++ (([([x18] : List Int)] : List (List Int)))).length cap8)] <| wE ?_
     obtain rfl := someE (x := ((l4 ++ (([([x18] : List Int)] : List (List Int))), y4.2.1, y4.2.2))) hm
     exact eX_J (fun hst => ⟨l4 ++ (([([x18] : List Int)] : List (List Int))), A8, cap8, fp6, (fr2 ++ [b4]), y4.2.1, y4.2.2, rfl, fO hst, F16, F20, F18, F26, G11, D21, D22, hB⟩)
    have hm := condF hb3 hm
    rewrite [hb3]
    refine wP 3 [(54, .bool (false)), (53, undef), (52, undef)] <| wN <| cCf <| cW_region <| wP 3 [(73, ii x10), (72, .slice A1 l1.length cap1), (71, .slice A4 l4.length cap4)] ?_
    obtain ⟨x19, hx11, hm⟩ := bindE hm
    refine sI 74 A1 l1.length cap1 .i64 x10 sl24 ((F18.sl encI_ok).is hx11) <| sL 75 (elA A1 1 (x10) 0) (ii x19) vt2 (Sl.cell (F18.sl encI_ok) hx11 0 (by rfl)) <| wS_bs (enc := encI) ([x19] : List Int) [ii x19] (d := 76) (t := 24) (T := 2) (n := 1) (ps := [(0, ii x19)]) (by kernel_rfl) el24 encI_ok (by rfl) (by omega) (by omega) (by kernel_rfl) (by rfl) ?_
    intro b6 w18 G12 F27 hc16
    have D23 := Dj.of (lt1 F17.lt) (low1 G12)
    have D24 := Dj.of F18.low (low1 G12)
    have D25 := Dj.of F19.low (low1 G12)
    replace F16 := F16.c hc16
    replace F17 := F17.c hc16
    replace F18 := F18.c hc16
    replace F19 := F19.c hc16
    replace G12 := Nat.le_trans hB.size G12
    replace G12 := low1 G12
    replace hB := hB.q hc16
    refine wS_row1 (k := 1) (enc := encI) (l := ([x19] : List Int)) (d := 77) (t := 28) (T := 24) (B := (ad b6)) (c := 1) (by kernel_rfl) el28 F27 ?_
    intro b7 w19 G13 F28 hc17
    have D26 : Dj [b2] ([b7] ++ [b6]) := Dj.app (Dj.of (lt1 F17.lt) (low1 G13)) D23
    have D27 : Dj fp1 ([b7] ++ [b6]) := Dj.app (Dj.of F18.low (low1 G13)) D24
    have D28 : Dj (fp3 ++ fr2) ([b7] ++ [b6]) := Dj.app (Dj.of F19.low (low1 G13)) D25
    replace F16 := F16.c hc17
    replace F17 := F17.c hc17
    replace F18 := F18.c hc17
    replace F19 := F19.c hc17
    replace F27 := F27.c hc17
    replace G13 := Nat.le_trans hB.size G13
    replace G13 := lowApp (low1 G13) G12
    replace hB := hB.q hc17
    replace F27 := (F27.sl encI_ok)
    obtain ⟨_, hk2, hm⟩ := bindE hm
    replace hk2 := apE hk2
    refine wS_appendR (k := 1) (enc := encI) (ll := (l4 : List (List Int))) (ll2 := (([([x19] : List Int)] : List (List Int)) : List (List Int))) (d := 78) (t := 28) (T := 24) (A := A4) (A2 := (ad b7)) (cap := cap4) (cap2 := 1) (by kernel_rfl) el28 F19 F28 (by rfl) D28 hk2 ?_
    intro w20 fp7 A9 cap9 F29 hc18 hp2
    have G14 := lowApp (low_ap (low_inl G5) hB.size hp2) (lowApp (low_inr G5) (low_inr G13))
    have D29 : Dj [b2] (fp7 ++ (fr2 ++ [b6])) := Dj.app (Dj.ap (Dj.inl D7) (lt1 F17.lt) hp2) (Dj.app (Dj.inr D7) (Dj.inr D26))
    have D30 : Dj fp1 (fp7 ++ (fr2 ++ [b6])) := Dj.app (Dj.ap (Dj.inl D8) F18.low hp2) (Dj.app (Dj.inr D8) (Dj.inr D27))
    replace F16 := F16.chg hc18 (Dj.inl (Dj.of L0 G5))
    replace F17 := F17.chg hc18 (dj1 (Dj.inl D7))
    replace F18 := F18.chg hc18 (Dj.inl D8)
    replace hB := hB.inS hc18 (memS_inl (inLow G5))
    refine wP 1 [(7, .slice A9 (l4 ++ (([([x19] : List Int)] : List (List Int)))).length cap9)] <| wE ?_
    obtain rfl := someE (x := ((l4 ++ (([([x19] : List Int)] : List (List Int))), x11, x12))) hm
    exact eX_J (fun hst => ⟨l4 ++ (([([x19] : List Int)] : List (List Int))), A9, cap9, fp7, (fr2 ++ [b6]), x11, x12, rfl, fO hst, F16, F17, F18, F29, G14, D29, D30, hB⟩)
   rintro a' w21 ⟨l5, A5, cap5, fp4, fr3, x13, x14, hJ, hF4, F30, F31, F32, F33, G15, D31, D32, hB⟩
   subst hJ
   refine gX hF4 <| eX_block <| eX_then <| cW_region <| wP 3 [(11, ii (wr (x10 + 1))), (47, ii (wr (x10 + 1))), (46, ii x10)] <| wE ?_
   obtain rfl := someE (x := (Ctl.next ((l5, wr (x10 + 1), x13, x14)))) hm
   exact eX_next hx6 (fun hst => ⟨l5, A5, cap5, fp4, fr3, wr (x10 + 1), x13, x14, rfl, fO hst, F30, F31, F32, F33, G15, D31, D32, hB⟩)
  have hm := condF hb2 hm
  refine cW_exit <| eX_then_exit ?_
  obtain rfl := someE (x := Ctl.out l4) hm
  refine eX_outX hx6 (fun hr4 => ?_)
  replace hr4 := hr4.symm
  subst hr4
  refine eX_block_hit ?_
  exact eX_J (fun hst => ⟨l4, A4, cap4, fp3, fr2, rfl, fO hst, F19, G5, hB⟩)
 rintro a' w22 ⟨l3, A3, cap3, fp2, fr1, hJ, hF5, F34, G16, hB⟩
 subst hJ
 refine gX hF5 <| eX_then <| sR <| wP 2 [(4, .slice A3 l3.length cap3), (79, .slice A3 l3.length cap3)] <| wN <| cW_ret ?_
 obtain rfl := someE (x := l3) hm
 refine rA (.slice A3 l3.length cap3) 4 ?_
 exact ⟨A3, cap3, fp2, fr1, rfl, F34, G16, hB⟩

set_option maxRecDepth 100000 in
theorem c_impl_places {w0} {l0 : List (List Int)} {A0 : Option Addr} {cap0 : Nat} {fp0 : List Nat} {l1 : List Int} {A1 : Option Addr} {cap1 : Nat} {fp1 : List Nat} {r : (List (List Int)) × Bool} (hm : m_impl_places l0 l1 = some r) (F0 : SlR 1 encI w0 fp0 A0 l0) (F1 : S1 w0 fp1 A1 l1) :
  Calls Tryd.prog 58 #[.slice A0 l0.length cap0, .slice A1 l1.length cap1] w0 fun e w' => ∃ A100 cap100 fp100 fr100, e = .returned (.tuple #[.slice A100 r.1.length cap100, .bool (r.2)]) ∧ OwR 1 encI 56 3 w' fp100 fr100 A100 cap100 r.1 ∧ (∀ x ∈ fp100 ++ fr100, w0.heap.size ≤ x) ∧ Chg [] w0 w' := by
 have L0 := F0.low
 have L1 := F1.low
 have hB : Chg [] w0 w0 := Chg.refl _ _
 unfold m_impl_places at hm
 refine enterE (N := 43) Tryd.func58 (by rfl) Tryd.ntmps58 (by simp) [(0, .slice A0 l0.length cap0), (1, .slice A1 l1.length cap1)] (by rfl) (by kernel_rfl) (fun a => ?_)
 refine sR <| wP 2 [(5, .bool (false)), (4, .slice none 0 0)] <| wN <| sR <| wS_rows0 (k := 1) (enc := encI) (d := 13) (t := 54) (T := 56) (T2 := 3) (by kernel_rfl) el54 ?_
 intro b1 w1 G1 F2 hc1
 replace F0 := F0.c hc1
 replace F1 := F1.c hc1
 replace G1 := Nat.le_trans hB.size G1
 replace G1 := low1 G1
 replace hB := hB.q hc1
 replace G1 := lowApp G1 lowNil
 refine wP 1 [(6, .slice (ad b1) (([] : List (List Int))).length 0)] <| wN <| cW_seq <| sR <| wP 3 [(16, ii 0), (15, ii (l0.length : Int)), (14, .slice A0 l0.length cap0)] <| wN ?_
 obtain ⟨r1, hr1, hm⟩ := bindE hm
 have hm1 := hm
 refine cW_cut (fun a' w' => ∃ l3 : List (List Int), ∃ A3 : Option Addr, ∃ cap3 : Nat, ∃ fp2 : List Nat, ∃ fr1 : List Nat, Sum.inl l3 = r1 ∧ Fr 43 [(6, .slice A3 l3.length cap3)] a' ∧ OwR 1 encI 56 3 w' fp2 fr1 A3 cap3 l3 ∧ (∀ x ∈ (fp2 ++ fr1), w0.heap.size ≤ x) ∧ Chg [] w0 w') ?_ ?_
 ·refine cW_block ?_
  refine cW_loop _ (fun (s1 : (List (List Int)) × Int) a' w' => ∃ l4 : List (List Int), ∃ A4 : Option Addr, ∃ cap4 : Nat, ∃ fp3 : List Nat, ∃ fr2 : List Nat, ∃ x1 : Int, (l4, x1) = s1 ∧ Fr 43 [(1, .slice A1 l1.length cap1), (6, .slice A4 l4.length cap4), (14, .slice A0 l0.length cap0), (15, ii (l0.length : Int)), (16, ii x1)] a' ∧ SlR 1 encI w' fp0 A0 l0 ∧ S1 w' fp1 A1 l1 ∧ OwR 1 encI 56 3 w' fp3 fr2 A4 cap4 l4 ∧ (∀ x ∈ (fp3 ++ fr2), w0.heap.size ≤ x) ∧ Chg [] w0 w') hr1 (fun hst => ⟨([] : List (List Int)), (ad b1), 0, [b1], [], 0, rfl, fO hst, F0, F1, F2, G1, hB⟩) ?_
  rintro _ c1 a' w2 ⟨l4, A4, cap4, fp3, fr2, x1, rfl, hF1, F3, F4, F5, G2, hB⟩ hx1
  refine gO hF1 ?_
  have hm := hx1
  unfold m_impl_places_s3 at hm
  refine sR <| wP 1 [(17, .bool (decide (x1 < ((l0.length : Int)))))] <| wN <| cW_seq <| cC (decide (x1 < ((l0.length : Int)))) (fun hb1 => ?_) (fun hb1 => ?_)
  ·have hm := condT hb1 hm
   refine cW_skip <| eX_then <| cW_seq <| cW_block <| sR ?_
   obtain ⟨x2, hx2, hm⟩ := bindE hm
   refine sI 18 A0 l0.length cap0 .i64 x1 sl28 (F3.is hx2) ?_
   obtain ⟨A5, cap5, hc2, F6, K1⟩ := SlR.row F3 hx2
   refine sL 19 (elA A0 1 (x1) 0) (.slice A5 x2.length cap5) vt24 hc2 <| wP 1 [(8, .slice A5 x2.length cap5)] <| wN <| sR <| wS_bs0 (α := Int) (enc := encI) (d := 20) (t := 56) (T := 3) (by kernel_rfl) el56 ?_
   intro b2 w3 G3 F7 hc3
   have D1 := Dj.of F5.low (low1 G3)
   replace F3 := F3.c hc3
   replace F4 := F4.c hc3
   replace F5 := F5.c hc3
   replace F6 := F6.c hc3
   replace G3 := Nat.le_trans hB.size G3
   replace G3 := low1 G3
   replace hB := hB.q hc3
   refine wP 1 [(9, .slice (ad b2) (([] : List Int)).length 0)] <| wN <| cW_seq <| sR <| wP 3 [(23, ii 0), (22, ii (x2.length : Int)), (21, .slice A5 x2.length cap5)] <| wN ?_
   obtain ⟨r2, hr2, hm⟩ := bindE hm
   have hm2 := hm
   refine cW_cut (fun a' w' => ∃ l5 : List Int, ∃ A6 : Option Addr, ∃ cap6 : Nat, ∃ fp4 : List Nat, Sum.inl l5 = r2 ∧ Fr 43 [(1, .slice A1 l1.length cap1), (6, .slice A4 l4.length cap4), (9, .slice A6 l5.length cap6), (14, .slice A0 l0.length cap0), (15, ii (l0.length : Int)), (16, ii x1)] a' ∧ SlR 1 encI w' fp0 A0 l0 ∧ S1 w' fp1 A1 l1 ∧ OwR 1 encI 56 3 w' fp3 fr2 A4 cap4 l4 ∧ O1 3 w' fp4 A6 cap6 l5 ∧ (∀ x ∈ fp4, w0.heap.size ≤ x) ∧ Dj (fp3 ++ fr2) fp4 ∧ Chg [] w0 w') ?_ ?_
   ·refine cW_block ?_
    refine cW_loop _ (fun (s2 : (List Int) × Int) a' w' => ∃ l6 : List Int, ∃ A7 : Option Addr, ∃ cap7 : Nat, ∃ fp5 : List Nat, ∃ x3 : Int, (l6, x3) = s2 ∧ Fr 43 [(1, .slice A1 l1.length cap1), (6, .slice A4 l4.length cap4), (9, .slice A7 l6.length cap7), (14, .slice A0 l0.length cap0), (15, ii (l0.length : Int)), (16, ii x1), (21, .slice A5 x2.length cap5), (22, ii (x2.length : Int)), (23, ii x3)] a' ∧ SlR 1 encI w' fp0 A0 l0 ∧ S1 w' fp1 A1 l1 ∧ OwR 1 encI 56 3 w' fp3 fr2 A4 cap4 l4 ∧ S1 w' fp0 A5 x2 ∧ O1 3 w' fp5 A7 cap7 l6 ∧ (∀ x ∈ fp5, w0.heap.size ≤ x) ∧ Dj (fp3 ++ fr2) fp5 ∧ Chg [] w0 w') hr2 (fun hst => ⟨([] : List Int), (ad b2), 0, [b2], 0, rfl, fO hst, F3, F4, F5, F6, F7, G3, D1, hB⟩) ?_
    rintro _ c2 a' w4 ⟨l6, A7, cap7, fp5, x3, rfl, hF2, F8, F9, F10, F11, F12, G4, D2, hB⟩ hx3
    refine gO hF2 ?_
    have hm := hx3
    unfold m_impl_places_s4 at hm
    refine sR <| wP 1 [(24, .bool (decide (x3 < ((x2.length : Int)))))] <| wN <| cW_seq <| cC (decide (x3 < ((x2.length : Int)))) (fun hb2 => ?_) (fun hb2 => ?_)
    ·have hm := condT hb2 hm
     refine cW_skip <| eX_then <| cW_seq <| cW_block <| sR ?_
     obtain ⟨x4, hx4, hm⟩ := bindE hm
     refine sI 25 A5 x2.length cap5 .i64 x3 sl24 (F11.is hx4) <| sL 26 (elA A5 1 (x3) 0) (ii x4) vt2 (Sl.cell F11 hx4 0 (by rfl)) <| wP 1 [(11, ii x4)] <| wN <| sR <| wP 2 [(28, ii x4), (27, .slice A1 l1.length cap1)] ?_
     obtain ⟨y1, hy1, hm⟩ := bindE hm
     refine sC 29 [.slice A1 l1.length cap1, ii x4] ent93 (c_sIndex hy1 F9) ?_
     rintro _ w5 ⟨rfl, hc4⟩
     replace F8 := F8.c hc4
     replace F9 := F9.c hc4
     replace F10 := F10.c hc4
     replace F11 := F11.c hc4
     replace F12 := F12.c hc4
     replace hB := hB.q hc4
     refine ⟨ii y1, rfl, ?_⟩
     refine wP 1 [(12, ii y1)] <| wN <| cW_seq <| sR <| wP 2 [(31, .bool (decide (y1 < 0))), (30, ii y1)] <| wN <| cC (decide (y1 < 0)) (fun hb3 => ?_) (fun hb3 => ?_)
     ·have hm := condT hb3 hm
      refine sR <| wP 2 [(5, .bool (false)), (4, .slice none 0 0)] <| wN <| cW_ret <| eX_then_ret <| eX_block_ret <| eX_then_ret ?_
      obtain rfl := someE (x := (Ctl.out (Sum.inr (([], false))))) hm
      refine eX_outR hx3 (fun hr => ?_)
      subst hr
      refine eX_block_ret <| eX_then_ret <| eX_then_ret <| eX_block_ret <| eX_then_ret ?_
      obtain rfl := someE (x := (Ctl.out (Sum.inr (([], false))))) hm2
      refine eX_outR hx1 (fun hr => ?_)
      subst hr
      refine eX_block_ret <| eX_then_ret <| eX_then_ret ?_
      obtain rfl := someE (x := (([], false))) hm1
      refine rB (.slice none 0 0) (.bool (false)) 4 5 ?_
      exact ⟨none, 0, [], [], rfl, OwR.nil _, (lowApp lowNil lowNil), hB⟩
     have hm := condF hb3 hm
     refine cW_skip <| eX_then <| cW_region <| wP 2 [(33, ii y1), (32, .slice A7 l6.length cap7)] <| wS_bs (enc := encI) ([y1] : List Int) [ii y1] (d := 34) (t := 56) (T := 3) (n := 1) (ps := [(0, ii y1)]) (by kernel_rfl) el56 encI_ok (by rfl) (by omega) (by omega) (by kernel_rfl) (by rfl) ?_
     intro b3 w6 G5 F13 hc5
     have D3 := Dj.of F10.low (low1 G5)
     have D4 := Dj.of F12.low (low1 G5)
     replace F8 := F8.c hc5
     replace F9 := F9.c hc5
     replace F10 := F10.c hc5
     replace F11 := F11.c hc5
     replace F12 := F12.c hc5
     replace G5 := Nat.le_trans hB.size G5
     replace G5 := low1 G5
     replace hB := hB.q hc5
     obtain ⟨_, hk1, hm⟩ := bindE hm
     replace hk1 := apE hk1
     refine wS_append (enc := encI) (l := (l6 : List Int)) (l2 := (([y1] : List Int) : List Int)) (d := 35) (t := 56) (T := 3) (A := A7) (A2 := (ad b3)) (cap := cap7) (cap2 := 1) (by kernel_rfl) el56 encI_ok F12 (F13.sl encI_ok) (by rfl) hk1 ?_
     intro w7 fp6 A8 cap8 F14 hc6 hp1
     have G6 := low_ap G4 hB.size hp1
     have D5 : Dj (fp3 ++ fr2) fp6 := Dj.ap D2 F10.low hp1
     have D6 : Dj [b3] fp6 := Dj.ap (D4).symm F13.low hp1
     replace F8 := F8.chg hc6 (Dj.of L0 G4)
     replace F9 := F9.chg hc6 (Dj.of L1 G4)
     replace F10 := F10.chg hc6 D2
     replace F11 := F11.chg hc6 (Dj.of L0 G4)
     replace F13 := F13.chg hc6 (D4).symm
     replace hB := hB.inS hc6 (inLow G4)
     refine wP 1 [(9, .slice A8 (l6 ++ (([y1] : List Int))).length cap8)] <| wE <| eX_block <| eX_then <| cW_region <| wP 2 [(23, ii (wr (x3 + 1))), (36, ii (wr (x3 + 1)))] <| wE ?_
     obtain rfl := someE (x := (Ctl.next ((l6 ++ (([y1] : List Int)), wr (x3 + 1))))) hm
     exact eX_next hx3 (fun hst => ⟨l6 ++ (([y1] : List Int)), A8, cap8, fp6, wr (x3 + 1), rfl, fO hst, F8, F9, F10, F11, F14, G6, D5, hB⟩)
    have hm := condF hb2 hm
    refine cW_exit <| eX_then_exit ?_
    obtain rfl := someE (x := Ctl.out (Sum.inl l6)) hm
    refine eX_outX hx3 (fun hr3 => ?_)
    replace hr3 := hr3.symm
    subst hr3
    refine eX_block_hit ?_
    exact eX_J (fun hst => ⟨l6, A7, cap7, fp5, rfl, fO hst, F8, F9, F10, F12, G4, D2, hB⟩)
   rintro a' w8 ⟨l5, A6, cap6, fp4, hJ, hF3, F15, F16, F17, F18, G7, D7, hB⟩
   subst hJ
   refine gX hF3 <| eX_then <| cW_region <| wP 2 [(38, .slice A6 l5.length cap6), (37, .slice A4 l4.length cap4)] <| wS_row1 (k := 1) (enc := encI) (l := l5) (d := 39) (t := 54) (T := 56) (B := A6) (c := cap6) (by kernel_rfl) el54 F18 ?_
   intro b4 w9 G8 F19 hc7
   have D8 : Dj (fp3 ++ fr2) ([b4] ++ fp4) := Dj.app (Dj.of F17.low (low1 G8)) D7
   replace F15 := F15.c hc7
   replace F16 := F16.c hc7
   replace F17 := F17.c hc7
   replace F18 := F18.c hc7
   replace G8 := Nat.le_trans hB.size G8
   replace G8 := lowApp (low1 G8) G7
   replace hB := hB.q hc7
   replace F18 := (F18.sl encI_ok)
   obtain ⟨_, hk2, hm⟩ := bindE hm
   replace hk2 := apE hk2
   refine wS_appendR (k := 1) (enc := encI) (ll := (l4 : List (List Int))) (ll2 := (([l5] : List (List Int)) : List (List Int))) (d := 40) (t := 54) (T := 56) (A := A4) (A2 := (ad b4)) (cap := cap4) (cap2 := 1) (by kernel_rfl) el54 F17 F19 (by rfl) D8 hk2 ?_
   intro w10 fp7 A9 cap9 F20 hc8 hp2
   have G9 := lowApp (low_ap (low_inl G2) hB.size hp2) (lowApp (low_inr G2) (low_inr G8))
   replace F15 := F15.chg hc8 (Dj.inl (Dj.of L0 G2))
   replace F16 := F16.chg hc8 (Dj.inl (Dj.of L1 G2))
   replace hB := hB.inS hc8 (memS_inl (inLow G2))
   refine wP 1 [(6, .slice A9 (l4 ++ (([l5] : List (List Int)))).length cap9)] <| wE <| eX_block <| eX_then <| cW_region <| wP 2 [(16, ii (wr (x1 + 1))), (41, ii (wr (x1 + 1)))] <| wE ?_
   obtain rfl := someE (x := (Ctl.next ((l4 ++ (([l5] : List (List Int))), wr (x1 + 1))))) hm
   exact eX_next hx1 (fun hst => ⟨l4 ++ (([l5] : List (List Int))), A9, cap9, fp7, (fr2 ++ fp4), wr (x1 + 1), rfl, fO hst, F15, F16, F20, G9, hB⟩)
  have hm := condF hb1 hm
  refine cW_exit <| eX_then_exit ?_
  obtain rfl := someE (x := Ctl.out (Sum.inl l4)) hm
  refine eX_outX hx1 (fun hr4 => ?_)
  replace hr4 := hr4.symm
  subst hr4
  refine eX_block_hit ?_
  exact eX_J (fun hst => ⟨l4, A4, cap4, fp3, fr2, rfl, fO hst, F5, G2, hB⟩)
 rintro a' w11 ⟨l3, A3, cap3, fp2, fr1, hJ, hF4, F21, G10, hB⟩
 subst hJ
 refine gX hF4 <| eX_then <| sR <| wP 3 [(5, .bool (true)), (4, .slice A3 l3.length cap3), (42, .slice A3 l3.length cap3)] <| wN <| cW_ret ?_
 obtain rfl := someE (x := ((l3, true))) hm
 refine rB (.slice A3 l3.length cap3) (.bool (true)) 4 5 ?_
 exact ⟨A3, cap3, fp2, fr1, rfl, F21, G10, hB⟩

set_option maxRecDepth 100000 in
theorem c_iOrderSetsO {w0 l0_0 A0_0 cap0_0 fp0_0 l0_1 A0_1 cap0_1 fp0_1} {l1 : List (List Int)} {A1 : Option Addr} {cap1 : Nat} {fp1 : List Nat} {r : Bool} (hm : m_iOrderSetsO l0_0 l0_1 l1 = some r) (F0_0 : S1 w0 fp0_0 A0_0 l0_0) (F0_1 : S1 w0 fp0_1 A0_1 l0_1) (F1 : SlR 1 encI w0 fp1 A1 l1) :
  Calls Tryd.prog 59 #[.agg #[.slice A0_0 l0_0.length cap0_0, .slice A0_1 l0_1.length cap0_1], .slice A1 l1.length cap1] w0 fun e w' => e = .returned (.bool (r)) ∧ Chg [] w0 w' := by
 have L0_0 := F0_0.low
 have L0_1 := F0_1.low
 have L1 := F1.low
 have hB : Chg [] w0 w0 := Chg.refl _ _
 unfold m_iOrderSetsO at hm
 refine enterE (N := 87) Tryd.func59 (by rfl) Tryd.ntmps59 (by simp) [(0, .agg #[.slice A0_0 l0_0.length cap0_0, .slice A0_1 l0_1.length cap0_1]), (1, .slice A1 l1.length cap1)] (by rfl) (by kernel_rfl) (fun a => ?_)
 refine sR <| wS_box (d := 2) (T := 58) (x := .agg #[.slice A0_0 l0_0.length cap0_0, .slice A0_1 l0_1.length cap0_1]) (by kernel_rfl) ?_
 intro b1 w1 G1 F2 hc1
 replace F2 : Cl w1 b1 58 [.slice A0_0 l0_0.length cap0_0, .slice A0_1 l0_1.length cap0_1] := F2
 replace F0_0 := F0_0.c hc1
 replace F0_1 := F0_1.c hc1
 replace F1 := F1.c hc1
 replace G1 := Nat.le_trans hB.size G1
 replace hB := hB.q hc1
 refine wP 1 [(4, .bool (false))] <| wN <| sR <| wP 1 [(5, ii 0)] <| wN <| cW_seq <| sR <| wP 3 [(15, ii 0), (14, ii (l1.length : Int)), (13, .slice A1 l1.length cap1)] <| wN ?_
 obtain ⟨r1, hr1, hm⟩ := bindE hm
 have hm1 := hm
 refine cW_cut (fun a' w' => ∃ x1 : Int, Sum.inl x1 = r1 ∧ Fr 87 [(2, pt b1), (5, ii x1)] a' ∧ S1 w' fp0_0 A0_0 l0_0 ∧ S1 w' fp0_1 A0_1 l0_1 ∧ Cl w' b1 58 [.slice A0_0 l0_0.length cap0_0, .slice A0_1 l0_1.length cap0_1] ∧ Chg [] w0 w') ?_ ?_
 ·refine cW_block ?_
  refine cW_loop _ (fun (s1 : Int × Int) a' w' => ∃ x2 : Int, ∃ x3 : Int, (x2, x3) = s1 ∧ Fr 87 [(2, pt b1), (5, ii x2), (13, .slice A1 l1.length cap1), (14, ii (l1.length : Int)), (15, ii x3)] a' ∧ S1 w' fp0_0 A0_0 l0_0 ∧ S1 w' fp0_1 A0_1 l0_1 ∧ SlR 1 encI w' fp1 A1 l1 ∧ Cl w' b1 58 [.slice A0_0 l0_0.length cap0_0, .slice A0_1 l0_1.length cap0_1] ∧ Chg [] w0 w') hr1 (fun hst => ⟨0, 0, rfl, fO hst, F0_0, F0_1, F1, F2, hB⟩) ?_
  rintro _ c1 a' w2 ⟨x2, x3, rfl, hF1, F3, F4, F5, F6, hB⟩ hx1
  refine gO hF1 ?_
  have hm := hx1
  unfold m_iOrderSetsO_s5 at hm
  refine sR <| wP 1 [(16, .bool (decide (x3 < ((l1.length : Int)))))] <| wN <| cW_seq <| cC (decide (x3 < ((l1.length : Int)))) (fun hb1 => ?_) (fun hb1 => ?_)
  ·have hm := condT hb1 hm
   refine cW_skip <| eX_then <| cW_seq <| cW_block <| sR ?_
   obtain ⟨x4, hx2, hm⟩ := bindE hm
   refine sI 17 A1 l1.length cap1 .i64 x3 sl54 (F5.is hx2) ?_
   obtain ⟨A2, cap2, hc2, F7, K1⟩ := SlR.row F5 hx2
   refine sL 18 (elA A1 1 (x3) 0) (.slice A2 x4.length cap2) vt56 hc2 <| wP 1 [(7, .slice A2 x4.length cap2)] <| wN <| sR <| wP 1 [(8, ii 0)] <| wN <| cW_seq <| sR <| wP 3 [(21, ii 0), (20, ii (x4.length : Int)), (19, .slice A2 x4.length cap2)] <| wN ?_
   obtain ⟨r2, hr2, hm⟩ := bindE hm
   have hm2 := hm
   refine cW_cut (fun a' w' => ∃ x5 : Int, Sum.inl x5 = r2 ∧ Fr 87 [(2, pt b1), (5, ii x2), (7, .slice A2 x4.length cap2), (8, ii x5), (13, .slice A1 l1.length cap1), (14, ii (l1.length : Int)), (15, ii x3)] a' ∧ S1 w' fp0_0 A0_0 l0_0 ∧ S1 w' fp0_1 A0_1 l0_1 ∧ SlR 1 encI w' fp1 A1 l1 ∧ Cl w' b1 58 [.slice A0_0 l0_0.length cap0_0, .slice A0_1 l0_1.length cap0_1] ∧ S1 w' fp1 A2 x4 ∧ Chg [] w0 w') ?_ ?_
   ·refine cW_block ?_
    refine cW_loop _ (fun (s2 : Int × Int) a' w' => ∃ x6 : Int, ∃ x7 : Int, (x6, x7) = s2 ∧ Fr 87 [(2, pt b1), (5, ii x2), (7, .slice A2 x4.length cap2), (8, ii x6), (13, .slice A1 l1.length cap1), (14, ii (l1.length : Int)), (15, ii x3), (19, .slice A2 x4.length cap2), (20, ii (x4.length : Int)), (21, ii x7)] a' ∧ S1 w' fp0_0 A0_0 l0_0 ∧ S1 w' fp0_1 A0_1 l0_1 ∧ SlR 1 encI w' fp1 A1 l1 ∧ Cl w' b1 58 [.slice A0_0 l0_0.length cap0_0, .slice A0_1 l0_1.length cap0_1] ∧ S1 w' fp1 A2 x4 ∧ Chg [] w0 w') hr2 (fun hst => ⟨0, 0, rfl, fO hst, F3, F4, F5, F6, F7, hB⟩) ?_
    rintro _ c2 a' w3 ⟨x6, x7, rfl, hF2, F8, F9, F10, F11, F12, hB⟩ hx3
    refine gO hF2 ?_
    have hm := hx3
    unfold m_iOrderSetsO_s6 at hm
    refine sR <| wP 1 [(22, .bool (decide (x7 < ((x4.length : Int)))))] <| wN <| cW_seq <| cC (decide (x7 < ((x4.length : Int)))) (fun hb2 => ?_) (fun hb2 => ?_)
    ·have hm := condT hb2 hm
     refine cW_skip <| eX_then <| cW_seq <| cW_block <| sR <| wP 1 [(23, ii x7)] ?_
     obtain ⟨x8, hx4, hm⟩ := bindE hm
     refine sI 24 A2 x4.length cap2 .i64 x7 sl56 (F12.is hx4) <| sL 25 (elA A2 1 (x7) 0) (ii x8) vt3 (Sl.cell F12 hx4 0 (by rfl)) <| wP 2 [(10, ii x8), (9, ii x7)] <| wN <| cW_seq <| sR <| wP 3 [(28, .bool (decide (x7 > 0))), (27, .bool (decide (x7 > 0))), (26, ii x7)] <| wS_bool (decide (x7 > 0)) (fun hb3 => ?_) (fun hb3 => ?_)
     ·have hm := condT hb3 hm
      rewrite [hb3]
      refine wP 3 [(31, ii (wr (x7 - 1))), (30, ii x7), (29, .slice A2 x4.length cap2)] ?_
      obtain ⟨x9, hx5, hm⟩ := bindE hm
      refine sI 32 A2 x4.length cap2 .i64 (wr (x7 - 1)) sl56 (F12.is hx5) <| sL 33 (elA A2 1 (wr (x7 - 1)) 0) (ii x9) vt3 (Sl.cell F12 hx5 0 (by rfl)) <| wP 4 [(37, .bool (decide (x9 ≥ x8))), (36, .bool (decide (x9 ≥ x8))), (35, .bool (decide (x9 ≥ x8))), (34, ii x8)] <| wS_bool (decide (x9 ≥ x8)) (fun hb4 => ?_) (fun hb4 => ?_)
      ·have hm := condT hb4 hm
       rewrite [hb4]
       refine wP 16 [(53, .bool (true)), (52, undef), (51, undef), (50, undef), (49, undef), (48, undef), (47, undef), (46, undef), (45, undef), (44, .bool (true)), (43, .bool (true)), (42, undef), (41, undef), (40, undef), (39, undef), (38, undef)] <| wN <| cP [(2, pt b1), (5, ii x2), (7, .slice A2 x4.length cap2), (8, ii x6), (10, ii x8), (13, .slice A1 l1.length cap1), (14, ii (l1.length : Int)), (15, ii x3), (19, .slice A2 x4.length cap2), (20, ii (x4.length : Int)), (21, ii x7), (53, .bool (true))] (fun a1 => ?_)
       refine cCt <| sR <| wP 1 [(4, .bool (false))] <| wN <| cW_ret <| eX_then_ret <| eX_block_ret <| eX_then_ret ?_
       obtain rfl := someE (x := Ctl.out (Sum.inr false)) hm
       refine eX_outR hx3 (fun hr => ?_)
       subst hr
       refine eX_block_ret <| eX_then_ret <| eX_then_ret <| eX_block_ret <| eX_then_ret ?_
       obtain rfl := someE (x := Ctl.out (Sum.inr false)) hm2
       refine eX_outR hx1 (fun hr => ?_)
       subst hr
       refine eX_block_ret <| eX_then_ret <| eX_then_ret ?_
       obtain rfl := someE (x := false) hm1
       refine rA (.bool (false)) 4 ?_
       exact ⟨rfl, hB⟩
      have hm := condF hb4 hm
      rewrite [hb4]
      refine wP 2 [(39, ii x8), (38, ii x2)] ?_
      obtain ⟨u1, hu1, hm⟩ := bindE hm
      refine wS_shr (d := 40) (x := x2) (y := x8) (yk := .i64) (by kernel_rfl) (p0E hu1) <| wP 4 [(44, .bool ((andI (shrI x2 x8) 1) == 1)), (43, .bool ((andI (shrI x2 x8) 1) == 1)), (42, .bool ((andI (shrI x2 x8) 1) == 1)), (41, ii (andI (shrI x2 x8) 1))] <| wS_bool ((andI (shrI x2 x8) 1) == 1) (fun hb5 => ?_) (fun hb5 => ?_)
      ·have hm := condT hb5 hm
       rewrite [hb5]
       refine wP 9 [(53, .bool (true)), (52, undef), (51, undef), (50, undef), (49, undef), (48, undef), (47, undef), (46, undef), (45, undef)] <| wN <| cP [(2, pt b1), (5, ii x2), (7, .slice A2 x4.length cap2), (8, ii x6), (10, ii x8), (13, .slice A1 l1.length cap1), (14, ii (l1.length : Int)), (15, ii x3), (19, .slice A2 x4.length cap2), (20, ii (x4.length : Int)), (21, ii x7), (53, .bool (true))] (fun a2 => ?_)
       refine cCt <| sR <| wP 1 [(4, .bool (false))] <| wN <| cW_ret <| eX_then_ret <| eX_block_ret <| eX_then_ret ?_
       obtain rfl := someE (x := Ctl.out (Sum.inr false)) hm
       refine eX_outR hx3 (fun hr => ?_)
       subst hr
       refine eX_block_ret <| eX_then_ret <| eX_then_ret <| eX_block_ret <| eX_then_ret ?_
       obtain rfl := someE (x := Ctl.out (Sum.inr false)) hm2
       refine eX_outR hx1 (fun hr => ?_)
       subst hr
       refine eX_block_ret <| eX_then_ret <| eX_then_ret ?_
       obtain rfl := someE (x := false) hm1
       refine rA (.bool (false)) 4 ?_
       exact ⟨rfl, hB⟩
      have hm := condF hb5 hm
      rewrite [hb5]
      refine wP 1 [(45, pt b1)] <| sL 46 ⟨b1, 0, none⟩ (.slice A0_0 l0_0.length cap0_0) vt56 ((F11).cell 0) <| wP 1 [(47, ii x8)] ?_
      obtain ⟨x10, hx6, hm⟩ := bindE hm
      refine sI 48 A0_0 l0_0.length cap0_0 .i64 x8 sl56 (F8.is hx6) <| sL 49 (elA A0_0 1 (x8) 0) (ii x10) vt3 (Sl.cell F8 hx6 0 (by rfl)) <| wP 4 [(53, .bool ((andI x10 x6) != 0)), (52, .bool ((andI x10 x6) != 0)), (51, ii (andI x10 x6)), (50, ii x6)] <| wN <| cP [(2, pt b1), (5, ii x2), (7, .slice A2 x4.length cap2), (8, ii x6), (10, ii x8), (13, .slice A1 l1.length cap1), (14, ii (l1.length : Int)), (15, ii x3), (19, .slice A2 x4.length cap2), (20, ii (x4.length : Int)), (21, ii x7), (53, .bool ((andI x10 x6) != 0))] (fun a3 => ?_)
      refine cC ((andI x10 x6) != 0) (fun hb6 => ?_) (fun hb6 => ?_)
      ·have hm := condT hb6 hm
       refine sR <| wP 1 [(4, .bool (false))] <| wN <| cW_ret <| eX_then_ret <| eX_block_ret <| eX_then_ret ?_
       obtain rfl := someE (x := Ctl.out (Sum.inr false)) hm
       refine eX_outR hx3 (fun hr => ?_)
       subst hr
       refine eX_block_ret <| eX_then_ret <| eX_then_ret <| eX_block_ret <| eX_then_ret ?_
       obtain rfl := someE (x := Ctl.out (Sum.inr false)) hm2
       refine eX_outR hx1 (fun hr => ?_)
       subst hr
       refine eX_block_ret <| eX_then_ret <| eX_then_ret ?_
       obtain rfl := someE (x := false) hm1
       refine rA (.bool (false)) 4 ?_
       exact ⟨rfl, hB⟩
      have hm := condF hb6 hm
      refine cW_skip <| eX_then <| cW_region <| wP 2 [(55, ii x8), (54, ii x6)] ?_
      obtain ⟨u2, hu2, hm⟩ := bindE hm
      refine wS_shl (d := 56) (x := 1) (y := x8) (yk := .i64) (by kernel_rfl) (p0E hu2) <| wP 2 [(8, ii (orI x6 (shlI 1 x8))), (57, ii (orI x6 (shlI 1 x8)))] <| wE <| eX_block <| eX_then <| cW_region <| wP 2 [(21, ii (wr (x7 + 1))), (58, ii (wr (x7 + 1)))] <| wE ?_
      obtain rfl := someE (x := (Ctl.next ((orI x6 (shlI 1 x8), wr (x7 + 1))))) hm
      exact eX_next hx3 (fun hst => ⟨orI x6 (shlI 1 x8), wr (x7 + 1), rfl, fO hst, F8, F9, F10, F11, F12, hB⟩)
     have hm := condF hb3 hm
     rewrite [hb3]
     refine wP 11 [(39, ii x8), (38, ii x2), (37, .bool (false)), (36, .bool (false)), (35, undef), (34, undef), (33, undef), (32, undef), (31, undef), (30, undef), (29, undef)] ?_
     obtain ⟨u3, hu3, hm⟩ := bindE hm
     refine wS_shr (d := 40) (x := x2) (y := x8) (yk := .i64) (by kernel_rfl) (p0E hu3) <| wP 4 [(44, .bool ((andI (shrI x2 x8) 1) == 1)), (43, .bool ((andI (shrI x2 x8) 1) == 1)), (42, .bool ((andI (shrI x2 x8) 1) == 1)), (41, ii (andI (shrI x2 x8) 1))] <| wS_bool ((andI (shrI x2 x8) 1) == 1) (fun hb7 => ?_) (fun hb7 => ?_)
     ·have hm := condT hb7 hm
      rewrite [hb7]
      refine wP 9 [(53, .bool (true)), (52, undef), (51, undef), (50, undef), (49, undef), (48, undef), (47, undef), (46, undef), (45, undef)] <| wN <| cP [(2, pt b1), (5, ii x2), (7, .slice A2 x4.length cap2), (8, ii x6), (10, ii x8), (13, .slice A1 l1.length cap1), (14, ii (l1.length : Int)), (15, ii x3), (19, .slice A2 x4.length cap2), (20, ii (x4.length : Int)), (21, ii x7), (53, .bool (true))] (fun a4 => ?_)
      refine cCt <| sR <| wP 1 [(4, .bool (false))] <| wN <| cW_ret <| eX_then_ret <| eX_block_ret <| eX_then_ret ?_
      obtain rfl := someE (x := Ctl.out (Sum.inr false)) hm
      refine eX_outR hx3 (fun hr => ?_)
      subst hr
      refine eX_block_ret <| eX_then_ret <| eX_then_ret <| eX_block_ret <| eX_then_ret ?_
      obtain rfl := someE (x := Ctl.out (Sum.inr false)) hm2
      refine eX_outR hx1 (fun hr => ?_)
      subst hr
      refine eX_block_ret <| eX_then_ret <| eX_then_ret ?_
      obtain rfl := someE (x := false) hm1
      refine rA (.bool (false)) 4 ?_
      exact ⟨rfl, hB⟩
     have hm := condF hb7 hm
     rewrite [hb7]
     refine wP 1 [(45, pt b1)] <| sL 46 ⟨b1, 0, none⟩ (.slice A0_0 l0_0.length cap0_0) vt56 ((F11).cell 0) <| wP 1 [(47, ii x8)] ?_
     obtain ⟨x11, hx7, hm⟩ := bindE hm
     refine sI 48 A0_0 l0_0.length cap0_0 .i64 x8 sl56 (F8.is hx7) <| sL 49 (elA A0_0 1 (x8) 0) (ii x11) vt3 (Sl.cell F8 hx7 0 (by rfl)) <| wP 4 [(53, .bool ((andI x11 x6) != 0)), (52, .bool ((andI x11 x6) != 0)), (51, ii (andI x11 x6)), (50, ii x6)] <| wN <| cP [(2, pt b1), (5, ii x2), (7, .slice A2 x4.length cap2), (8, ii x6), (10, ii x8), (13, .slice A1 l1.length cap1), (14, ii (l1.length : Int)), (15, ii x3), (19, .slice A2 x4.length cap2), (20, ii (x4.length : Int)), (21, ii x7), (53, .bool ((andI x11 x6) != 0))] (fun a5 => ?_)
     refine cC ((andI x11 x6) != 0) (fun hb8 => ?_) (fun hb8 => ?_)
     ·have hm := condT hb8 hm
      refine sR <| wP 1 [(4, .bool (false))] <| wN <| cW_ret <| eX_then_ret <| eX_block_ret <| eX_then_ret ?_
      obtain rfl := someE (x := Ctl.out (Sum.inr false)) hm
      refine eX_outR hx3 (fun hr => ?_)
      subst hr
      refine eX_block_ret <| eX_then_ret <| eX_then_ret <| eX_block_ret <| eX_then_ret ?_
      obtain rfl := someE (x := Ctl.out (Sum.inr false)) hm2
      refine eX_outR hx1 (fun hr => ?_)
      subst hr
      refine eX_block_ret <| eX_then_ret <| eX_then_ret ?_
      obtain rfl := someE (x := false) hm1
      refine rA (.bool (false)) 4 ?_
      exact ⟨rfl, hB⟩
     have hm := condF hb8 hm
     refine cW_skip <| eX_then <| cW_region <| wP 2 [(55, ii x8), (54, ii x6)] ?_
     obtain ⟨u4, hu4, hm⟩ := bindE hm
     refine wS_shl (d := 56) (x := 1) (y := x8) (yk := .i64) (by kernel_rfl) (p0E hu4) <| wP 2 [(8, ii (orI x6 (shlI 1 x8))), (57, ii (orI x6 (shlI 1 x8)))] <| wE <| eX_block <| eX_then <| cW_region <| wP 2 [(21, ii (wr (x7 + 1))), (58, ii (wr (x7 + 1)))] <| wE ?_
     obtain rfl := someE (x := (Ctl.next ((orI x6 (shlI 1 x8), wr (x7 + 1))))) hm
     exact eX_next hx3 (fun hst => ⟨orI x6 (shlI 1 x8), wr (x7 + 1), rfl, fO hst, F8, F9, F10, F11, F12, hB⟩)
    have hm := condF hb2 hm
    refine cW_exit <| eX_then_exit ?_
    obtain rfl := someE (x := Ctl.out (Sum.inl x6)) hm
    refine eX_outX hx3 (fun hr3 => ?_)
    replace hr3 := hr3.symm
    subst hr3
    refine eX_block_hit ?_
    exact eX_J (fun hst => ⟨x6, rfl, fO hst, F8, F9, F10, F11, F12, hB⟩)
   rintro a' w4 ⟨x5, hJ, hF3, F13, F14, F15, F16, F17, hB⟩
   subst hJ
   refine gX hF3 <| eX_then <| cW_seq <| sR <| wP 2 [(60, .bool (x5 == 0)), (59, ii x5)] <| wN <| cC (x5 == 0) (fun hb9 => ?_) (fun hb9 => ?_)
   ·have hm := condT hb9 hm
    refine sR <| wP 1 [(4, .bool (false))] <| wN <| cW_ret <| eX_then_ret <| eX_block_ret <| eX_then_ret ?_
    obtain rfl := someE (x := Ctl.out (Sum.inr false)) hm
    refine eX_outR hx1 (fun hr => ?_)
    subst hr
    refine eX_block_ret <| eX_then_ret <| eX_then_ret ?_
    obtain rfl := someE (x := false) hm1
    refine rA (.bool (false)) 4 ?_
    exact ⟨rfl, hB⟩
   have hm := condF hb9 hm
   refine cW_skip <| eX_then <| cW_seq <| sR <| wP 3 [(63, ii 0), (62, ii (x4.length : Int)), (61, .slice A2 x4.length cap2)] <| wN ?_
   obtain ⟨r3, hr4, hm⟩ := bindE hm
   have hm3 := hm
   refine cW_cut (fun a' w' => Sum.inl (()) = r3 ∧ Fr 87 [(2, pt b1), (5, ii x2), (8, ii x5), (13, .slice A1 l1.length cap1), (14, ii (l1.length : Int)), (15, ii x3)] a' ∧ S1 w' fp0_0 A0_0 l0_0 ∧ S1 w' fp0_1 A0_1 l0_1 ∧ SlR 1 encI w' fp1 A1 l1 ∧ Cl w' b1 58 [.slice A0_0 l0_0.length cap0_0, .slice A0_1 l0_1.length cap0_1] ∧ Chg [] w0 w') ?_ ?_
   ·refine cW_block ?_
    refine cW_loop _ (fun (s3 : Int) a' w' => ∃ x12 : Int, x12 = s3 ∧ Fr 87 [(2, pt b1), (5, ii x2), (8, ii x5), (13, .slice A1 l1.length cap1), (14, ii (l1.length : Int)), (15, ii x3), (61, .slice A2 x4.length cap2), (62, ii (x4.length : Int)), (63, ii x12)] a' ∧ S1 w' fp0_0 A0_0 l0_0 ∧ S1 w' fp0_1 A0_1 l0_1 ∧ SlR 1 encI w' fp1 A1 l1 ∧ Cl w' b1 58 [.slice A0_0 l0_0.length cap0_0, .slice A0_1 l0_1.length cap0_1] ∧ S1 w' fp1 A2 x4 ∧ Chg [] w0 w') hr4 (fun hst => ⟨0, rfl, fO hst, F13, F14, F15, F16, F17, hB⟩) ?_
    rintro _ c3 a' w5 ⟨x12, rfl, hF4, F18, F19, F20, F21, F22, hB⟩ hx8
    refine gO hF4 ?_
    have hm := hx8
    unfold m_iOrderSetsO_s7 at hm
    refine sR <| wP 1 [(64, .bool (decide (x12 < ((x4.length : Int)))))] <| wN <| cW_seq <| cC (decide (x12 < ((x4.length : Int)))) (fun hb10 => ?_) (fun hb10 => ?_)
    ·have hm := condT hb10 hm
     refine cW_skip <| eX_then <| cW_seq <| cW_block <| sR ?_
     obtain ⟨x13, hx9, hm⟩ := bindE hm
     refine sI 65 A2 x4.length cap2 .i64 x12 sl56 (F22.is hx9) <| sL 66 (elA A2 1 (x12) 0) (ii x13) vt3 (Sl.cell F22 hx9 0 (by rfl)) <| wP 1 [(12, ii x13)] <| wN <| sR <| wP 1 [(67, .pointer (some ⟨b1, 1, none⟩))] <| sL 68 ⟨b1, 1, none⟩ (.slice A0_1 l0_1.length cap0_1) vt56 ((F21).cell 1) <| wP 1 [(69, ii x13)] ?_
     obtain ⟨x14, hx10, hm⟩ := bindE hm
     refine sI 70 A0_1 l0_1.length cap0_1 .i64 x13 sl56 (F19.is hx10) <| sL 71 (elA A0_1 1 (x13) 0) (ii x14) vt3 (Sl.cell F19 hx10 0 (by rfl)) <| wP 3 [(74, .bool ((andNI x14 x2) != 0)), (73, ii (andNI x14 x2)), (72, ii x2)] <| wN <| cC ((andNI x14 x2) != 0) (fun hb11 => ?_) (fun hb11 => ?_)
     ·have hm := condT hb11 hm
      refine sR <| wP 1 [(4, .bool (false))] <| wN <| cW_ret <| eX_block_ret <| eX_then_ret ?_
      obtain rfl := someE (x := Ctl.out (Sum.inr false)) hm
      refine eX_outR hx8 (fun hr => ?_)
      subst hr
      refine eX_block_ret <| eX_then_ret <| eX_then_ret <| eX_block_ret <| eX_then_ret ?_
      obtain rfl := someE (x := Ctl.out (Sum.inr false)) hm3
      refine eX_outR hx1 (fun hr => ?_)
      subst hr
      refine eX_block_ret <| eX_then_ret <| eX_then_ret ?_
      obtain rfl := someE (x := false) hm1
      refine rA (.bool (false)) 4 ?_
      exact ⟨rfl, hB⟩
     have hm := condF hb11 hm
     refine cW_skip <| eX_block <| eX_then <| cW_region <| wP 2 [(63, ii (wr (x12 + 1))), (75, ii (wr (x12 + 1)))] <| wE ?_
     obtain rfl := someE (x := Ctl.next (wr (x12 + 1))) hm
     exact eX_next hx8 (fun hst => ⟨wr (x12 + 1), rfl, fO hst, F18, F19, F20, F21, F22, hB⟩)
    have hm := condF hb10 hm
    refine cW_exit <| eX_then_exit ?_
    obtain rfl := someE (x := Ctl.out (Sum.inl (()))) hm
    refine eX_outX hx8 (fun hr5 => ?_)
    replace hr5 := hr5.symm
    subst hr5
    refine eX_block_hit ?_
    exact eX_J (fun hst => ⟨rfl, fO hst, F18, F19, F20, F21, hB⟩)
   rintro a' w6 ⟨hJ, hF5, F23, F24, F25, F26, hB⟩
   subst hJ
   refine gX hF5 <| eX_then <| cW_region <| wP 4 [(5, ii (orI x2 x5)), (78, ii (orI x2 x5)), (77, ii x5), (76, ii x2)] <| wE <| eX_block <| eX_then <| cW_region <| wP 2 [(15, ii (wr (x3 + 1))), (79, ii (wr (x3 + 1)))] <| wE ?_
   obtain rfl := someE (x := (Ctl.next ((orI x2 x5, wr (x3 + 1))))) hm
   exact eX_next hx1 (fun hst => ⟨orI x2 x5, wr (x3 + 1), rfl, fO hst, F23, F24, F25, F26, hB⟩)
  have hm := condF hb1 hm
  refine cW_exit <| eX_then_exit ?_
  obtain rfl := someE (x := Ctl.out (Sum.inl x2)) hm
  refine eX_outX hx1 (fun hr6 => ?_)
  replace hr6 := hr6.symm
  subst hr6
  refine eX_block_hit ?_
  exact eX_J (fun hst => ⟨x2, rfl, fO hst, F3, F4, F6, hB⟩)
 rintro a' w7 ⟨x1, hJ, hF6, F27, F28, F29, hB⟩
 subst hJ
 refine gX hF6 <| eX_then <| sR <| wP 2 [(81, pt b1), (80, ii x1)] <| sL 82 ⟨b1, 0, none⟩ (.slice A0_0 l0_0.length cap0_0) vt56 ((F29).cell 0) <| wP 1 [(83, ii (l0_0.length : Int))] ?_
 obtain ⟨u5, hu5, hm⟩ := bindE hm
 refine wS_shl (d := 84) (x := 1) (y := (l0_0.length : Int)) (yk := .i64) (by kernel_rfl) (p0E hu5) <| wP 3 [(4, .bool (x1 == (wr ((shlI 1 ((l0_0.length : Int))) - 1)))), (86, .bool (x1 == (wr ((shlI 1 ((l0_0.length : Int))) - 1)))), (85, ii (wr ((shlI 1 ((l0_0.length : Int))) - 1)))] <| wN <| cW_ret ?_
 obtain rfl := someE (x := (x1 == (wr ((shlI 1 ((l0_0.length : Int))) - 1)))) hm
 refine rA (.bool (x1 == (wr ((shlI 1 ((l0_0.length : Int))) - 1)))) 4 ?_
 exact ⟨rfl, hB⟩

set_option maxRecDepth 100000 in
theorem c_iIsRou {w0 l0_0 A0_0 cap0_0 fp0_0 l0_1 A0_1 cap0_1 fp0_1} {l1 : List (List Int)} {A1 : Option Addr} {cap1 : Nat} {fp1 : List Nat} {r : Bool} (hm : m_iIsRou l0_0 l0_1 l1 = some r) (F0_0 : S1 w0 fp0_0 A0_0 l0_0) (K0_0 : l0_0.length ≤ cap0_0) (F0_1 : S1 w0 fp0_1 A0_1 l0_1) (K0_1 : l0_1.length ≤ cap0_1) (F1 : SlR 1 encI w0 fp1 A1 l1) :
  Calls Tryd.prog 18 #[.agg #[.slice A0_0 l0_0.length cap0_0, .slice A0_1 l0_1.length cap0_1], .slice A1 l1.length cap1] w0 fun e w' => e = .returned (.bool (r)) ∧ Chg [] w0 w' := by
 have L0_0 := F0_0.low
 have L0_1 := F0_1.low
 have L1 := F1.low
 have hB : Chg [] w0 w0 := Chg.refl _ _
 unfold m_iIsRou at hm
 refine enterE (N := 22) Tryd.func18 (by rfl) Tryd.ntmps18 (by simp) [(0, .agg #[.slice A0_0 l0_0.length cap0_0, .slice A0_1 l0_1.length cap0_1]), (1, .slice A1 l1.length cap1)] (by rfl) (by kernel_rfl) (fun a => ?_)
 refine sR <| wS_box (d := 2) (T := 26) (x := .agg #[.slice A0_0 l0_0.length cap0_0, .slice A0_1 l0_1.length cap0_1]) (by kernel_rfl) ?_
 intro b1 w1 G1 F2 hc1
 replace F2 : Cl w1 b1 26 [.slice A0_0 l0_0.length cap0_0, .slice A0_1 l0_1.length cap0_1] := F2
 replace F0_0 := F0_0.c hc1
 replace F0_1 := F0_1.c hc1
 replace F1 := F1.c hc1
 replace G1 := Nat.le_trans hB.size G1
 replace hB := hB.q hc1
 refine wP 1 [(4, .bool (false))] <| wN <| cW_seq <| sR <| wS_loadA (d := 7) (T := 26) (ad := ⟨b1, 0, none⟩) (vs := [.slice A0_0 l0_0.length cap0_0, .slice A0_1 l0_1.length cap0_1]) (by kernel_rfl) vt26 (fun i u hu => box_cells F2 0 hu (by rfl)) ?_
 obtain ⟨y1, hy1, hm⟩ := bindE hm
 refine sC 8 [.agg #[.slice A0_0 l0_0.length cap0_0, .slice A0_1 l0_1.length cap0_1]] ent36 (c_iValid hy1 F0_0 K0_0 F0_1 K0_1) ?_
 rintro _ w2 ⟨rfl, hc2⟩
 replace F0_0 := F0_0.c hc2
 replace F0_1 := F0_1.c hc2
 replace F1 := F1.c hc2
 replace F2 := F2.c hc2
 replace hB := hB.q hc2
 refine ⟨.bool (y1), rfl, ?_⟩
 refine wP 1 [(9, .bool (!y1))] <| wN <| cC (!y1) (fun hb1 => ?_) (fun hb1 => ?_)
 ·have hm := condT hb1 hm
  refine sR <| wP 1 [(4, .bool (false))] <| wN <| cW_ret <| eX_then_ret ?_
  obtain rfl := someE (x := false) hm
  refine rA (.bool (false)) 4 ?_
  exact ⟨rfl, hB⟩
 have hm := condF hb1 hm
 refine cW_skip <| eX_then <| sR <| wP 1 [(11, .slice A1 l1.length cap1)] ?_
 obtain ⟨y2, hy2, hm⟩ := bindE hm
 refine sC 12 [pt b1] ent39 (c_iChannNets hy2 F0_0 F0_1 F2) ?_
 rintro _ w3 ⟨A2, cap2, fp2, rfl, F3, G2, hc3⟩
 have D1 := Dj.of (lt1 F2.lt) G2
 replace F0_0 := F0_0.c hc3
 replace F0_1 := F0_1.c hc3
 replace F1 := F1.c hc3
 replace F2 := F2.c hc3
 replace G2 := low_le hB.size G2
 replace hB := hB.q hc3
 refine ⟨.slice A2 y2.length cap2, rfl, ?_⟩
 obtain ⟨y3, hy3, hm⟩ := bindE hm
 refine sC 13 [.slice A1 l1.length cap1, .slice A2 y2.length cap2] ent58 (c_impl_places hy3 F1 (F3.sl encI_ok)) ?_
 rintro _ w4 ⟨A3, cap3, fp3, fr1, rfl, F4, G3, hc4⟩
 have D2 := Dj.of (lt1 F2.lt) G3
 have D3 := Dj.of F3.low G3
 replace F0_0 := F0_0.c hc4
 replace F0_1 := F0_1.c hc4
 replace F1 := F1.c hc4
 replace F2 := F2.c hc4
 replace F3 := F3.c hc4
 replace G3 := low_le hB.size G3
 replace hB := hB.q hc4
 refine ⟨.tuple #[.slice A3 y3.1.length cap3, .bool (y3.2)], rfl, ?_⟩
 refine wP 5 [(6, .bool (y3.2)), (5, .slice A3 y3.1.length cap3), (15, .bool (y3.2)), (14, .slice A3 y3.1.length cap3), (10, .tuple #[.slice A3 y3.1.length cap3, .bool (y3.2)])] <| wN <| sR <| wP 2 [(17, .bool (y3.2)), (16, .bool (y3.2))] <| wS_bool y3.2 (fun hb2 => ?_) (fun hb2 => ?_)
 ·have hm := condT hb2 hm
  rewrite [hb2]
  obtain ⟨y4, hy4, hm⟩ := bindE hm
  refine sC 18 [pt b1] ent37 (c_iChannNetOr hy4 F0_0 F0_1 F2) ?_
  rintro _ w5 ⟨A4, cap4, fp4, A5, cap5, fp5, rfl, F5, G4, F6, G5, D4, hc5⟩
  have D5 := Dj.of (lt1 F2.lt) G4
  have D6 := Dj.of F3.low G4
  have D7 := Dj.of F4.low G4
  have D8 := Dj.of (lt1 F2.lt) G5
  have D9 := Dj.of F3.low G5
  have D10 := Dj.of F4.low G5
  replace F0_0 := F0_0.c hc5
  replace F0_1 := F0_1.c hc5
  replace F1 := F1.c hc5
  replace F2 := F2.c hc5
  replace F3 := F3.c hc5
  replace F4 := F4.c hc5
  replace G4 := low_le hB.size G4
  replace G5 := low_le hB.size G5
  replace hB := hB.q hc5
  refine ⟨.agg #[.slice A4 y4.1.length cap4, .slice A5 y4.2.length cap5], rfl, ?_⟩
  refine wP 1 [(19, .slice A3 y3.1.length cap3)] ?_
  obtain ⟨y5, hy5, hm⟩ := bindE hm
  refine sC 20 [.agg #[.slice A4 y4.1.length cap4, .slice A5 y4.2.length cap5], .slice A3 y3.1.length cap3] ent59 (c_iOrderSetsO hy5 (F5.sl encI_ok) (F6.sl encI_ok) (F4.slr encI_ok)) ?_
  rintro _ w6 ⟨rfl, hc6⟩
  replace F0_0 := F0_0.c hc6
  replace F0_1 := F0_1.c hc6
  replace F1 := F1.c hc6
  replace F2 := F2.c hc6
  replace F3 := F3.c hc6
  replace F4 := F4.c hc6
  replace F5 := F5.c hc6
  replace F6 := F6.c hc6
  replace hB := hB.q hc6
  refine ⟨.bool (y5), rfl, ?_⟩
  refine wP 2 [(4, .bool (y5)), (21, .bool (y5))] <| wN <| cW_ret ?_
  obtain rfl := someE (x := y5) hm
  refine rA (.bool (y5)) 4 ?_
  exact ⟨rfl, hB⟩
 have hm := condF hb2 hm
 rewrite [hb2]
 refine wP 5 [(4, .bool (false)), (21, .bool (false)), (20, undef), (19, undef), (18, undef)] <| wN <| cW_ret ?_
 obtain rfl := someE (x := false) hm
 refine rA (.bool (false)) 4 ?_
 exact ⟨rfl, hB⟩

set_option maxRecDepth 100000 in
theorem c_spec_l00In {w0 p0 p1 p2} {r : Bool} (hm : m_spec_l00In p0 p1 p2 = some r)  :
  Calls Tryd.prog 94 #[ii p0, ii p1, ii p2] w0 fun e w' => e = .returned (.bool (r)) ∧ Chg [] w0 w' := by
 have hB : Chg [] w0 w0 := Chg.refl _ _
 unfold m_spec_l00In at hm
 refine enterE (N := 15) Tryd.func94 (by rfl) Tryd.ntmps94 (by simp) [(0, ii p0), (1, ii p1), (2, ii p2)] (by rfl) (by kernel_rfl) (fun a => ?_)
 refine sR <| wP 1 [(6, .bool (false))] <| wN <| sR <| wP 4 [(10, .bool (decide (p0 ≥ p1))), (9, .bool (decide (p0 ≥ p1))), (8, ii p1), (7, ii p0)] <| wS_bool (decide (p0 ≥ p1)) (fun hb1 => ?_) (fun hb1 => ?_)
 ·have hm := condT hb1 hm
  rewrite [hb1]
  refine wP 5 [(6, .bool (decide (p0 ≤ p2))), (14, .bool (decide (p0 ≤ p2))), (13, .bool (decide (p0 ≤ p2))), (12, ii p2), (11, ii p0)] <| wN <| cW_ret ?_
  obtain rfl := someE (x := decide (p0 ≤ p2)) hm
  refine rA (.bool (decide (p0 ≤ p2))) 6 ?_
  exact ⟨rfl, hB⟩
 have hm := condF hb1 hm
 rewrite [hb1]
 refine wP 5 [(6, .bool (false)), (14, .bool (false)), (13, undef), (12, undef), (11, undef)] <| wN <| cW_ret ?_
 obtain rfl := someE (x := false) hm
 refine rA (.bool (false)) 6 ?_
 exact ⟨rfl, hB⟩

set_option maxRecDepth 100000 in
theorem c_spec_l00Has {w0 l0 A0 cap0 fp0 p1} {r : Bool} (hm : m_spec_l00Has l0 p1 = some r) (F0 : S1 w0 fp0 A0 l0) :
  Calls Tryd.prog 121 #[.slice A0 l0.length cap0, ii p1] w0 fun e w' => e = .returned (.bool (r)) ∧ Chg [] w0 w' := by
 have L0 := F0.low
 have hB : Chg [] w0 w0 := Chg.refl _ _
 unfold m_spec_l00Has at hm
 refine enterE (N := 18) Tryd.func121 (by rfl) Tryd.ntmps121 (by simp) [(0, .slice A0 l0.length cap0), (1, ii p1)] (by rfl) (by kernel_rfl) (fun a => ?_)
 refine sR <| wP 1 [(4, .bool (false))] <| wN <| cW_seq <| sR <| wP 1 [(5, ii 0)] <| wN ?_
 obtain ⟨r1, hr1, hm⟩ := bindE hm
 have hm1 := hm
 refine cW_cut (fun a' w' => Sum.inl (()) = r1 ∧ Fr 18 [] a' ∧ Chg [] w0 w') ?_ ?_
 ·refine cW_block ?_
  refine cW_loop _ (fun (s1 : Int) a' w' => ∃ x1 : Int, x1 = s1 ∧ Fr 18 [(0, .slice A0 l0.length cap0), (1, ii p1), (5, ii x1)] a' ∧ S1 w' fp0 A0 l0 ∧ Chg [] w0 w') hr1 (fun hst => ⟨0, rfl, fO hst, F0, hB⟩) ?_
  rintro _ c1 a' w1 ⟨x1, rfl, hF1, F1, hB⟩ hx1
  refine gO hF1 ?_
  have hm := hx1
  unfold m_spec_l00Has_s1 at hm
  refine cW_seq <| sR <| wP 4 [(9, .bool (decide (x1 < ((l0.length : Int))))), (8, ii (l0.length : Int)), (7, .slice A0 l0.length cap0), (6, ii x1)] <| wN <| cC (decide (x1 < ((l0.length : Int)))) (fun hb1 => ?_) (fun hb1 => ?_)
  ·have hm := condT hb1 hm
   refine cW_skip <| eX_then <| cW_seq <| cW_block <| sR <| wP 2 [(13, ii x1), (12, .slice A0 l0.length cap0)] ?_
   obtain ⟨x2, hx2, hm⟩ := bindE hm
   refine sI 14 A0 l0.length cap0 .i64 x1 sl24 (F1.is hx2) <| sL 15 (elA A0 1 (x1) 0) (ii x2) vt2 (Sl.cell F1 hx2 0 (by rfl)) <| wP 2 [(17, .bool (x2 == p1)), (16, ii p1)] <| wN <| cC (x2 == p1) (fun hb2 => ?_) (fun hb2 => ?_)
   ·have hm := condT hb2 hm
    refine sR <| wP 1 [(4, .bool (true))] <| wN <| cW_ret <| eX_block_ret <| eX_then_ret ?_
    obtain rfl := someE (x := Ctl.out (Sum.inr true)) hm
    refine eX_outR hx1 (fun hr => ?_)
    subst hr
    refine eX_block_ret <| eX_then_ret <| eX_then_ret ?_
    obtain rfl := someE (x := true) hm1
    refine rA (.bool (true)) 4 ?_
    exact ⟨rfl, hB⟩
   have hm := condF hb2 hm
   refine cW_skip <| eX_block <| eX_then <| cW_region <| wP 3 [(5, ii (wr (x1 + 1))), (11, ii (wr (x1 + 1))), (10, ii x1)] <| wE ?_
   obtain rfl := someE (x := Ctl.next (wr (x1 + 1))) hm
   exact eX_next hx1 (fun hst => ⟨wr (x1 + 1), rfl, fO hst, F1, hB⟩)
  have hm := condF hb1 hm
  refine cW_exit <| eX_then_exit ?_
  obtain rfl := someE (x := Ctl.out (Sum.inl (()))) hm
  refine eX_outX hx1 (fun hr2 => ?_)
  replace hr2 := hr2.symm
  subst hr2
  refine eX_block_hit ?_
  exact eX_J (fun hst => ⟨rfl, fO hst, hB⟩)
 rintro a' w2 ⟨hJ, hF2, hB⟩
 subst hJ
 refine gX hF2 <| eX_then <| sR <| wP 1 [(4, .bool (false))] <| wN <| cW_ret ?_
 obtain rfl := someE (x := false) hm
 refine rA (.bool (false)) 4 ?_
 exact ⟨rfl, hB⟩

set_option maxRecDepth 100000 in
theorem c_sL03Is {w0 l0_0 A0_0 cap0_0 fp0_0 l0_1 A0_1 cap0_1 fp0_1 b0} {r : Bool} (hm : m_sL03Is l0_0 l0_1 = some r) (F0_0 : S1 w0 fp0_0 A0_0 l0_0) (F0_1 : S1 w0 fp0_1 A0_1 l0_1) (F0 : Cl w0 b0 26 [.slice A0_0 l0_0.length cap0_0, .slice A0_1 l0_1.length cap0_1]) :
  Calls Tryd.prog 60 #[pt b0] w0 fun e w' => e = .returned (.bool (r)) ∧ Chg [] w0 w' := by
 have L0_0 := F0_0.low
 have L0_1 := F0_1.low
 have L0 := lt1 F0.lt
 have hB : Chg [] w0 w0 := Chg.refl _ _
 unfold m_sL03Is at hm
 refine enterE (N := 88) Tryd.func60 (by rfl) Tryd.ntmps60 (by simp) [(0, pt b0)] (by rfl) (by kernel_rfl) (fun a => ?_)
 refine sR <| wP 1 [(2, .bool (false))] <| wN <| sR <| wP 3 [(9, pt b0), (8, pt b0), (7, pt b0)] <| sL 10 ⟨b0, 0, none⟩ (.slice A0_0 l0_0.length cap0_0) vt24 ((F0).cell 0) <| wP 2 [(3, ii (l0_0.length : Int)), (11, ii (l0_0.length : Int))] <| wN <| cW_seq <| sR <| wP 3 [(14, .bool (decide (((l0_0.length : Int)) < 1))), (13, .bool (decide (((l0_0.length : Int)) < 1))), (12, ii (l0_0.length : Int))] <| wS_bool (decide (((l0_0.length : Int)) < 1)) (fun hb1 => ?_) (fun hb1 => ?_)
 ·have hm := condT hb1 hm
  rewrite [hb1]
  refine wP 12 [(26, .bool (true)), (25, undef), (24, undef), (23, undef), (22, undef), (21, undef), (20, undef), (19, undef), (18, .bool (true)), (17, .bool (true)), (16, undef), (15, undef)] <| wN <| cCt <| sR <| wP 1 [(2, .bool (false))] <| wN <| cW_ret <| eX_then_ret ?_
  obtain rfl := someE (x := false) hm
  refine rA (.bool (false)) 2 ?_
  exact ⟨rfl, hB⟩
 have hm := condF hb1 hm
 rewrite [hb1]
 refine wP 4 [(18, .bool (decide (((l0_0.length : Int)) > 24))), (17, .bool (decide (((l0_0.length : Int)) > 24))), (16, .bool (decide (((l0_0.length : Int)) > 24))), (15, ii (l0_0.length : Int))] <| wS_bool (decide (((l0_0.length : Int)) > 24)) (fun hb2 => ?_) (fun hb2 => ?_)
 ·have hm := condT hb2 hm
  rewrite [hb2]
  refine wP 8 [(26, .bool (true)), (25, undef), (24, undef), (23, undef), (22, undef), (21, undef), (20, undef), (19, undef)] <| wN <| cCt <| sR <| wP 1 [(2, .bool (false))] <| wN <| cW_ret <| eX_then_ret ?_
  obtain rfl := someE (x := false) hm
  refine rA (.bool (false)) 2 ?_
  exact ⟨rfl, hB⟩
 have hm := condF hb2 hm
 rewrite [hb2]
 refine wP 3 [(21, .pointer (some ⟨b0, 1, none⟩)), (20, pt b0), (19, pt b0)] <| sL 22 ⟨b0, 1, none⟩ (.slice A0_1 l0_1.length cap0_1) vt24 ((F0).cell 1) <| wP 4 [(26, .bool (((l0_1.length : Int)) != ((l0_0.length : Int)))), (25, .bool (((l0_1.length : Int)) != ((l0_0.length : Int)))), (24, ii (l0_0.length : Int)), (23, ii (l0_1.length : Int))] <| wN <| cC (((l0_1.length : Int)) != ((l0_0.length : Int))) (fun hb3 => ?_) (fun hb3 => ?_)
 ·have hm := condT hb3 hm
  refine sR <| wP 1 [(2, .bool (false))] <| wN <| cW_ret <| eX_then_ret ?_
  obtain rfl := someE (x := false) hm
  refine rA (.bool (false)) 2 ?_
  exact ⟨rfl, hB⟩
 have hm := condF hb3 hm
 refine cW_skip <| eX_then <| sR ?_
 obtain ⟨_, hk1, hm⟩ := bindE hm
 replace hk1 := mkE hk1
 refine wS_make (enc := encI) (x0 := (0 : Int)) (d := 27) (t := 24) (T := 2) (k1 := .i64) (k2 := .i64) (m := 13) (by kernel_rfl) el24 encI_ok (by rfl) hk1.1 hk1.2 ?_
 intro b1 w1 G1 F1 hc1
 replace F0_0 := F0_0.c hc1
 replace F0_1 := F0_1.c hc1
 replace F0 := F0.c hc1
 replace G1 := Nat.le_trans hB.size G1
 replace G1 := low1 G1
 replace hB := hB.q hc1
 refine wP 1 [(4, .slice (ad b1) (List.replicate (Int.toNat 13) ((0 : Int))).length (Int.toNat 13))] <| wN <| cP [(0, pt b0), (3, ii (l0_0.length : Int)), (4, .slice (ad b1) (List.replicate (Int.toNat 13) ((0 : Int))).length (Int.toNat 13))] (fun a1 => ?_)
 refine cW_seq <| sR <| wP 1 [(5, ii 0)] <| wN ?_
 obtain ⟨r1, hr1, hm⟩ := bindE hm
 have hm1 := hm
 refine cW_cut (fun a' w' => ∃ l1 : List Int, Sum.inl l1 = r1 ∧ Fr 88 [(4, .slice (ad b1) l1.length (Int.toNat 13))] a' ∧ O1 2 w' [b1] (ad b1) (Int.toNat 13) l1 ∧ Chg [] w0 w') ?_ ?_
 ·refine cW_block ?_
  refine cW_loop _ (fun (s1 : Int × (List Int)) a' w' => ∃ x1 : Int, ∃ l2 : List Int, (x1, l2) = s1 ∧ Fr 88 [(0, pt b0), (3, ii (l0_0.length : Int)), (4, .slice (ad b1) l2.length (Int.toNat 13)), (5, ii x1)] a' ∧ S1 w' fp0_0 A0_0 l0_0 ∧ S1 w' fp0_1 A0_1 l0_1 ∧ Cl w' b0 26 [.slice A0_0 l0_0.length cap0_0, .slice A0_1 l0_1.length cap0_1] ∧ O1 2 w' [b1] (ad b1) (Int.toNat 13) l2 ∧ Chg [] w0 w') hr1 (fun hst => ⟨0, List.replicate (Int.toNat 13) ((0 : Int)), rfl, fO hst, F0_0, F0_1, F0, F1, hB⟩) ?_
  rintro _ c1 a' w2 ⟨x1, l2, rfl, hF1, F2, F3, F4, F5, hB⟩ hx1
  refine gO hF1 ?_
  have hm := hx1
  unfold m_sL03Is_s1 at hm
  refine cW_seq <| sR <| wP 3 [(30, .bool (decide (x1 < ((l0_0.length : Int))))), (29, ii (l0_0.length : Int)), (28, ii x1)] <| wN <| cC (decide (x1 < ((l0_0.length : Int)))) (fun hb4 => ?_) (fun hb4 => ?_)
  ·have hm := condT hb4 hm
   refine cW_skip <| eX_then <| cW_seq <| cW_block <| cW_seq <| sR <| wP 3 [(35, pt b0), (34, pt b0), (33, pt b0)] <| sL 36 ⟨b0, 0, none⟩ (.slice A0_0 l0_0.length cap0_0) vt24 ((F4).cell 0) <| wP 1 [(37, ii x1)] ?_
   obtain ⟨x2, hx2, hm⟩ := bindE hm
   refine sI 38 A0_0 l0_0.length cap0_0 .i64 x1 sl24 (F2.is hx2) <| sL 39 (elA A0_0 1 (x1) 0) (ii x2) vt2 (Sl.cell F2 hx2 0 (by rfl)) ?_
   obtain ⟨y1, hy1, hm⟩ := bindE hm
   refine sC 40 [ii x2, ii 0, ii 12] ent94 (c_spec_l00In hy1) ?_
   rintro _ w3 ⟨rfl, hc2⟩
   replace F2 := F2.c hc2
   replace F3 := F3.c hc2
   replace F4 := F4.c hc2
   replace F5 := F5.c hc2
   replace hB := hB.q hc2
   refine ⟨.bool (y1), rfl, ?_⟩
   refine wP 2 [(42, .bool (!y1)), (41, .bool (!y1))] <| wS_bool (!y1) (fun hb5 => ?_) (fun hb5 => ?_)
   ·have hm := condT hb5 hm
    rewrite [hb5]
    refine wP 10 [(52, .bool (true)), (51, undef), (50, undef), (49, undef), (48, undef), (47, undef), (46, undef), (45, undef), (44, undef), (43, undef)] <| wN <| cP [(0, pt b0), (3, ii (l0_0.length : Int)), (4, .slice (ad b1) l2.length (Int.toNat 13)), (5, ii x1), (52, .bool (true))] (fun a2 => ?_)
    refine cCt <| sR <| wP 1 [(2, .bool (false))] <| wN <| cW_ret <| eX_then_ret <| eX_block_ret <| eX_then_ret ?_
    obtain rfl := someE (x := Ctl.out (Sum.inr false)) hm
    refine eX_outR hx1 (fun hr => ?_)
    subst hr
    refine eX_block_ret <| eX_then_ret <| eX_then_ret ?_
    obtain rfl := someE (x := false) hm1
    refine rA (.bool (false)) 2 ?_
    exact ⟨rfl, hB⟩
   have hm := condF hb5 hm
   rewrite [hb5]
   refine wP 3 [(45, .pointer (some ⟨b0, 1, none⟩)), (44, pt b0), (43, pt b0)] <| sL 46 ⟨b0, 1, none⟩ (.slice A0_1 l0_1.length cap0_1) vt24 ((F4).cell 1) <| wP 1 [(47, ii x1)] ?_
   obtain ⟨x3, hx3, hm⟩ := bindE hm
   refine sI 48 A0_1 l0_1.length cap0_1 .i64 x1 sl24 (F3.is hx3) <| sL 49 (elA A0_1 1 (x1) 0) (ii x3) vt2 (Sl.cell F3 hx3 0 (by rfl)) ?_
   obtain ⟨y2, hy2, hm⟩ := bindE hm
   refine sC 50 [ii x3, ii 0, ii 12] ent94 (c_spec_l00In hy2) ?_
   rintro _ w4 ⟨rfl, hc3⟩
   replace F2 := F2.c hc3
   replace F3 := F3.c hc3
   replace F4 := F4.c hc3
   replace F5 := F5.c hc3
   replace hB := hB.q hc3
   refine ⟨.bool (y2), rfl, ?_⟩
   refine wP 2 [(52, .bool (!y2)), (51, .bool (!y2))] <| wN <| cP [(0, pt b0), (3, ii (l0_0.length : Int)), (4, .slice (ad b1) l2.length (Int.toNat 13)), (5, ii x1), (52, .bool (!y2))] (fun a3 => ?_)
   refine cC (!y2) (fun hb6 => ?_) (fun hb6 => ?_)
   ·have hm := condT hb6 hm
    refine sR <| wP 1 [(2, .bool (false))] <| wN <| cW_ret <| eX_then_ret <| eX_block_ret <| eX_then_ret ?_
    obtain rfl := someE (x := Ctl.out (Sum.inr false)) hm
    refine eX_outR hx1 (fun hr => ?_)
    subst hr
    refine eX_block_ret <| eX_then_ret <| eX_then_ret ?_
    obtain rfl := someE (x := false) hm1
    refine rA (.bool (false)) 2 ?_
    exact ⟨rfl, hB⟩
   have hm := condF hb6 hm
   refine cW_skip <| eX_then <| sR <| wP 4 [(56, pt b0), (55, pt b0), (54, pt b0), (53, .slice (ad b1) l2.length (Int.toNat 13))] <| sL 57 ⟨b0, 0, none⟩ (.slice A0_0 l0_0.length cap0_0) vt24 ((F4).cell 0) <| wP 1 [(58, ii x1)] ?_
   obtain ⟨x4, hx4, hm⟩ := bindE hm
   refine sI 59 A0_0 l0_0.length cap0_0 .i64 x1 sl24 (F2.is hx4) <| sL 60 (elA A0_0 1 (x1) 0) (ii x4) vt2 (Sl.cell F2 hx4 0 (by rfl)) ?_
   obtain ⟨x5, hx5, hm⟩ := bindE hm
   refine sI 61 (ad b1) l2.length (Int.toNat 13) .i64 x4 sl24 ((F5.sl encI_ok).is hx5) <| sL 62 (elA (ad b1) 1 (x4) 0) (ii x5) vt2 (Sl.cell (F5.sl encI_ok) hx5 0 (by rfl)) <| wP 1 [(63, ii (wr (x5 + 1)))] ?_
   obtain ⟨x6, hx6, hm⟩ := bindE hm
   refine sI 64 (ad b1) l2.length (Int.toNat 13) .i64 x4 sl24 ((F5.sl encI_ok).is hx6) <| wS_storeEl (x := x6) (wr (x5 + 1)) (T := 2) (U := 2) (cap := (Int.toNat 13)) (j := 0) (A := (ad b1)) (v := ii (wr (x5 + 1))) (vs := [ii (wr (x5 + 1))]) (m := x4) (by kernel_rfl) (by rfl) sz2 (by rfl) encI_ok F5 hx6 (bl rfl) (by rfl) ?_
   intro w5 F6 hc4
   replace F2 := F2.chg hc4 (Dj.of L0_0 G1)
   replace F3 := F3.chg hc4 (Dj.of L0_1 G1)
   replace F4 := F4.chg hc4 (dj1 (Dj.of L0 G1))
   replace hB := hB.inS hc4 (inLow G1)
   clear F5
   rewrite [show l2.length = (l2.set (Int.toNat x4) (wr (x5 + 1))).length from (List.length_set ..).symm]
   refine wN <| cW_region <| wP 4 [(68, .pointer (some ⟨b0, 1, none⟩)), (67, pt b0), (66, pt b0), (65, .slice (ad b1) (l2.set (Int.toNat x4) (wr (x5 + 1))).length (Int.toNat 13))] <| sL 69 ⟨b0, 1, none⟩ (.slice A0_1 l0_1.length cap0_1) vt24 ((F4).cell 1) <| wP 1 [(70, ii x1)] ?_
   obtain ⟨x7, hx7, hm⟩ := bindE hm
   refine sI 71 A0_1 l0_1.length cap0_1 .i64 x1 sl24 (F3.is hx7) <| sL 72 (elA A0_1 1 (x1) 0) (ii x7) vt2 (Sl.cell F3 hx7 0 (by rfl)) ?_
   obtain ⟨x8, hx8, hm⟩ := bindE hm
   refine sI 73 (ad b1) ((l2.set (Int.toNat x4) (wr (x5 + 1))).length) (Int.toNat 13) .i64 x7 sl24 ((F6.sl encI_ok).is hx8) <| sL 74 (elA (ad b1) 1 (x7) 0) (ii x8) vt2 (Sl.cell (F6.sl encI_ok) hx8 0 (by rfl)) <| wP 1 [(75, ii (wr (x8 + 1)))] ?_
   obtain ⟨x9, hx9, hm⟩ := bindE hm
   refine sI 76 (ad b1) ((l2.set (Int.toNat x4) (wr (x5 + 1))).length) (Int.toNat 13) .i64 x7 sl24 ((F6.sl encI_ok).is hx9) <| wS_storeEl (x := x9) (wr (x8 + 1)) (T := 2) (U := 2) (cap := (Int.toNat 13)) (j := 0) (A := (ad b1)) (v := ii (wr (x8 + 1))) (vs := [ii (wr (x8 + 1))]) (m := x7) (by kernel_rfl) (by rfl) sz2 (by rfl) encI_ok F6 hx9 (bl rfl) (by rfl) ?_
   intro w6 F7 hc5
   replace F2 := F2.chg hc5 (Dj.of L0_0 G1)
   replace F3 := F3.chg hc5 (Dj.of L0_1 G1)
   replace F4 := F4.chg hc5 (dj1 (Dj.of L0 G1))
   replace hB := hB.inS hc5 (inLow G1)
   clear F6
   rewrite [show (l2.set (Int.toNat x4) (wr (x5 + 1))).length = ((l2.set (Int.toNat x4) (wr (x5 + 1))).set (Int.toNat x7) (wr (x8 + 1))).length from (List.length_set ..).symm]
   refine wE <| eX_block <| eX_then <| cP [(0, pt b0), (3, ii (l0_0.length : Int)), (4, .slice (ad b1) ((l2.set (Int.toNat x4) (wr (x5 + 1))).set (Int.toNat x7) (wr (x8 + 1))).length (Int.toNat 13)), (5, ii x1)] (fun a4 => ?_)
   refine cW_region <| wP 3 [(5, ii (wr (x1 + 1))), (32, ii (wr (x1 + 1))), (31, ii x1)] <| wE ?_
   obtain rfl := someE (x := (Ctl.next ((wr (x1 + 1), (l2.set (Int.toNat x4) (wr (x5 + 1))).set (Int.toNat x7) (wr (x8 + 1)))))) hm
   exact eX_next hx1 (fun hst => ⟨wr (x1 + 1), (l2.set (Int.toNat x4) (wr (x5 + 1))).set (Int.toNat x7) (wr (x8 + 1)), rfl, fO hst, F2, F3, F4, F7, hB⟩)
  have hm := condF hb4 hm
  refine cW_exit <| eX_then_exit ?_
  obtain rfl := someE (x := Ctl.out (Sum.inl l2)) hm
  refine eX_outX hx1 (fun hr2 => ?_)
  replace hr2 := hr2.symm
  subst hr2
  refine eX_block_hit ?_
  exact eX_J (fun hst => ⟨l2, rfl, fO hst, F5, hB⟩)
 rintro a' w7 ⟨l1, hJ, hF2, F8, hB⟩
 subst hJ
 refine gX hF2 <| eX_then <| cW_seq <| sR <| wP 1 [(6, ii 1)] <| wN ?_
 obtain ⟨r2, hr3, hm⟩ := bindE hm
 have hm2 := hm
 refine cW_cut (fun a' w' => Sum.inl (()) = r2 ∧ Fr 88 [] a' ∧ Chg [] w0 w') ?_ ?_
 ·refine cW_block ?_
  refine cW_loop _ (fun (s2 : Int) a' w' => ∃ x10 : Int, x10 = s2 ∧ Fr 88 [(4, .slice (ad b1) l1.length (Int.toNat 13)), (6, ii x10)] a' ∧ O1 2 w' [b1] (ad b1) (Int.toNat 13) l1 ∧ Chg [] w0 w') hr3 (fun hst => ⟨1, rfl, fO hst, F8, hB⟩) ?_
  rintro _ c2 a' w8 ⟨x10, rfl, hF3, F9, hB⟩ hx10
  refine gO hF3 ?_
  have hm := hx10
  unfold m_sL03Is_s2 at hm
  refine cW_seq <| sR <| wP 4 [(80, .bool (decide (x10 < ((l1.length : Int))))), (79, ii (l1.length : Int)), (78, .slice (ad b1) l1.length (Int.toNat 13)), (77, ii x10)] <| wN <| cC (decide (x10 < ((l1.length : Int)))) (fun hb7 => ?_) (fun hb7 => ?_)
  ·have hm := condT hb7 hm
   refine cW_skip <| eX_then <| cW_seq <| cW_block <| sR <| wP 2 [(84, ii x10), (83, .slice (ad b1) l1.length (Int.toNat 13))] ?_
   obtain ⟨x11, hx11, hm⟩ := bindE hm
   refine sI 85 (ad b1) l1.length (Int.toNat 13) .i64 x10 sl24 ((F9.sl encI_ok).is hx11) <| sL 86 (elA (ad b1) 1 (x10) 0) (ii x11) vt2 (Sl.cell (F9.sl encI_ok) hx11 0 (by rfl)) <| wP 1 [(87, .bool (x11 == 1))] <| wN <| cC (x11 == 1) (fun hb8 => ?_) (fun hb8 => ?_)
   ·have hm := condT hb8 hm
    refine sR <| wP 1 [(2, .bool (false))] <| wN <| cW_ret <| eX_block_ret <| eX_then_ret ?_
    obtain rfl := someE (x := Ctl.out (Sum.inr false)) hm
    refine eX_outR hx10 (fun hr => ?_)
    subst hr
    refine eX_block_ret <| eX_then_ret <| eX_then_ret ?_
    obtain rfl := someE (x := false) hm2
    refine rA (.bool (false)) 2 ?_
    exact ⟨rfl, hB⟩
   have hm := condF hb8 hm
   refine cW_skip <| eX_block <| eX_then <| cW_region <| wP 3 [(6, ii (wr (x10 + 1))), (82, ii (wr (x10 + 1))), (81, ii x10)] <| wE ?_
   obtain rfl := someE (x := Ctl.next (wr (x10 + 1))) hm
   exact eX_next hx10 (fun hst => ⟨wr (x10 + 1), rfl, fO hst, F9, hB⟩)
  have hm := condF hb7 hm
  refine cW_exit <| eX_then_exit ?_
  obtain rfl := someE (x := Ctl.out (Sum.inl (()))) hm
  refine eX_outX hx10 (fun hr4 => ?_)
  replace hr4 := hr4.symm
  subst hr4
  refine eX_block_hit ?_
  exact eX_J (fun hst => ⟨rfl, fO hst, hB⟩)
 rintro a' w9 ⟨hJ, hF4, hB⟩
 subst hJ
 refine gX hF4 <| eX_then <| sR <| wP 1 [(2, .bool (true))] <| wN <| cW_ret ?_
 obtain rfl := someE (x := true) hm
 refine rA (.bool (true)) 2 ?_
 exact ⟨rfl, hB⟩

set_option maxRecDepth 100000 in
theorem c_sL03Ab {w0 l0_0 A0_0 cap0_0 fp0_0 l0_1 A0_1 cap0_1 fp0_1 b0 p1 p2} {r : Bool} (hm : m_sL03Ab l0_0 l0_1 p1 p2 = some r) (F0_0 : S1 w0 fp0_0 A0_0 l0_0) (F0_1 : S1 w0 fp0_1 A0_1 l0_1) (F0 : Cl w0 b0 26 [.slice A0_0 l0_0.length cap0_0, .slice A0_1 l0_1.length cap0_1]) :
  Calls Tryd.prog 95 #[pt b0, ii p1, ii p2] w0 fun e w' => e = .returned (.bool (r)) ∧ Chg [] w0 w' := by
 have L0_0 := F0_0.low
 have L0_1 := F0_1.low
 have L0 := lt1 F0.lt
 have hB : Chg [] w0 w0 := Chg.refl _ _
 unfold m_sL03Ab at hm
 refine enterE (N := 61) Tryd.func95 (by rfl) Tryd.ntmps95 (by simp) [(0, pt b0), (1, ii p1), (2, ii p2)] (by rfl) (by kernel_rfl) (fun a => ?_)
 refine sR <| wP 1 [(6, .bool (false))] <| wN <| cW_seq <| sR <| wP 4 [(12, .bool (p1 == p2)), (11, .bool (p1 == p2)), (10, ii p2), (9, ii p1)] <| wS_bool (p1 == p2) (fun hb1 => ?_) (fun hb1 => ?_)
 ·have hm := condT hb1 hm
  rewrite [hb1]
  refine wP 7 [(19, .bool (true)), (18, undef), (17, undef), (16, .bool (true)), (15, .bool (true)), (14, undef), (13, undef)] <| wN <| cCt <| sR <| wP 1 [(6, .bool (false))] <| wN <| cW_ret <| eX_then_ret ?_
  obtain rfl := someE (x := false) hm
  refine rA (.bool (false)) 6 ?_
  exact ⟨rfl, hB⟩
 have hm := condF hb1 hm
 rewrite [hb1]
 refine wP 4 [(16, .bool (p1 == 0)), (15, .bool (p1 == 0)), (14, .bool (p1 == 0)), (13, ii p1)] <| wS_bool (p1 == 0) (fun hb2 => ?_) (fun hb2 => ?_)
 ·have hm := condT hb2 hm
  rewrite [hb2]
  refine wP 3 [(19, .bool (true)), (18, undef), (17, undef)] <| wN <| cCt <| sR <| wP 1 [(6, .bool (false))] <| wN <| cW_ret <| eX_then_ret ?_
  obtain rfl := someE (x := false) hm
  refine rA (.bool (false)) 6 ?_
  exact ⟨rfl, hB⟩
 have hm := condF hb2 hm
 rewrite [hb2]
 refine wP 3 [(19, .bool (p2 == 0)), (18, .bool (p2 == 0)), (17, ii p2)] <| wN <| cC (p2 == 0) (fun hb3 => ?_) (fun hb3 => ?_)
 ·have hm := condT hb3 hm
  refine sR <| wP 1 [(6, .bool (false))] <| wN <| cW_ret <| eX_then_ret ?_
  obtain rfl := someE (x := false) hm
  refine rA (.bool (false)) 6 ?_
  exact ⟨rfl, hB⟩
 have hm := condF hb3 hm
 refine cW_skip <| eX_then <| sR <| wP 1 [(20, pt b0)] ?_
 obtain ⟨y1, hy1, hm⟩ := bindE hm
 refine sC 21 [pt b0] ent55 (c_sL03Ne hy1 F0_0 F0_1 F0) ?_
 rintro _ w1 ⟨A1, cap1, fp1, rfl, F1, G1, hc1⟩
 replace F0_0 := F0_0.c hc1
 replace F0_1 := F0_1.c hc1
 replace F0 := F0.c hc1
 replace G1 := low_le hB.size G1
 replace hB := hB.q hc1
 refine ⟨.slice A1 y1.length cap1, rfl, ?_⟩
 refine wP 1 [(7, .slice A1 y1.length cap1)] <| wN <| cW_seq <| sR <| wP 2 [(23, ii p1), (22, .slice A1 y1.length cap1)] ?_
 obtain ⟨y2, hy2, hm⟩ := bindE hm
 refine sC 24 [.slice A1 y1.length cap1, ii p1] ent121 (c_spec_l00Has hy2 (F1.sl encI_ok)) ?_
 rintro _ w2 ⟨rfl, hc2⟩
 replace F0_0 := F0_0.c hc2
 replace F0_1 := F0_1.c hc2
 replace F0 := F0.c hc2
 replace F1 := F1.c hc2
 replace hB := hB.q hc2
 refine ⟨.bool (y2), rfl, ?_⟩
 refine wP 2 [(26, .bool (!y2)), (25, .bool (!y2))] <| wS_bool (!y2) (fun hb4 => ?_) (fun hb4 => ?_)
 ·have hm := condT hb4 hm
  rewrite [hb4]
  refine wP 5 [(31, .bool (true)), (30, undef), (29, undef), (28, undef), (27, undef)] <| wN <| cP [(0, pt b0), (1, ii p1), (2, ii p2), (31, .bool (true))] (fun a1 => ?_)
  refine cCt <| sR <| wP 1 [(6, .bool (false))] <| wN <| cW_ret <| eX_then_ret ?_
  obtain rfl := someE (x := false) hm
  refine rA (.bool (false)) 6 ?_
  exact ⟨rfl, hB⟩
 have hm := condF hb4 hm
 rewrite [hb4]
 refine wP 2 [(28, ii p2), (27, .slice A1 y1.length cap1)] ?_
 obtain ⟨y3, hy3, hm⟩ := bindE hm
 refine sC 29 [.slice A1 y1.length cap1, ii p2] ent121 (c_spec_l00Has hy3 (F1.sl encI_ok)) ?_
 rintro _ w3 ⟨rfl, hc3⟩
 replace F0_0 := F0_0.c hc3
 replace F0_1 := F0_1.c hc3
 replace F0 := F0.c hc3
 replace F1 := F1.c hc3
 replace hB := hB.q hc3
 refine ⟨.bool (y3), rfl, ?_⟩
 refine wP 2 [(31, .bool (!y3)), (30, .bool (!y3))] <| wN <| cP [(0, pt b0), (1, ii p1), (2, ii p2), (31, .bool (!y3))] (fun a2 => ?_)
 refine cC (!y3) (fun hb5 => ?_) (fun hb5 => ?_)
 ·have hm := condT hb5 hm
  refine sR <| wP 1 [(6, .bool (false))] <| wN <| cW_ret <| eX_then_ret ?_
  obtain rfl := someE (x := false) hm
  refine rA (.bool (false)) 6 ?_
  exact ⟨rfl, hB⟩
 have hm := condF hb5 hm
 refine cW_skip <| eX_then <| cW_seq <| sR <| wP 1 [(8, ii 0)] <| wN ?_
 obtain ⟨r1, hr1, hm⟩ := bindE hm
 have hm1 := hm
 refine cW_cut (fun a' w' => Sum.inl (()) = r1 ∧ Fr 61 [] a' ∧ Chg [] w0 w') ?_ ?_
 ·refine cW_block ?_
  refine cW_loop _ (fun (s1 : Int) a' w' => ∃ x1 : Int, x1 = s1 ∧ Fr 61 [(0, pt b0), (1, ii p1), (2, ii p2), (8, ii x1)] a' ∧ S1 w' fp0_0 A0_0 l0_0 ∧ S1 w' fp0_1 A0_1 l0_1 ∧ Cl w' b0 26 [.slice A0_0 l0_0.length cap0_0, .slice A0_1 l0_1.length cap0_1] ∧ Chg [] w0 w') hr1 (fun hst => ⟨0, rfl, fO hst, F0_0, F0_1, F0, hB⟩) ?_
  rintro _ c1 a' w4 ⟨x1, rfl, hF1, F2, F3, F4, hB⟩ hx1
  refine gO hF1 ?_
  have hm := hx1
  unfold m_sL03Ab_s1 at hm
  refine cW_seq <| sR <| wP 4 [(35, pt b0), (34, pt b0), (33, pt b0), (32, ii x1)] <| sL 36 ⟨b0, 0, none⟩ (.slice A0_0 l0_0.length cap0_0) vt24 ((F4).cell 0) <| wP 2 [(38, .bool (decide (x1 < ((l0_0.length : Int))))), (37, ii (l0_0.length : Int))] <| wN <| cC (decide (x1 < ((l0_0.length : Int)))) (fun hb6 => ?_) (fun hb6 => ?_)
  ·have hm := condT hb6 hm
   refine cW_skip <| eX_then <| cW_seq <| cW_block <| sR <| wP 3 [(43, pt b0), (42, pt b0), (41, pt b0)] <| sL 44 ⟨b0, 0, none⟩ (.slice A0_0 l0_0.length cap0_0) vt24 ((F4).cell 0) <| wP 1 [(45, ii x1)] ?_
   obtain ⟨x2, hx2, hm⟩ := bindE hm
   refine sI 46 A0_0 l0_0.length cap0_0 .i64 x1 sl24 (F2.is hx2) <| sL 47 (elA A0_0 1 (x1) 0) (ii x2) vt2 (Sl.cell F2 hx2 0 (by rfl)) <| wP 3 [(50, .bool (x2 == p1)), (49, .bool (x2 == p1)), (48, ii p1)] <| wS_bool (x2 == p1) (fun hb7 => ?_) (fun hb7 => ?_)
   ·have hm := condT hb7 hm
    rewrite [hb7]
    refine wP 3 [(53, .pointer (some ⟨b0, 1, none⟩)), (52, pt b0), (51, pt b0)] <| sL 54 ⟨b0, 1, none⟩ (.slice A0_1 l0_1.length cap0_1) vt24 ((F4).cell 1) <| wP 1 [(55, ii x1)] ?_
    obtain ⟨x3, hx3, hm⟩ := bindE hm
    refine sI 56 A0_1 l0_1.length cap0_1 .i64 x1 sl24 (F3.is hx3) <| sL 57 (elA A0_1 1 (x1) 0) (ii x3) vt2 (Sl.cell F3 hx3 0 (by rfl)) <| wP 3 [(60, .bool (x3 == p2)), (59, .bool (x3 == p2)), (58, ii p2)] <| wN <| cP [(0, pt b0), (1, ii p1), (2, ii p2), (8, ii x1), (60, .bool (x3 == p2))] (fun a3 => ?_)
    refine cC (x3 == p2) (fun hb8 => ?_) (fun hb8 => ?_)
    ·have hm := condT hb8 hm
     refine sR <| wP 1 [(6, .bool (true))] <| wN <| cW_ret <| eX_block_ret <| eX_then_ret ?_
     obtain rfl := someE (x := Ctl.out (Sum.inr true)) hm
     refine eX_outR hx1 (fun hr => ?_)
     subst hr
     refine eX_block_ret <| eX_then_ret <| eX_then_ret ?_
     obtain rfl := someE (x := true) hm1
     refine rA (.bool (true)) 6 ?_
     exact ⟨rfl, hB⟩
    have hm := condF hb8 hm
    refine cW_skip <| eX_block <| eX_then <| cW_region <| wP 3 [(8, ii (wr (x1 + 1))), (40, ii (wr (x1 + 1))), (39, ii x1)] <| wE ?_
    obtain rfl := someE (x := Ctl.next (wr (x1 + 1))) hm
    exact eX_next hx1 (fun hst => ⟨wr (x1 + 1), rfl, fO hst, F2, F3, F4, hB⟩)
   have hm := condF hb7 hm
   rewrite [hb7]
   refine wP 10 [(60, .bool (false)), (59, undef), (58, undef), (57, undef), (56, undef), (55, undef), (54, undef), (53, undef), (52, undef), (51, undef)] <| wN <| cP [(0, pt b0), (1, ii p1), (2, ii p2), (8, ii x1), (60, .bool (false))] (fun a4 => ?_)
   refine cCf <| cW_skip <| eX_block <| eX_then <| cW_region <| wP 3 [(8, ii (wr (x1 + 1))), (40, ii (wr (x1 + 1))), (39, ii x1)] <| wE ?_
   obtain rfl := someE (x := Ctl.next (wr (x1 + 1))) hm
   exact eX_next hx1 (fun hst => ⟨wr (x1 + 1), rfl, fO hst, F2, F3, F4, hB⟩)
  have hm := condF hb6 hm
  refine cW_exit <| eX_then_exit ?_
  obtain rfl := someE (x := Ctl.out (Sum.inl (()))) hm
  refine eX_outX hx1 (fun hr2 => ?_)
  replace hr2 := hr2.symm
  subst hr2
  refine eX_block_hit ?_
  exact eX_J (fun hst => ⟨rfl, fO hst, hB⟩)
 rintro a' w5 ⟨hJ, hF2, hB⟩
 subst hJ
 refine gX hF2 <| eX_then <| sR <| wP 1 [(6, .bool (false))] <| wN <| cW_ret ?_
 obtain rfl := someE (x := false) hm
 refine rA (.bool (false)) 6 ?_
 exact ⟨rfl, hB⟩

set_option maxRecDepth 100000 in
theorem c_sL03Of {w0 l0_0 A0_0 cap0_0 fp0_0 l0_1 A0_1 cap0_1 fp0_1 b0} {r : ((List Int) × (List (List Bool)) × (List (List Bool)))} (hm : m_sL03Of l0_0 l0_1 = some r) (F0_0 : S1 w0 fp0_0 A0_0 l0_0) (F0_1 : S1 w0 fp0_1 A0_1 l0_1) (F0 : Cl w0 b0 26 [.slice A0_0 l0_0.length cap0_0, .slice A0_1 l0_1.length cap0_1]) :
  Calls Tryd.prog 62 #[pt b0] w0 fun e w' => ∃ b100, ∃ A100_0 cap100_0 fp100_0, ∃ A100_1 cap100_1 fp100_1 fr100_1, ∃ A100_2 cap100_2 fp100_2 fr100_2, e = .returned (pt b100) ∧ Cl w' b100 94 [.slice A100_0 r.1.length cap100_0, .slice A100_1 r.2.1.length cap100_1, .slice A100_2 r.2.2.length cap100_2] ∧ w0.heap.size ≤ b100 ∧ O1 2 w' fp100_0 A100_0 cap100_0 r.1 ∧ (∀ x ∈ fp100_0, w0.heap.size ≤ x) ∧ OwR 1 encB 120 4 w' fp100_1 fr100_1 A100_1 cap100_1 r.2.1 ∧ (∀ x ∈ fp100_1 ++ fr100_1, w0.heap.size ≤ x) ∧ OwR 1 encB 120 4 w' fp100_2 fr100_2 A100_2 cap100_2 r.2.2 ∧ (∀ x ∈ fp100_2 ++ fr100_2, w0.heap.size ≤ x) ∧ Dj [b100] fp100_0 ∧ Dj [b100] (fp100_1 ++ fr100_1) ∧ Dj [b100] (fp100_2 ++ fr100_2) ∧ Dj fp100_0 (fp100_1 ++ fr100_1) ∧ Dj fp100_0 (fp100_2 ++ fr100_2) ∧ Dj (fp100_1 ++ fr100_1) (fp100_2 ++ fr100_2) ∧ Chg [] w0 w' := by
 have L0_0 := F0_0.low
 have L0_1 := F0_1.low
 have L0 := lt1 F0.lt
 have hB : Chg [] w0 w0 := Chg.refl _ _
 unfold m_sL03Of at hm
 refine enterE (N := 108) Tryd.func62 (by rfl) Tryd.ntmps62 (by simp) [(0, pt b0)] (by rfl) (by kernel_rfl) (fun a => ?_)
 refine sR <| wP 1 [(2, .pointer none)] <| wN <| sR <| wP 1 [(15, pt b0)] ?_
 obtain ⟨y1, hy1, hm⟩ := bindE hm
 refine sC 16 [pt b0] ent55 (c_sL03Ne hy1 F0_0 F0_1 F0) ?_
 rintro _ w1 ⟨A1, cap1, fp1, rfl, F1, G1, hc1⟩
 replace F0_0 := F0_0.c hc1
 replace F0_1 := F0_1.c hc1
 replace F0 := F0.c hc1
 replace G1 := low_le hB.size G1
 replace hB := hB.q hc1
 refine ⟨.slice A1 y1.length cap1, rfl, ?_⟩
 refine wP 1 [(3, .slice A1 y1.length cap1)] <| wN <| sR <| wP 2 [(18, .agg #[.slice A1 y1.length cap1, .slice none 0 0, .slice none 0 0]), (17, .slice A1 y1.length cap1)] <| wS_box (d := 19) (T := 94) (x := .agg #[.slice A1 y1.length cap1, .slice none 0 0, .slice none 0 0]) (by kernel_rfl) ?_
 intro b1 w2 G2 F2 hc2
 replace F2 : Cl w2 b1 94 [.slice A1 y1.length cap1, .slice none 0 0, .slice none 0 0] := F2
 have D1 := Dj.of F1.low (low1 G2)
 replace F0_0 := F0_0.c hc2
 replace F0_1 := F0_1.c hc2
 replace F0 := F0.c hc2
 replace F1 := F1.c hc2
 replace G2 := Nat.le_trans hB.size G2
 replace hB := hB.q hc2
 refine wP 1 [(4, pt b1)] <| wN <| cW_seq <| sR <| wP 1 [(5, ii 0)] <| wN ?_
 obtain ⟨r1, hr1, hm⟩ := bindE hm
 have hm1 := hm
 refine cW_cut (fun a' w' => ∃ l1 : List (List Bool), ∃ A3 : Option Addr, ∃ cap3 : Nat, ∃ fp2 : List Nat, ∃ fr1 : List Nat, ∃ l2 : List (List Bool), ∃ A4 : Option Addr, ∃ cap4 : Nat, ∃ fp3 : List Nat, ∃ fr2 : List Nat, (l1, l2) = r1 ∧ Fr 108 [(4, pt b1)] a' ∧ O1 2 w' fp1 A1 cap1 y1 ∧ Cl w' b1 94 [.slice A1 y1.length cap1, .slice A3 l1.length cap3, .slice A4 l2.length cap4] ∧ OwR 1 encB 120 4 w' fp2 fr1 A3 cap3 l1 ∧ OwR 1 encB 120 4 w' fp3 fr2 A4 cap4 l2 ∧ (∀ x ∈ (fp2 ++ fr1), w0.heap.size ≤ x) ∧ (∀ x ∈ (fp3 ++ fr2), w0.heap.size ≤ x) ∧ Dj fp1 (fp2 ++ fr1) ∧ Dj [b1] (fp2 ++ fr1) ∧ Dj (fp3 ++ fr2) (fp2 ++ fr1) ∧ Dj fp1 (fp3 ++ fr2) ∧ Dj [b1] (fp3 ++ fr2) ∧ Chg [] w0 w') ?_ ?_
 ·refine cW_block ?_
  refine cW_loop _ (fun (s1 : Int × (List (List Bool)) × (List (List Bool))) a' w' => ∃ x1 : Int, ∃ l3 : List (List Bool), ∃ A5 : Option Addr, ∃ cap5 : Nat, ∃ fp4 : List Nat, ∃ fr3 : List Nat, ∃ l4 : List (List Bool), ∃ A6 : Option Addr, ∃ cap6 : Nat, ∃ fp5 : List Nat, ∃ fr4 : List Nat, (x1, l3, l4) = s1 ∧ Fr 108 [(0, pt b0), (3, .slice A1 y1.length cap1), (4, pt b1), (5, ii x1)] a' ∧ S1 w' fp0_0 A0_0 l0_0 ∧ S1 w' fp0_1 A0_1 l0_1 ∧ Cl w' b0 26 [.slice A0_0 l0_0.length cap0_0, .slice A0_1 l0_1.length cap0_1] ∧ O1 2 w' fp1 A1 cap1 y1 ∧ Cl w' b1 94 [.slice A1 y1.length cap1, .slice A5 l3.length cap5, .slice A6 l4.length cap6] ∧ OwR 1 encB 120 4 w' fp4 fr3 A5 cap5 l3 ∧ OwR 1 encB 120 4 w' fp5 fr4 A6 cap6 l4 ∧ (∀ x ∈ (fp4 ++ fr3), w0.heap.size ≤ x) ∧ (∀ x ∈ (fp5 ++ fr4), w0.heap.size ≤ x) ∧ Dj fp1 (fp4 ++ fr3) ∧ Dj [b1] (fp4 ++ fr3) ∧ Dj (fp5 ++ fr4) (fp4 ++ fr3) ∧ Dj fp1 (fp5 ++ fr4) ∧ Dj [b1] (fp5 ++ fr4) ∧ Chg [] w0 w') hr1 (fun hst => ⟨0, [], none, 0, [], [], [], none, 0, [], [], rfl, fO hst, F0_0, F0_1, F0, F1, F2, OwR.nil _, OwR.nil _, (lowApp lowNil lowNil), (lowApp lowNil lowNil), (Dj.app Dj.nil Dj.nil), (Dj.app Dj.nil Dj.nil), (Dj.app Dj.nil Dj.nil), (Dj.app Dj.nil Dj.nil), (Dj.app Dj.nil Dj.nil), hB⟩) ?_
  rintro _ c1 a' w3 ⟨x1, l3, A5, cap5, fp4, fr3, l4, A6, cap6, fp5, fr4, rfl, hF1, F3, F4, F5, F6, F7, F8, F9, G3, G4, D2, D3, D4, D5, D6, hB⟩ hx1
  refine gO hF1 ?_
  have hm := hx1
  unfold m_sL03Of_s3 at hm
  refine cW_seq <| sR <| wP 4 [(23, .bool (decide (x1 < ((y1.length : Int))))), (22, ii (y1.length : Int)), (21, .slice A1 y1.length cap1), (20, ii x1)] <| wN <| cC (decide (x1 < ((y1.length : Int)))) (fun hb1 => ?_) (fun hb1 => ?_)
  ·have hm := condT hb1 hm
   refine cW_skip <| eX_then <| cW_seq <| cW_block <| sR <| wP 3 [(29, ii x1), (28, .slice A1 y1.length cap1), (27, pt b0)] ?_
   obtain ⟨x2, hx2, hm⟩ := bindE hm
   refine sI 30 A1 y1.length cap1 .i64 x1 sl24 ((F6.sl encI_ok).is hx2) <| sL 31 (elA A1 1 (x1) 0) (ii x2) vt2 (Sl.cell (F6.sl encI_ok) hx2 0 (by rfl)) ?_
   obtain ⟨y2, hy2, hm⟩ := bindE hm
   refine sC 32 [pt b0, ii x2] ent92 (c_sL03Sp hy2 F3 F4 F5) ?_
   rintro _ w4 ⟨rfl, hc3⟩
   replace F3 := F3.c hc3
   replace F4 := F4.c hc3
   replace F5 := F5.c hc3
   replace F6 := F6.c hc3
   replace F7 := F7.c hc3
   replace F8 := F8.c hc3
   replace F9 := F9.c hc3
   replace hB := hB.q hc3
   refine ⟨.tuple #[ii y2.1, ii y2.2.1, .bool (y2.2.2)], rfl, ?_⟩
   refine wP 7 [(8, .bool (y2.2.2)), (7, ii y2.2.1), (6, ii y2.1), (35, .bool (y2.2.2)), (34, ii y2.2.1), (33, ii y2.1), (26, .tuple #[ii y2.1, ii y2.2.1, .bool (y2.2.2)])] <| wN <| sR <| wP 2 [(37, ii (y1.length : Int)), (36, .slice A1 y1.length cap1)] ?_
   obtain ⟨_, hk1, hm⟩ := bindE hm
   replace hk1 := mkE hk1
   refine wS_make (enc := encB) (x0 := (false : Bool)) (d := 38) (t := 120) (T := 4) (k1 := .i64) (k2 := .i64) (m := (y1.length : Int)) (by kernel_rfl) el120 encB_ok (by rfl) hk1.1 hk1.2 ?_
   intro b2 w5 G5 F10 hc4
   have D7 := Dj.of F6.low (low1 G5)
   have D8 := Dj.of (lt1 F7.lt) (low1 G5)
   have D9 := Dj.of F8.low (low1 G5)
   have D10 := Dj.of F9.low (low1 G5)
   replace F3 := F3.c hc4
   replace F4 := F4.c hc4
   replace F5 := F5.c hc4
   replace F6 := F6.c hc4
   replace F7 := F7.c hc4
   replace F8 := F8.c hc4
   replace F9 := F9.c hc4
   replace G5 := Nat.le_trans hB.size G5
   replace G5 := low1 G5
   replace hB := hB.q hc4
   refine wP 1 [(9, .slice (ad b2) (List.replicate (Int.toNat ((y1.length : Int))) ((false : Bool))).length (Int.toNat ((y1.length : Int))))] <| wN <| cP [(0, pt b0), (3, .slice A1 y1.length cap1), (4, pt b1), (5, ii x1), (6, ii y2.1), (7, ii y2.2.1), (9, .slice (ad b2) (List.replicate (Int.toNat ((y1.length : Int))) ((false : Bool))).length (Int.toNat ((y1.length : Int))))] (fun a1 => ?_)
   refine sR <| wP 2 [(40, ii (y1.length : Int)), (39, .slice A1 y1.length cap1)] ?_
   obtain ⟨_, hk2, hm⟩ := bindE hm
   replace hk2 := mkE hk2
   refine wS_make (enc := encB) (x0 := (false : Bool)) (d := 41) (t := 120) (T := 4) (k1 := .i64) (k2 := .i64) (m := (y1.length : Int)) (by kernel_rfl) el120 encB_ok (by rfl) hk2.1 hk2.2 ?_
   intro b3 w6 G6 F11 hc5
   have D11 := Dj.of F6.low (low1 G6)
   have D12 := Dj.of (lt1 F7.lt) (low1 G6)
   have D13 := Dj.of F8.low (low1 G6)
   have D14 := Dj.of F9.low (low1 G6)
   have D15 := Dj.of F10.low (low1 G6)
   replace F3 := F3.c hc5
   replace F4 := F4.c hc5
   replace F5 := F5.c hc5
   replace F6 := F6.c hc5
   replace F7 := F7.c hc5
   replace F8 := F8.c hc5
   replace F9 := F9.c hc5
   replace F10 := F10.c hc5
   replace G6 := Nat.le_trans hB.size G6
   replace G6 := low1 G6
   replace hB := hB.q hc5
   refine wP 1 [(10, .slice (ad b3) (List.replicate (Int.toNat ((y1.length : Int))) ((false : Bool))).length (Int.toNat ((y1.length : Int))))] <| wN <| cW_seq <| sR <| wP 1 [(11, ii 0)] <| wN ?_
   obtain ⟨r2, hr2, hm⟩ := bindE hm
   have hm2 := hm
   refine cW_cut (fun a' w' => ∃ l5 : List Bool, ∃ l6 : List Bool, (l5, l6) = r2 ∧ Fr 108 [(0, pt b0), (3, .slice A1 y1.length cap1), (4, pt b1), (5, ii x1), (9, .slice (ad b2) l5.length (Int.toNat ((y1.length : Int)))), (10, .slice (ad b3) l6.length (Int.toNat ((y1.length : Int))))] a' ∧ S1 w' fp0_0 A0_0 l0_0 ∧ S1 w' fp0_1 A0_1 l0_1 ∧ Cl w' b0 26 [.slice A0_0 l0_0.length cap0_0, .slice A0_1 l0_1.length cap0_1] ∧ O1 2 w' fp1 A1 cap1 y1 ∧ Cl w' b1 94 [.slice A1 y1.length cap1, .slice A5 l3.length cap5, .slice A6 l4.length cap6] ∧ OwR 1 encB 120 4 w' fp4 fr3 A5 cap5 l3 ∧ OwR 1 encB 120 4 w' fp5 fr4 A6 cap6 l4 ∧ Ow 1 encB 4 w' [b2] (ad b2) (Int.toNat ((y1.length : Int))) l5 ∧ Ow 1 encB 4 w' [b3] (ad b3) (Int.toNat ((y1.length : Int))) l6 ∧ Chg [] w0 w') ?_ ?_
   ·refine cW_block ?_
    refine cW_loop _ (fun (s2 : Int × (List Bool) × (List Bool)) a' w' => ∃ x3 : Int, ∃ l7 : List Bool, ∃ l8 : List Bool, (x3, l7, l8) = s2 ∧ Fr 108 [(0, pt b0), (3, .slice A1 y1.length cap1), (4, pt b1), (5, ii x1), (6, ii y2.1), (7, ii y2.2.1), (9, .slice (ad b2) l7.length (Int.toNat ((y1.length : Int)))), (10, .slice (ad b3) l8.length (Int.toNat ((y1.length : Int)))), (11, ii x3)] a' ∧ S1 w' fp0_0 A0_0 l0_0 ∧ S1 w' fp0_1 A0_1 l0_1 ∧ Cl w' b0 26 [.slice A0_0 l0_0.length cap0_0, .slice A0_1 l0_1.length cap0_1] ∧ O1 2 w' fp1 A1 cap1 y1 ∧ Cl w' b1 94 [.slice A1 y1.length cap1, .slice A5 l3.length cap5, .slice A6 l4.length cap6] ∧ OwR 1 encB 120 4 w' fp4 fr3 A5 cap5 l3 ∧ OwR 1 encB 120 4 w' fp5 fr4 A6 cap6 l4 ∧ Ow 1 encB 4 w' [b2] (ad b2) (Int.toNat ((y1.length : Int))) l7 ∧ Ow 1 encB 4 w' [b3] (ad b3) (Int.toNat ((y1.length : Int))) l8 ∧ Chg [] w0 w') hr2 (fun hst => ⟨0, List.replicate (Int.toNat ((y1.length : Int))) ((false : Bool)), List.replicate (Int.toNat ((y1.length : Int))) ((false : Bool)), rfl, fO hst, F3, F4, F5, F6, F7, F8, F9, F10, F11, hB⟩) ?_
    rintro _ c2 a' w7 ⟨x3, l7, l8, rfl, hF2, F12, F13, F14, F15, F16, F17, F18, F19, F20, hB⟩ hx3
    refine gO hF2 ?_
    have hm := hx3
    unfold m_sL03Of_s4 at hm
    refine cW_seq <| sR <| wP 4 [(45, .bool (decide (x3 < ((y1.length : Int))))), (44, ii (y1.length : Int)), (43, .slice A1 y1.length cap1), (42, ii x3)] <| wN <| cC (decide (x3 < ((y1.length : Int)))) (fun hb2 => ?_) (fun hb2 => ?_)
    ·have hm := condT hb2 hm
     refine cW_skip <| eX_then <| cW_seq <| cW_block <| sR <| wP 3 [(51, ii x3), (50, .slice A1 y1.length cap1), (49, pt b0)] ?_
     obtain ⟨x4, hx4, hm⟩ := bindE hm
     refine sI 52 A1 y1.length cap1 .i64 x3 sl24 ((F15.sl encI_ok).is hx4) <| sL 53 (elA A1 1 (x3) 0) (ii x4) vt2 (Sl.cell (F15.sl encI_ok) hx4 0 (by rfl)) ?_
     obtain ⟨y3, hy3, hm⟩ := bindE hm
     refine sC 54 [pt b0, ii x4] ent92 (c_sL03Sp hy3 F12 F13 F14) ?_
     rintro _ w8 ⟨rfl, hc6⟩
     replace F12 := F12.c hc6
     replace F13 := F13.c hc6
     replace F14 := F14.c hc6
     replace F15 := F15.c hc6
     replace F16 := F16.c hc6
     replace F17 := F17.c hc6
     replace F18 := F18.c hc6
     replace F19 := F19.c hc6
     replace F20 := F20.c hc6
     replace hB := hB.q hc6
     refine ⟨.tuple #[ii y3.1, ii y3.2.1, .bool (y3.2.2)], rfl, ?_⟩
     refine wP 7 [(14, .bool (y3.2.2)), (13, ii y3.2.1), (12, ii y3.1), (57, .bool (y3.2.2)), (56, ii y3.2.1), (55, ii y3.1), (48, .tuple #[ii y3.1, ii y3.2.1, .bool (y3.2.2)])] <| wN <| cP [(0, pt b0), (3, .slice A1 y1.length cap1), (4, pt b1), (5, ii x1), (6, ii y2.1), (7, ii y2.2.1), (9, .slice (ad b2) l7.length (Int.toNat ((y1.length : Int)))), (10, .slice (ad b3) l8.length (Int.toNat ((y1.length : Int)))), (11, ii x3), (12, ii y3.1), (13, ii y3.2.1)] (fun a2 => ?_)
     refine sR <| wP 6 [(63, .bool (x1 != x3)), (62, .bool (x1 != x3)), (61, ii x3), (60, ii x1), (59, ii x3), (58, .slice (ad b2) l7.length (Int.toNat ((y1.length : Int))))] <| wS_bool (x1 != x3) (fun hb3 => ?_) (fun hb3 => ?_)
     ·have hm := condT hb3 hm
      rewrite [hb3]
      refine wP 5 [(68, .bool (decide (y2.1 ≤ y3.2.1))), (67, .bool (decide (y2.1 ≤ y3.2.1))), (66, .bool (decide (y2.1 ≤ y3.2.1))), (65, ii y3.2.1), (64, ii y2.1)] <| wS_bool (decide (y2.1 ≤ y3.2.1)) (fun hb4 => ?_) (fun hb4 => ?_)
      ·have hm := condT hb4 hm
       rewrite [hb4]
       refine wP 4 [(72, .bool (decide (y3.1 ≤ y2.2.1))), (71, .bool (decide (y3.1 ≤ y2.2.1))), (70, ii y2.2.1), (69, ii y3.1)] ?_
       obtain ⟨x5, hx5, hm⟩ := bindE hm
       refine sI 73 (ad b2) l7.length (Int.toNat ((y1.length : Int))) .i64 x3 sl120 ((F19.sl encB_ok).is hx5) <| wS_storeEl (x := x5) (decide (y3.1 ≤ y2.2.1)) (T := 4) (U := 4) (cap := (Int.toNat ((y1.length : Int)))) (j := 0) (A := (ad b2)) (v := .bool (decide (y3.1 ≤ y2.2.1))) (vs := [.bool (decide (y3.1 ≤ y2.2.1))]) (m := x3) (by kernel_rfl) (by rfl) sz4 (by rfl) encB_ok F19 hx5 (bl rfl) (by rfl) ?_
       intro w9 F21 hc7
       replace F12 := F12.chg hc7 (Dj.of L0_0 G5)
       replace F13 := F13.chg hc7 (Dj.of L0_1 G5)
       replace F14 := F14.chg hc7 (dj1 (Dj.of L0 G5))
       replace F15 := F15.chg hc7 D7
       replace F16 := F16.chg hc7 (dj1 D8)
       replace F17 := F17.chg hc7 D9
       replace F18 := F18.chg hc7 D10
       replace F20 := F20.chg hc7 (D15).symm
       replace hB := hB.inS hc7 (inLow G5)
       clear F19
       rewrite [show l7.length = (l7.set (Int.toNat x3) (decide (y3.1 ≤ y2.2.1))).length from (List.length_set ..).symm]
       refine wN <| cP [(0, pt b0), (3, .slice A1 y1.length cap1), (4, pt b1), (5, ii x1), (6, ii y2.1), (7, ii y2.2.1), (9, .slice (ad b2) (l7.set (Int.toNat x3) (decide (y3.1 ≤ y2.2.1))).length (Int.toNat ((y1.length : Int)))), (10, .slice (ad b3) l8.length (Int.toNat ((y1.length : Int)))), (11, ii x3)] (fun a3 => ?_)
       refine cW_drawnTail [] 12 (by kernel_rfl) (by kernel_rfl) (fun w10 hc8 => ?_)
       replace F12 := F12.c hc8
       replace F13 := F13.c hc8
       replace F14 := F14.c hc8
       replace F15 := F15.c hc8
       replace F16 := F16.c hc8
       replace F17 := F17.c hc8
       replace F18 := F18.c hc8
       replace F21 := F21.c hc8
       replace F20 := F20.c hc8
       replace hB := hB.q hc8
       have hS := Chg.refl [] w10
       have Z1 := F12
       have Z2 := F13
       have Z3 := F14
       have Z4 := F15
       have Z5 := F16
       have Z6 := F17
       have Z7 := F18
       have Z8 := F21
       have Z9 := F20
       refine hT [0, 1, 2, 3, 4] [(78, ii x1), (77, .slice A1 y1.length cap1), (76, pt b0), (75, ii x3), (74, .slice (ad b3) l8.length (Int.toNat ((y1.length : Int))))] ?_
       obtain ⟨x6, hx6, hm⟩ := bindE hm
       refine hI 5 79 A1 y1.length cap1 .i64 x1 sl24 ((F15.sl encI_ok).is hx6) <| hL 6 80 (elA A1 1 (x1) 0) (ii x6) vt2 (fun W hW => Sl.cell ((Z4.c hW).sl encI_ok) hx6 0 (by rfl)) ?_
       refine hT [7, 8] [(82, ii x3), (81, .slice A1 y1.length cap1)] ?_
       obtain ⟨x7, hx7, hm⟩ := bindE hm
       refine hI 9 83 A1 y1.length cap1 .i64 x3 sl24 ((F15.sl encI_ok).is hx7) <| hL 10 84 (elA A1 1 (x3) 0) (ii x7) vt2 (fun W hW => Sl.cell ((Z4.c hW).sl encI_ok) hx7 0 (by rfl)) ?_
       refine wH_all [11] (by rfl) (by kernel_rfl) (by simp) ⟨⟨by kernel_rfl, ?_⟩, trivial⟩
       obtain ⟨y4, hy4, hm⟩ := bindE hm
       refine sC 85 [pt b0, ii x6, ii x7] ent95 (c_sL03Ab hy4 F12 F13 F14) ?_
       rintro _ w11 ⟨rfl, hc9⟩
       replace F12 := F12.c hc9
       replace F13 := F13.c hc9
       replace F14 := F14.c hc9
       replace F15 := F15.c hc9
       replace F16 := F16.c hc9
       replace F17 := F17.c hc9
       replace F18 := F18.c hc9
       replace F21 := F21.c hc9
       replace F20 := F20.c hc9
       have hSz := hS
       replace hS := hS.inS hc9 inNil
       replace hB := hB.q hc9
       refine ⟨.bool (y4), rfl, ?_⟩
       refine wS_end (by kernel_rfl) <| eX_KH hS <| wD <| eX_tail ?_
       obtain ⟨x8, hx8, hm⟩ := bindE hm
       refine sI 86 (ad b3) l8.length (Int.toNat ((y1.length : Int))) .i64 x3 sl120 ((F20.sl encB_ok).is hx8) <| wS_storeEl (x := x8) y4 (T := 4) (U := 4) (cap := (Int.toNat ((y1.length : Int)))) (j := 0) (A := (ad b3)) (v := .bool (y4)) (vs := [.bool (y4)]) (m := x3) (by kernel_rfl) (by rfl) sz4 (by rfl) encB_ok F20 hx8 (bl rfl) (by rfl) ?_
       intro w12 F22 hc10
       replace F12 := F12.chg hc10 (Dj.of L0_0 G6)
       replace F13 := F13.chg hc10 (Dj.of L0_1 G6)
       replace F14 := F14.chg hc10 (dj1 (Dj.of L0 G6))
       replace F15 := F15.chg hc10 D11
       replace F16 := F16.chg hc10 (dj1 D12)
       replace F17 := F17.chg hc10 D13
       replace F18 := F18.chg hc10 D14
       replace F21 := F21.chg hc10 D15
       replace hB := hB.inS hc10 (inLow G6)
       clear F20
       rewrite [show l8.length = (l8.set (Int.toNat x3) y4).length from (List.length_set ..).symm]
       refine wE <| eX_block <| eX_then <| cW_region <| wP 3 [(11, ii (wr (x3 + 1))), (47, ii (wr (x3 + 1))), (46, ii x3)] <| wE ?_
       obtain rfl := someE (x := (Ctl.next ((wr (x3 + 1), l7.set (Int.toNat x3) (decide (y3.1 ≤ y2.2.1)), l8.set (Int.toNat x3) y4)))) hm
       exact eX_next hx3 (fun hst => ⟨wr (x3 + 1), l7.set (Int.toNat x3) (decide (y3.1 ≤ y2.2.1)), l8.set (Int.toNat x3) y4, rfl, fO hst, F12, F13, F14, F15, F16, F17, F18, F21, F22, hB⟩)
      have hm := condF hb4 hm
      rewrite [hb4]
      refine wP 4 [(72, .bool (false)), (71, undef), (70, undef), (69, undef)] ?_
      obtain ⟨x9, hx9, hm⟩ := bindE hm
      refine sI 73 (ad b2) l7.length (Int.toNat ((y1.length : Int))) .i64 x3 sl120 ((F19.sl encB_ok).is hx9) <| wS_storeEl (x := x9) false (T := 4) (U := 4) (cap := (Int.toNat ((y1.length : Int)))) (j := 0) (A := (ad b2)) (v := .bool (false)) (vs := [.bool (false)]) (m := x3) (by kernel_rfl) (by rfl) sz4 (by rfl) encB_ok F19 hx9 (bl rfl) (by rfl) ?_
      intro w13 F23 hc11
      replace F12 := F12.chg hc11 (Dj.of L0_0 G5)
      replace F13 := F13.chg hc11 (Dj.of L0_1 G5)
      replace F14 := F14.chg hc11 (dj1 (Dj.of L0 G5))
      replace F15 := F15.chg hc11 D7
      replace F16 := F16.chg hc11 (dj1 D8)
      replace F17 := F17.chg hc11 D9
      replace F18 := F18.chg hc11 D10
      replace F20 := F20.chg hc11 (D15).symm
      replace hB := hB.inS hc11 (inLow G5)
      clear F19
      rewrite [show l7.length = (l7.set (Int.toNat x3) false).length from (List.length_set ..).symm]
      refine wN <| cP [(0, pt b0), (3, .slice A1 y1.length cap1), (4, pt b1), (5, ii x1), (6, ii y2.1), (7, ii y2.2.1), (9, .slice (ad b2) (l7.set (Int.toNat x3) false).length (Int.toNat ((y1.length : Int)))), (10, .slice (ad b3) l8.length (Int.toNat ((y1.length : Int)))), (11, ii x3)] (fun a4 => ?_)
      refine cW_drawnTail [] 12 (by kernel_rfl) (by kernel_rfl) (fun w14 hc12 => ?_)
      replace F12 := F12.c hc12
      replace F13 := F13.c hc12
      replace F14 := F14.c hc12
      replace F15 := F15.c hc12
      replace F16 := F16.c hc12
      replace F17 := F17.c hc12
      replace F18 := F18.c hc12
      replace F23 := F23.c hc12
      replace F20 := F20.c hc12
      replace hB := hB.q hc12
      have hS := Chg.refl [] w14
      have Z10 := F12
      have Z11 := F13
      have Z12 := F14
      have Z13 := F15
      have Z14 := F16
      have Z15 := F17
      have Z16 := F18
      have Z17 := F23
      have Z18 := F20
      refine hT [0, 1, 2, 3, 4] [(78, ii x1), (77, .slice A1 y1.length cap1), (76, pt b0), (75, ii x3), (74, .slice (ad b3) l8.length (Int.toNat ((y1.length : Int))))] ?_
      obtain ⟨x10, hx10, hm⟩ := bindE hm
      refine hI 5 79 A1 y1.length cap1 .i64 x1 sl24 ((F15.sl encI_ok).is hx10) <| hL 6 80 (elA A1 1 (x1) 0) (ii x10) vt2 (fun W hW => Sl.cell ((Z13.c hW).sl encI_ok) hx10 0 (by rfl)) ?_
      refine hT [7, 8] [(82, ii x3), (81, .slice A1 y1.length cap1)] ?_
      obtain ⟨x11, hx11, hm⟩ := bindE hm
      refine hI 9 83 A1 y1.length cap1 .i64 x3 sl24 ((F15.sl encI_ok).is hx11) <| hL 10 84 (elA A1 1 (x3) 0) (ii x11) vt2 (fun W hW => Sl.cell ((Z13.c hW).sl encI_ok) hx11 0 (by rfl)) ?_
      refine wH_all [11] (by rfl) (by kernel_rfl) (by simp) ⟨⟨by kernel_rfl, ?_⟩, trivial⟩
      obtain ⟨y5, hy5, hm⟩ := bindE hm
      refine sC 85 [pt b0, ii x10, ii x11] ent95 (c_sL03Ab hy5 F12 F13 F14) ?_
      rintro _ w15 ⟨rfl, hc13⟩
      replace F12 := F12.c hc13
      replace F13 := F13.c hc13
      replace F14 := F14.c hc13
      replace F15 := F15.c hc13
      replace F16 := F16.c hc13
      replace F17 := F17.c hc13
      replace F18 := F18.c hc13
      replace F23 := F23.c hc13
      replace F20 := F20.c hc13
      have hSz := hS
      replace hS := hS.inS hc13 inNil
      replace hB := hB.q hc13
      refine ⟨.bool (y5), rfl, ?_⟩
      refine wS_end (by kernel_rfl) <| eX_KH hS <| wD <| eX_tail ?_
      obtain ⟨x12, hx12, hm⟩ := bindE hm
      refine sI 86 (ad b3) l8.length (Int.toNat ((y1.length : Int))) .i64 x3 sl120 ((F20.sl encB_ok).is hx12) <| wS_storeEl (x := x12) y5 (T := 4) (U := 4) (cap := (Int.toNat ((y1.length : Int)))) (j := 0) (A := (ad b3)) (v := .bool (y5)) (vs := [.bool (y5)]) (m := x3) (by kernel_rfl) (by rfl) sz4 (by rfl) encB_ok F20 hx12 (bl rfl) (by rfl) ?_
      intro w16 F24 hc14
      replace F12 := F12.chg hc14 (Dj.of L0_0 G6)
      replace F13 := F13.chg hc14 (Dj.of L0_1 G6)
      replace F14 := F14.chg hc14 (dj1 (Dj.of L0 G6))
      replace F15 := F15.chg hc14 D11
      replace F16 := F16.chg hc14 (dj1 D12)
      replace F17 := F17.chg hc14 D13
      replace F18 := F18.chg hc14 D14
      replace F23 := F23.chg hc14 D15
      replace hB := hB.inS hc14 (inLow G6)
      clear F20
      rewrite [show l8.length = (l8.set (Int.toNat x3) y5).length from (List.length_set ..).symm]
      refine wE <| eX_block <| eX_then <| cW_region <| wP 3 [(11, ii (wr (x3 + 1))), (47, ii (wr (x3 + 1))), (46, ii x3)] <| wE ?_
      obtain rfl := someE (x := (Ctl.next ((wr (x3 + 1), l7.set (Int.toNat x3) false, l8.set (Int.toNat x3) y5)))) hm
      exact eX_next hx3 (fun hst => ⟨wr (x3 + 1), l7.set (Int.toNat x3) false, l8.set (Int.toNat x3) y5, rfl, fO hst, F12, F13, F14, F15, F16, F17, F18, F23, F24, hB⟩)
     have hm := condF hb3 hm
     rewrite [hb3]
     refine wP 9 [(72, .bool (false)), (71, undef), (70, undef), (69, undef), (68, .bool (false)), (67, .bool (false)), (66, undef), (65, undef), (64, undef)] ?_
     obtain ⟨x13, hx13, hm⟩ := bindE hm
     refine sI 73 (ad b2) l7.length (Int.toNat ((y1.length : Int))) .i64 x3 sl120 ((F19.sl encB_ok).is hx13) <| wS_storeEl (x := x13) false (T := 4) (U := 4) (cap := (Int.toNat ((y1.length : Int)))) (j := 0) (A := (ad b2)) (v := .bool (false)) (vs := [.bool (false)]) (m := x3) (by kernel_rfl) (by rfl) sz4 (by rfl) encB_ok F19 hx13 (bl rfl) (by rfl) ?_
     intro w17 F25 hc15
     replace F12 := F12.chg hc15 (Dj.of L0_0 G5)
     replace F13 := F13.chg hc15 (Dj.of L0_1 G5)
     replace F14 := F14.chg hc15 (dj1 (Dj.of L0 G5))
     replace F15 := F15.chg hc15 D7
     replace F16 := F16.chg hc15 (dj1 D8)
     replace F17 := F17.chg hc15 D9
     replace F18 := F18.chg hc15 D10
     replace F20 := F20.chg hc15 (D15).symm
     replace hB := hB.inS hc15 (inLow G5)
     clear F19
     rewrite [show l7.length = (l7.set (Int.toNat x3) false).length from (List.length_set ..).symm]
     refine wN <| cP [(0, pt b0), (3, .slice A1 y1.length cap1), (4, pt b1), (5, ii x1), (6, ii y2.1), (7, ii y2.2.1), (9, .slice (ad b2) (l7.set (Int.toNat x3) false).length (Int.toNat ((y1.length : Int)))), (10, .slice (ad b3) l8.length (Int.toNat ((y1.length : Int)))), (11, ii x3)] (fun a5 => ?_)
     refine cW_drawnTail [] 12 (by kernel_rfl) (by kernel_rfl) (fun w18 hc16 => ?_)
     replace F12 := F12.c hc16
     replace F13 := F13.c hc16
     replace F14 := F14.c hc16
     replace F15 := F15.c hc16
     replace F16 := F16.c hc16
     replace F17 := F17.c hc16
     replace F18 := F18.c hc16
     replace F25 := F25.c hc16
     replace F20 := F20.c hc16
     replace hB := hB.q hc16
     have hS := Chg.refl [] w18
     have Z19 := F12
     have Z20 := F13
     have Z21 := F14
     have Z22 := F15
     have Z23 := F16
     have Z24 := F17
     have Z25 := F18
     have Z26 := F25
     have Z27 := F20
     refine hT [0, 1, 2, 3, 4] [(78, ii x1), (77, .slice A1 y1.length cap1), (76, pt b0), (75, ii x3), (74, .slice (ad b3) l8.length (Int.toNat ((y1.length : Int))))] ?_
     obtain ⟨x14, hx14, hm⟩ := bindE hm
     refine hI 5 79 A1 y1.length cap1 .i64 x1 sl24 ((F15.sl encI_ok).is hx14) <| hL 6 80 (elA A1 1 (x1) 0) (ii x14) vt2 (fun W hW => Sl.cell ((Z22.c hW).sl encI_ok) hx14 0 (by rfl)) ?_
     refine hT [7, 8] [(82, ii x3), (81, .slice A1 y1.length cap1)] ?_
     obtain ⟨x15, hx15, hm⟩ := bindE hm
     refine hI 9 83 A1 y1.length cap1 .i64 x3 sl24 ((F15.sl encI_ok).is hx15) <| hL 10 84 (elA A1 1 (x3) 0) (ii x15) vt2 (fun W hW => Sl.cell ((Z22.c hW).sl encI_ok) hx15 0 (by rfl)) ?_
     refine wH_all [11] (by rfl) (by kernel_rfl) (by simp) ⟨⟨by kernel_rfl, ?_⟩, trivial⟩
     obtain ⟨y6, hy6, hm⟩ := bindE hm
     refine sC 85 [pt b0, ii x14, ii x15] ent95 (c_sL03Ab hy6 F12 F13 F14) ?_
     rintro _ w19 ⟨rfl, hc17⟩
     replace F12 := F12.c hc17
     replace F13 := F13.c hc17
     replace F14 := F14.c hc17
     replace F15 := F15.c hc17
     replace F16 := F16.c hc17
     replace F17 := F17.c hc17
     replace F18 := F18.c hc17
     replace F25 := F25.c hc17
     replace F20 := F20.c hc17
     have hSz := hS
     replace hS := hS.inS hc17 inNil
     replace hB := hB.q hc17
     refine ⟨.bool (y6), rfl, ?_⟩
     refine wS_end (by kernel_rfl) <| eX_KH hS <| wD <| eX_tail ?_
     obtain ⟨x16, hx16, hm⟩ := bindE hm
     refine sI 86 (ad b3) l8.length (Int.toNat ((y1.length : Int))) .i64 x3 sl120 ((F20.sl encB_ok).is hx16) <| wS_storeEl (x := x16) y6 (T := 4) (U := 4) (cap := (Int.toNat ((y1.length : Int)))) (j := 0) (A := (ad b3)) (v := .bool (y6)) (vs := [.bool (y6)]) (m := x3) (by kernel_rfl) (by rfl) sz4 (by rfl) encB_ok F20 hx16 (bl rfl) (by rfl) ?_
     intro w20 F26 hc18
     replace F12 := F12.chg hc18 (Dj.of L0_0 G6)
     replace F13 := F13.chg hc18 (Dj.of L0_1 G6)
     replace F14 := F14.chg hc18 (dj1 (Dj.of L0 G6))
     replace F15 := F15.chg hc18 D11
     replace F16 := F16.chg hc18 (dj1 D12)
     replace F17 := F17.chg hc18 D13
     replace F18 := F18.chg hc18 D14
     replace F25 := F25.chg hc18 D15
     replace hB := hB.inS hc18 (inLow G6)
     clear F20
     rewrite [show l8.length = (l8.set (Int.toNat x3) y6).length from (List.length_set ..).symm]
     refine wE <| eX_block <| eX_then <| cW_region <| wP 3 [(11, ii (wr (x3 + 1))), (47, ii (wr (x3 + 1))), (46, ii x3)] <| wE ?_
     obtain rfl := someE (x := (Ctl.next ((wr (x3 + 1), l7.set (Int.toNat x3) false, l8.set (Int.toNat x3) y6)))) hm
     exact eX_next hx3 (fun hst => ⟨wr (x3 + 1), l7.set (Int.toNat x3) false, l8.set (Int.toNat x3) y6, rfl, fO hst, F12, F13, F14, F15, F16, F17, F18, F25, F26, hB⟩)
    have hm := condF hb2 hm
    refine cW_exit <| eX_then_exit ?_
    obtain rfl := someE (x := (Ctl.out ((l7, l8)))) hm
    refine eX_outX hx3 (fun hr3 => ?_)
    replace hr3 := hr3.symm
    subst hr3
    refine eX_block_hit ?_
    exact eX_J (fun hst => ⟨l7, l8, rfl, fO hst, F12, F13, F14, F15, F16, F17, F18, F19, F20, hB⟩)
   rintro a' w21 ⟨l5, l6, hJ, hF3, F27, F28, F29, F30, F31, F32, F33, F34, F35, hB⟩
   subst hJ
   refine gX hF3 <| eX_then <| sR <| wP 4 [(90, .pointer (some ⟨b1, 1, none⟩)), (89, pt b1), (88, pt b1), (87, pt b1)] <| sL 91 ⟨b1, 1, none⟩ (.slice A5 l3.length cap5) vt92 ((F31).cell 1) <| wP 1 [(92, .slice (ad b2) l5.length (Int.toNat ((y1.length : Int))))] <| wS_row1 (k := 1) (enc := encB) (l := l5) (d := 93) (t := 92) (T := 120) (B := (ad b2)) (c := (Int.toNat ((y1.length : Int)))) (by kernel_rfl) el92 F34 ?_
   intro b4 w22 G7 F36 hc19
   have D16 : Dj fp1 ([b4] ++ [b2]) := Dj.app (Dj.of F30.low (low1 G7)) D7
   have D17 : Dj [b1] ([b4] ++ [b2]) := Dj.app (Dj.of (lt1 F31.lt) (low1 G7)) D8
   have D18 : Dj (fp4 ++ fr3) ([b4] ++ [b2]) := Dj.app (Dj.of F32.low (low1 G7)) D9
   have D19 : Dj (fp5 ++ fr4) ([b4] ++ [b2]) := Dj.app (Dj.of F33.low (low1 G7)) D10
   have D20 : Dj [b3] ([b4] ++ [b2]) := Dj.app (Dj.of F35.low (low1 G7)) (D15).symm
   replace F27 := F27.c hc19
   replace F28 := F28.c hc19
   replace F29 := F29.c hc19
   replace F30 := F30.c hc19
   replace F31 := F31.c hc19
   replace F32 := F32.c hc19
   replace F33 := F33.c hc19
   replace F34 := F34.c hc19
   replace F35 := F35.c hc19
   replace G7 := Nat.le_trans hB.size G7
   replace G7 := lowApp (low1 G7) G5
   replace hB := hB.q hc19
   replace F34 := (F34.sl encB_ok)
   obtain ⟨_, hk3, hm⟩ := bindE hm
   replace hk3 := apE hk3
   refine wS_appendR (k := 1) (enc := encB) (ll := (l3 : List (List Bool))) (ll2 := (([l5] : List (List Bool)) : List (List Bool))) (d := 94) (t := 92) (T := 120) (A := A5) (A2 := (ad b4)) (cap := cap5) (cap2 := 1) (by kernel_rfl) el92 F32 F36 (by rfl) D18 hk3 ?_
   intro w23 fp6 A7 cap7 F37 hc20 hp1
   have G8 := lowApp (low_ap (low_inl G3) hB.size hp1) (lowApp (low_inr G3) (low_inr G7))
   have D21 : Dj fp1 (fp6 ++ (fr3 ++ [b2])) := Dj.app (Dj.ap (Dj.inl D2) F30.low hp1) (Dj.app (Dj.inr D2) (Dj.inr D16))
   have D22 : Dj [b1] (fp6 ++ (fr3 ++ [b2])) := Dj.app (Dj.ap (Dj.inl D3) (lt1 F31.lt) hp1) (Dj.app (Dj.inr D3) (Dj.inr D17))
   have D23 : Dj (fp5 ++ fr4) (fp6 ++ (fr3 ++ [b2])) := Dj.app (Dj.ap (Dj.inl D4) F33.low hp1) (Dj.app (Dj.inr D4) (Dj.inr D19))
   have D24 : Dj [b3] (fp6 ++ (fr3 ++ [b2])) := Dj.app (Dj.ap (Dj.inl (D13).symm) F35.low hp1) (Dj.app (Dj.inr (D13).symm) (Dj.inr D20))
   replace F27 := F27.chg hc20 (Dj.inl (Dj.of L0_0 G3))
   replace F28 := F28.chg hc20 (Dj.inl (Dj.of L0_1 G3))
   replace F29 := F29.chg hc20 (dj1 (Dj.inl (Dj.of L0 G3)))
   replace F30 := F30.chg hc20 (Dj.inl D2)
   replace F31 := F31.chg hc20 (dj1 (Dj.inl D3))
   replace F33 := F33.chg hc20 (Dj.inl D4)
   replace F35 := F35.chg hc20 (Dj.inl (D13).symm)
   replace hB := hB.inS hc20 (memS_inl (inLow G3))
   refine wP 2 [(96, .pointer (some ⟨b1, 1, none⟩)), (95, pt b1)] <| wS_store (T := 92) (g := b1) (o := 1) (ad := ⟨b1, 1, none⟩) (v := .slice A7 (l3 ++ (([l5] : List (List Bool)))).length cap7) (vs := [.slice A7 (l3 ++ (([l5] : List (List Bool)))).length cap7]) (by kernel_rfl) (by rfl) sz92 (by rfl) (by rfl) F31 (bl rfl) ?_
   intro w24 F38 hc21
   replace F27 := F27.chg hc21 (Dj.of L0_0 (low1 G2))
   replace F28 := F28.chg hc21 (Dj.of L0_1 (low1 G2))
   replace F29 := F29.chg hc21 (dj1 (Dj.of L0 (low1 G2)))
   replace F30 := F30.chg hc21 D1
   replace F33 := F33.chg hc21 (D6).symm
   replace F35 := F35.chg hc21 (D12).symm
   replace F37 := F37.chg hc21 (D22).symm
   replace hB := hB.inS hc21 (inLow (low1 G2))
   replace F38 : Cl w24 b1 94 [.slice A1 y1.length cap1, .slice A7 (l3 ++ (([l5] : List (List Bool)))).length cap7, .slice A6 l4.length cap6] := F38
   clear F31
   refine wN <| cW_region <| wP 4 [(100, .pointer (some ⟨b1, 2, none⟩)), (99, pt b1), (98, pt b1), (97, pt b1)] <| sL 101 ⟨b1, 2, none⟩ (.slice A6 l4.length cap6) vt92 ((F38).cell 2) <| wP 1 [(102, .slice (ad b3) l6.length (Int.toNat ((y1.length : Int))))] <| wS_row1 (k := 1) (enc := encB) (l := l6) (d := 103) (t := 92) (T := 120) (B := (ad b3)) (c := (Int.toNat ((y1.length : Int)))) (by kernel_rfl) el92 F35 ?_
   intro b5 w25 G9 F39 hc22
   have D25 : Dj fp1 ([b5] ++ [b3]) := Dj.app (Dj.of F30.low (low1 G9)) D11
   have D26 : Dj [b1] ([b5] ++ [b3]) := Dj.app (Dj.of (lt1 F38.lt) (low1 G9)) D12
   have D27 : Dj (fp5 ++ fr4) ([b5] ++ [b3]) := Dj.app (Dj.of F33.low (low1 G9)) D14
   have D28 : Dj (fp6 ++ (fr3 ++ [b2])) ([b5] ++ [b3]) := Dj.app (Dj.of F37.low (low1 G9)) (D24).symm
   replace F27 := F27.c hc22
   replace F28 := F28.c hc22
   replace F29 := F29.c hc22
   replace F30 := F30.c hc22
   replace F38 := F38.c hc22
   replace F33 := F33.c hc22
   replace F35 := F35.c hc22
   replace F37 := F37.c hc22
   replace G9 := Nat.le_trans hB.size G9
   replace G9 := lowApp (low1 G9) G6
   replace hB := hB.q hc22
   replace F35 := (F35.sl encB_ok)
   obtain ⟨_, hk4, hm⟩ := bindE hm
   replace hk4 := apE hk4
   refine wS_appendR (k := 1) (enc := encB) (ll := (l4 : List (List Bool))) (ll2 := (([l6] : List (List Bool)) : List (List Bool))) (d := 104) (t := 92) (T := 120) (A := A6) (A2 := (ad b5)) (cap := cap6) (cap2 := 1) (by kernel_rfl) el92 F33 F39 (by rfl) D27 hk4 ?_
   intro w26 fp7 A8 cap8 F40 hc23 hp2
   have G10 := lowApp (low_ap (low_inl G4) hB.size hp2) (lowApp (low_inr G4) (low_inr G9))
   have D29 : Dj fp1 (fp7 ++ (fr4 ++ [b3])) := Dj.app (Dj.ap (Dj.inl D5) F30.low hp2) (Dj.app (Dj.inr D5) (Dj.inr D25))
   have D30 : Dj [b1] (fp7 ++ (fr4 ++ [b3])) := Dj.app (Dj.ap (Dj.inl D6) (lt1 F38.lt) hp2) (Dj.app (Dj.inr D6) (Dj.inr D26))
   have D31 : Dj (fp6 ++ (fr3 ++ [b2])) (fp7 ++ (fr4 ++ [b3])) := Dj.app (Dj.ap (Dj.inl (D23).symm) F37.low hp2) (Dj.app (Dj.inr (D23).symm) (Dj.inr D28))
   replace F27 := F27.chg hc23 (Dj.inl (Dj.of L0_0 G4))
   replace F28 := F28.chg hc23 (Dj.inl (Dj.of L0_1 G4))
   replace F29 := F29.chg hc23 (dj1 (Dj.inl (Dj.of L0 G4)))
   replace F30 := F30.chg hc23 (Dj.inl D5)
   replace F38 := F38.chg hc23 (dj1 (Dj.inl D6))
   replace F37 := F37.chg hc23 (Dj.inl (D23).symm)
   replace hB := hB.inS hc23 (memS_inl (inLow G4))
   refine wP 2 [(106, .pointer (some ⟨b1, 2, none⟩)), (105, pt b1)] <| wS_store (T := 92) (g := b1) (o := 2) (ad := ⟨b1, 2, none⟩) (v := .slice A8 (l4 ++ (([l6] : List (List Bool)))).length cap8) (vs := [.slice A8 (l4 ++ (([l6] : List (List Bool)))).length cap8]) (by kernel_rfl) (by rfl) sz92 (by rfl) (by rfl) F38 (bl rfl) ?_
   intro w27 F41 hc24
   replace F27 := F27.chg hc24 (Dj.of L0_0 (low1 G2))
   replace F28 := F28.chg hc24 (Dj.of L0_1 (low1 G2))
   replace F29 := F29.chg hc24 (dj1 (Dj.of L0 (low1 G2)))
   replace F30 := F30.chg hc24 D1
   replace F37 := F37.chg hc24 (D22).symm
   replace F40 := F40.chg hc24 (D30).symm
   replace hB := hB.inS hc24 (inLow (low1 G2))
   replace F41 : Cl w27 b1 94 [.slice A1 y1.length cap1, .slice A7 (l3 ++ (([l5] : List (List Bool)))).length cap7, .slice A8 (l4 ++ (([l6] : List (List Bool)))).length cap8] := F41
   clear F38
   refine wE <| eX_block <| eX_then <| cP [(0, pt b0), (3, .slice A1 y1.length cap1), (4, pt b1), (5, ii x1)] (fun a6 => ?_)
   refine cW_region <| wP 3 [(5, ii (wr (x1 + 1))), (25, ii (wr (x1 + 1))), (24, ii x1)] <| wE ?_
   obtain rfl := someE (x := (Ctl.next ((wr (x1 + 1), l3 ++ (([l5] : List (List Bool))), l4 ++ (([l6] : List (List Bool))))))) hm
   exact eX_next hx1 (fun hst => ⟨wr (x1 + 1), l3 ++ (([l5] : List (List Bool))), A7, cap7, fp6, (fr3 ++ [b2]), l4 ++ (([l6] : List (List Bool))), A8, cap8, fp7, (fr4 ++ [b3]), rfl, fO hst, F27, F28, F29, F30, F41, F37, F40, G8, G10, D21, D22, (D31).symm, D29, D30, hB⟩)
  have hm := condF hb1 hm
  refine cW_exit <| eX_then_exit ?_
  obtain rfl := someE (x := (Ctl.out ((l3, l4)))) hm
  refine eX_outX hx1 (fun hr4 => ?_)
  replace hr4 := hr4.symm
  subst hr4
  refine eX_block_hit ?_
  exact eX_J (fun hst => ⟨l3, A5, cap5, fp4, fr3, l4, A6, cap6, fp5, fr4, rfl, fO hst, F6, F7, F8, F9, G3, G4, D2, D3, D4, D5, D6, hB⟩)
 rintro a' w28 ⟨l1, A3, cap3, fp2, fr1, l2, A4, cap4, fp3, fr2, hJ, hF4, F42, F43, F44, F45, G11, G12, D32, D33, D34, D35, D36, hB⟩
 subst hJ
 refine gX hF4 <| eX_then <| sR <| wP 2 [(2, pt b1), (107, pt b1)] <| wN <| cW_ret ?_
 obtain rfl := someE (x := ((y1, l1, l2))) hm
 refine rA (pt b1) 2 ?_
 exact ⟨b1, A1, cap1, fp1, A3, cap3, fp2, fr1, A4, cap4, fp3, fr2, rfl, F43, G2, F42, G1, F44, G11, F45, G12, (D1).symm, D33, D36, D32, D35, (D34).symm, hB⟩

end Go.Proofs.YtbfjekmefcpkmaaDoor
