/- Printed walks: impl.LongestChain, cmp.isNaN[int64], cmp.Compare[int64], impl.LeftEdge$1, slices.insertionSortCmpFunc[int64], slices.stableCmpFunc[int64], slices.SortStableFunc[[]int64,int64], impl.LeftEdge$2, slices.IndexFunc[[]int64,int64], slices.DeleteFunc[[]int64,int64], impl.LeftEdge, impl.NetsOf, impl.MustBeAbove, laws.b10Has, spec.l00Put, spec.l03Span, spec.l03Nets, (*spec.l00Src).one. -/
import Derived.Test.YtbfjekmefcpkmaaDoorProg
import Derived.Test.YtbfjekmefcpkmaaDoorWCn03
set_option linter.unusedSimpArgs false
set_option linter.unusedVariables false
namespace Go.Proofs.YtbfjekmefcpkmaaDoor
open Go.RowKit
attribute [local irreducible] wS cW eX wH

theorem ent46 : Ent Tryd.prog 46 := fun _ => by kernel_rfl
theorem ent48 : Ent Tryd.prog 48 := fun _ => by kernel_rfl
theorem ent49 : Ent Tryd.prog 49 := fun _ => by kernel_rfl
theorem ent51 : Ent Tryd.prog 51 := fun _ => by kernel_rfl
theorem ent52 : Ent Tryd.prog 52 := fun _ => by kernel_rfl
theorem ent53 : Ent Tryd.prog 53 := fun _ => by kernel_rfl
theorem ent54 : Ent Tryd.prog 54 := fun _ => by kernel_rfl
theorem ent87 : Ent Tryd.prog 87 := fun _ => by kernel_rfl
theorem ent88 : Ent Tryd.prog 88 := fun _ => by kernel_rfl
theorem ent89 : Ent Tryd.prog 89 := fun _ => by kernel_rfl
theorem ent92 : Ent Tryd.prog 92 := fun _ => by kernel_rfl
theorem ent108 : Ent Tryd.prog 108 := fun _ => by kernel_rfl

set_option maxRecDepth 100000 in
theorem c_iLonge {w0 l0_0 A0_0 cap0_0 fp0_0 l0_1 A0_1 cap0_1 fp0_1} {r : (Int) × Bool} (hm : m_iLonge l0_0 l0_1 = some r) (F0_0 : S1 w0 fp0_0 A0_0 l0_0) (K0_0 : l0_0.length ≤ cap0_0) (F0_1 : S1 w0 fp0_1 A0_1 l0_1) (K0_1 : l0_1.length ≤ cap0_1) :
  Calls Tryd.prog 12 #[.agg #[.slice A0_0 l0_0.length cap0_0, .slice A0_1 l0_1.length cap0_1]] w0 fun e w' => e = .returned (.tuple #[ii r.1, .bool (r.2)]) ∧ Chg [] w0 w' := by
 have L0_0 := F0_0.low
 have L0_1 := F0_1.low
 have hB : Chg [] w0 w0 := Chg.refl _ _
 unfold m_iLonge at hm
 refine enterE (N := 59) Tryd.func12 (by rfl) Tryd.ntmps12 (by simp) [(0, .agg #[.slice A0_0 l0_0.length cap0_0, .slice A0_1 l0_1.length cap0_1])] (by rfl) (by kernel_rfl) (fun a => ?_)
 refine sR <| wS_box (d := 1) (T := 26) (x := .agg #[.slice A0_0 l0_0.length cap0_0, .slice A0_1 l0_1.length cap0_1]) (by kernel_rfl) ?_
 intro b1 w1 G1 F1 hc1
 replace F1 : Cl w1 b1 26 [.slice A0_0 l0_0.length cap0_0, .slice A0_1 l0_1.length cap0_1] := F1
 replace F0_0 := F0_0.c hc1
 replace F0_1 := F0_1.c hc1
 replace G1 := Nat.le_trans hB.size G1
 replace hB := hB.q hc1
 refine wP 2 [(3, .bool (false)), (2, ii 0)] <| wN <| cW_seq <| sR <| wS_loadA (d := 10) (T := 26) (ad := ⟨b1, 0, none⟩) (vs := [.slice A0_0 l0_0.length cap0_0, .slice A0_1 l0_1.length cap0_1]) (by kernel_rfl) vt26 (fun i u hu => box_cells F1 0 hu (by rfl)) ?_
 obtain ⟨y1, hy1, hm⟩ := bindE hm
 refine sC 11 [.agg #[.slice A0_0 l0_0.length cap0_0, .slice A0_1 l0_1.length cap0_1]] ent36 (c_iValid hy1 F0_0 K0_0 F0_1 K0_1) ?_
 rintro _ w2 ⟨rfl, hc2⟩
 replace F0_0 := F0_0.c hc2
 replace F0_1 := F0_1.c hc2
 replace F1 := F1.c hc2
 replace hB := hB.q hc2
 refine ⟨.bool (y1), rfl, ?_⟩
 refine wP 1 [(12, .bool (!y1))] <| wN <| cC (!y1) (fun hb1 => ?_) (fun hb1 => ?_)
 ·have hm := condT hb1 hm
  refine sR <| wP 2 [(3, .bool (false)), (2, ii 0)] <| wN <| cW_ret <| eX_then_ret ?_
  obtain rfl := someE (x := ((0, false))) hm
  refine rB (ii 0) (.bool (false)) 2 3 ?_
  exact ⟨rfl, hB⟩
 have hm := condF hb1 hm
 refine cW_skip <| eX_then <| sR ?_
 obtain ⟨y2, hy2, hm⟩ := bindE hm
 refine sC 13 [pt b1] ent42 (c_iChannAbove hy2 F0_0 F0_1 F1) ?_
 rintro _ w3 ⟨A1, cap1, fp1, fr1, rfl, F2, G2, hc3⟩
 have D1 := Dj.of (lt1 F1.lt) G2
 replace F0_0 := F0_0.c hc3
 replace F0_1 := F0_1.c hc3
 replace F1 := F1.c hc3
 replace G2 := low_le hB.size G2
 replace hB := hB.q hc3
 refine ⟨.slice A1 y2.length cap1, rfl, ?_⟩
 refine wP 1 [(4, .slice A1 y2.length cap1)] <| wN <| cW_seq <| sR <| wP 1 [(14, .slice A1 y2.length cap1)] ?_
 obtain ⟨y3, hy3, hm⟩ := bindE hm
 refine sC 15 [.slice A1 y2.length cap1] ent45 (c_iGraphShort hy3 (F2.slr encI_ok)) ?_
 rintro _ w4 ⟨rfl, hc4⟩
 replace F0_0 := F0_0.c hc4
 replace F0_1 := F0_1.c hc4
 replace F1 := F1.c hc4
 replace F2 := F2.c hc4
 replace hB := hB.q hc4
 refine ⟨ii y3, rfl, ?_⟩
 refine wP 1 [(16, .bool (decide (y3 > 0)))] <| wN <| cC (decide (y3 > 0)) (fun hb2 => ?_) (fun hb2 => ?_)
 ·have hm := condT hb2 hm
  refine sR <| wP 2 [(3, .bool (false)), (2, ii 0)] <| wN <| cW_ret <| eX_then_ret ?_
  obtain rfl := someE (x := ((0, false))) hm
  refine rB (ii 0) (.bool (false)) 2 3 ?_
  exact ⟨rfl, hB⟩
 have hm := condF hb2 hm
 refine cW_skip <| eX_then <| sR <| wP 2 [(18, ii (y2.length : Int)), (17, .slice A1 y2.length cap1)] ?_
 obtain ⟨_, hk1, hm⟩ := bindE hm
 replace hk1 := mkE hk1
 refine wS_make (enc := encI) (x0 := (0 : Int)) (d := 19) (t := 24) (T := 2) (k1 := .i64) (k2 := .i64) (m := (y2.length : Int)) (by kernel_rfl) el24 encI_ok (by rfl) hk1.1 hk1.2 ?_
 intro b2 w5 G3 F3 hc5
 have D2 := Dj.of (lt1 F1.lt) (low1 G3)
 have D3 := Dj.of F2.low (low1 G3)
 replace F0_0 := F0_0.c hc5
 replace F0_1 := F0_1.c hc5
 replace F1 := F1.c hc5
 replace F2 := F2.c hc5
 replace G3 := Nat.le_trans hB.size G3
 replace G3 := low1 G3
 replace hB := hB.q hc5
 refine wP 1 [(5, .slice (ad b2) (List.replicate (Int.toNat ((y2.length : Int))) ((0 : Int))).length (Int.toNat ((y2.length : Int))))] <| wN <| cW_seq <| sR <| wP 3 [(22, ii 0), (21, ii (y2.length : Int)), (20, .slice A1 y2.length cap1)] <| wN ?_
 obtain ⟨r1, hr1, hm⟩ := bindE hm
 have hm1 := hm
 refine cW_cut (fun a' w' => ∃ l1 : List Int, l1 = r1 ∧ Fr 59 [(1, pt b1), (5, .slice (ad b2) l1.length (Int.toNat ((y2.length : Int))))] a' ∧ S1 w' fp0_0 A0_0 l0_0 ∧ S1 w' fp0_1 A0_1 l0_1 ∧ Cl w' b1 26 [.slice A0_0 l0_0.length cap0_0, .slice A0_1 l0_1.length cap0_1] ∧ O1 2 w' [b2] (ad b2) (Int.toNat ((y2.length : Int))) l1 ∧ Chg [] w0 w') ?_ ?_
 ·refine cW_block ?_
  refine cW_loop _ (fun (s1 : Int × (List Int)) a' w' => ∃ x1 : Int, ∃ l2 : List Int, (x1, l2) = s1 ∧ Fr 59 [(1, pt b1), (4, .slice A1 y2.length cap1), (5, .slice (ad b2) l2.length (Int.toNat ((y2.length : Int)))), (21, ii (y2.length : Int)), (22, ii x1)] a' ∧ S1 w' fp0_0 A0_0 l0_0 ∧ S1 w' fp0_1 A0_1 l0_1 ∧ Cl w' b1 26 [.slice A0_0 l0_0.length cap0_0, .slice A0_1 l0_1.length cap0_1] ∧ OwR 1 encI 56 3 w' fp1 fr1 A1 cap1 y2 ∧ O1 2 w' [b2] (ad b2) (Int.toNat ((y2.length : Int))) l2 ∧ Chg [] w0 w') hr1 (fun hst => ⟨0, List.replicate (Int.toNat ((y2.length : Int))) ((0 : Int)), rfl, fO hst, F0_0, F0_1, F1, F2, F3, hB⟩) ?_
  rintro _ c1 a' w6 ⟨x1, l2, rfl, hF1, F4, F5, F6, F7, F8, hB⟩ hx1
  refine gO hF1 ?_
  have hm := hx1
  unfold m_iLonge_s9 at hm
  refine sR <| wP 1 [(23, .bool (decide (x1 < ((y2.length : Int)))))] <| wN <| cW_seq <| cC (decide (x1 < ((y2.length : Int)))) (fun hb3 => ?_) (fun hb3 => ?_)
  ·have hm := condT hb3 hm
   refine cW_skip <| eX_then <| cW_seq <| cW_block <| sR <| wP 3 [(26, ii 0), (25, ii (y2.length : Int)), (24, .slice A1 y2.length cap1)] <| wN ?_
   obtain ⟨r2, hr2, hm⟩ := bindE hm
   have hm2 := hm
   refine cW_cut (fun a' w' => ∃ l3 : List Int, l3 = r2 ∧ Fr 59 [(1, pt b1), (4, .slice A1 y2.length cap1), (5, .slice (ad b2) l3.length (Int.toNat ((y2.length : Int)))), (21, ii (y2.length : Int)), (22, ii x1)] a' ∧ S1 w' fp0_0 A0_0 l0_0 ∧ S1 w' fp0_1 A0_1 l0_1 ∧ Cl w' b1 26 [.slice A0_0 l0_0.length cap0_0, .slice A0_1 l0_1.length cap0_1] ∧ OwR 1 encI 56 3 w' fp1 fr1 A1 cap1 y2 ∧ O1 2 w' [b2] (ad b2) (Int.toNat ((y2.length : Int))) l3 ∧ Chg [] w0 w') ?_ ?_
   ·refine cW_block ?_
    refine cW_loop _ (fun (s2 : Int × (List Int)) a' w' => ∃ x2 : Int, ∃ l4 : List Int, (x2, l4) = s2 ∧ Fr 59 [(1, pt b1), (4, .slice A1 y2.length cap1), (5, .slice (ad b2) l4.length (Int.toNat ((y2.length : Int)))), (21, ii (y2.length : Int)), (22, ii x1), (24, .slice A1 y2.length cap1), (25, ii (y2.length : Int)), (26, ii x2)] a' ∧ S1 w' fp0_0 A0_0 l0_0 ∧ S1 w' fp0_1 A0_1 l0_1 ∧ Cl w' b1 26 [.slice A0_0 l0_0.length cap0_0, .slice A0_1 l0_1.length cap0_1] ∧ OwR 1 encI 56 3 w' fp1 fr1 A1 cap1 y2 ∧ O1 2 w' [b2] (ad b2) (Int.toNat ((y2.length : Int))) l4 ∧ Chg [] w0 w') hr2 (fun hst => ⟨0, l2, rfl, fO hst, F4, F5, F6, F7, F8, hB⟩) ?_
    rintro _ c2 a' w7 ⟨x2, l4, rfl, hF2, F9, F10, F11, F12, F13, hB⟩ hx2
    refine gO hF2 ?_
    have hm := hx2
    unfold m_iLonge_s12 at hm
    refine sR <| wP 1 [(27, .bool (decide (x2 < ((y2.length : Int)))))] <| wN <| cW_seq <| cC (decide (x2 < ((y2.length : Int)))) (fun hb4 => ?_) (fun hb4 => ?_)
    ·have hm := condT hb4 hm
     refine cW_skip <| eX_then <| cW_seq <| cW_block <| sR <| wP 1 [(28, ii x2)] ?_
     obtain ⟨x3, hx3, hm⟩ := bindE hm
     refine sI 29 A1 y2.length cap1 .i64 x2 sl64 ((F12.slr encI_ok).is hx3) ?_
     obtain ⟨A2, cap2, hc6, F14, K1⟩ := OwR.row F12 encI_ok hx3
     have G4 := low_inr G2
     have Dm1 := (F12.dj).symm
     refine sL 30 (elA A1 1 (x2) 0) (.slice A2 x3.length cap2) vt56 hc6 <| wP 2 [(7, .slice A2 x3.length cap2), (6, ii x2)] <| wN <| sR <| wP 3 [(33, ii 0), (32, ii (x3.length : Int)), (31, .slice A2 x3.length cap2)] <| wN ?_
     obtain ⟨r3, hr3, hm⟩ := bindE hm
     have hm3 := hm
     refine cW_cut (fun a' w' => ∃ l5 : List Int, l5 = r3 ∧ Fr 59 [(1, pt b1), (4, .slice A1 y2.length cap1), (5, .slice (ad b2) l5.length (Int.toNat ((y2.length : Int)))), (21, ii (y2.length : Int)), (22, ii x1), (24, .slice A1 y2.length cap1), (25, ii (y2.length : Int)), (26, ii x2)] a' ∧ S1 w' fp0_0 A0_0 l0_0 ∧ S1 w' fp0_1 A0_1 l0_1 ∧ Cl w' b1 26 [.slice A0_0 l0_0.length cap0_0, .slice A0_1 l0_1.length cap0_1] ∧ OwR 1 encI 56 3 w' fp1 fr1 A1 cap1 y2 ∧ O1 2 w' [b2] (ad b2) (Int.toNat ((y2.length : Int))) l5 ∧ Chg [] w0 w') ?_ ?_
     ·refine cW_block ?_
      refine cW_loop _ (fun (s3 : Int × (List Int)) a' w' => ∃ x4 : Int, ∃ l6 : List Int, (x4, l6) = s3 ∧ Fr 59 [(1, pt b1), (4, .slice A1 y2.length cap1), (5, .slice (ad b2) l6.length (Int.toNat ((y2.length : Int)))), (6, ii x2), (21, ii (y2.length : Int)), (22, ii x1), (24, .slice A1 y2.length cap1), (25, ii (y2.length : Int)), (26, ii x2), (31, .slice A2 x3.length cap2), (32, ii (x3.length : Int)), (33, ii x4)] a' ∧ S1 w' fp0_0 A0_0 l0_0 ∧ S1 w' fp0_1 A0_1 l0_1 ∧ Cl w' b1 26 [.slice A0_0 l0_0.length cap0_0, .slice A0_1 l0_1.length cap0_1] ∧ OwR 1 encI 56 3 w' fp1 fr1 A1 cap1 y2 ∧ O1 2 w' [b2] (ad b2) (Int.toNat ((y2.length : Int))) l6 ∧ S1 w' fr1 A2 x3 ∧ Chg [] w0 w') hr3 (fun hst => ⟨0, l4, rfl, fO hst, F9, F10, F11, F12, F13, F14, hB⟩) ?_
      rintro _ c3 a' w8 ⟨x4, l6, rfl, hF3, F15, F16, F17, F18, F19, F20, hB⟩ hx4
      refine gO hF3 ?_
      have hm := hx4
      unfold m_iLonge_s13 at hm
      refine sR <| wP 1 [(34, .bool (decide (x4 < ((x3.length : Int)))))] <| wN <| cW_seq <| cC (decide (x4 < ((x3.length : Int)))) (fun hb5 => ?_) (fun hb5 => ?_)
      ·have hm := condT hb5 hm
       refine cW_skip <| eX_then <| cW_seq <| cW_block <| sR ?_
       obtain ⟨x5, hx5, hm⟩ := bindE hm
       refine sI 35 A2 x3.length cap2 .i64 x4 sl56 (F20.is hx5) <| sL 36 (elA A2 1 (x4) 0) (ii x5) vt3 (Sl.cell F20 hx5 0 (by rfl)) <| wP 1 [(9, ii x5)] <| wN <| cW_drawnTail [] 12 (by kernel_rfl) (by kernel_rfl) (fun w9 hc7 => ?_)
       replace F15 := F15.c hc7
       replace F16 := F16.c hc7
       replace F17 := F17.c hc7
       replace F18 := F18.c hc7
       replace F19 := F19.c hc7
       replace F20 := F20.c hc7
       replace hB := hB.q hc7
       have hS := Chg.refl [] w9
       have Z1 := F15
       have Z2 := F16
       have Z3 := F17
       have Z4 := F18
       have Z5 := F19
       have Z6 := F20
       refine hT [0, 1, 2, 3] [(40, ii x2), (39, .slice (ad b2) l6.length (Int.toNat ((y2.length : Int)))), (38, ii x2), (37, .slice (ad b2) l6.length (Int.toNat ((y2.length : Int))))] ?_
       obtain ⟨x6, hx6, hm⟩ := bindE hm
       refine hI 4 41 (ad b2) l6.length (Int.toNat ((y2.length : Int))) .i64 x2 sl24 ((F19.sl encI_ok).is hx6) <| hL 5 42 (elA (ad b2) 1 (x2) 0) (ii x6) vt2 (fun W hW => Sl.cell ((Z5.c hW).sl encI_ok) hx6 0 (by rfl)) ?_
       refine hT [6, 7] [(44, ii x5), (43, .slice (ad b2) l6.length (Int.toNat ((y2.length : Int))))] ?_
       obtain ⟨x7, hx7, hm⟩ := bindE hm
       refine hI 8 45 (ad b2) l6.length (Int.toNat ((y2.length : Int))) .i64 x5 sl24 ((F19.sl encI_ok).is hx7) <| hL 9 46 (elA (ad b2) 1 (x5) 0) (ii x7) vt2 (fun W hW => Sl.cell ((Z5.c hW).sl encI_ok) hx7 0 (by rfl)) ?_
       refine hT [10, 11] [(48, ii (if (wr (x7 + 1)) > x6 then (wr (x7 + 1)) else x6)), (47, ii (wr (x7 + 1)))] <| wD <| eX_tail ?_
       obtain ⟨x8, hx8, hm⟩ := bindE hm
       refine sI 49 (ad b2) l6.length (Int.toNat ((y2.length : Int))) .i64 x2 sl24 ((F19.sl encI_ok).is hx8) <| wS_storeEl (x := x8) (if (wr (x7 + 1)) > x6 then (wr (x7 + 1)) else x6) (T := 2) (U := 2) (cap := (Int.toNat ((y2.length : Int)))) (j := 0) (A := (ad b2)) (v := ii (if (wr (x7 + 1)) > x6 then (wr (x7 + 1)) else x6)) (vs := [ii (if (wr (x7 + 1)) > x6 then (wr (x7 + 1)) else x6)]) (m := x2) (by kernel_rfl) (by rfl) sz2 (by rfl) encI_ok F19 hx8 (bl rfl) (by rfl) ?_
       intro w10 F21 hc8
       replace F15 := F15.chg hc8 (Dj.of L0_0 G3)
       replace F16 := F16.chg hc8 (Dj.of L0_1 G3)
       replace F17 := F17.chg hc8 (dj1 D2)
       replace F18 := F18.chg hc8 D3
       replace F20 := F20.chg hc8 ((Dj.inr (D3).symm)).symm
       replace hB := hB.inS hc8 (inLow G3)
       clear F19
       rewrite [show l6.length = (l6.set (Int.toNat x2) (if (wr (x7 + 1)) > x6 then (wr (x7 + 1)) else x6)).length from (List.length_set ..).symm]
       refine wE <| eX_block <| eX_then <| cP [(1, pt b1), (4, .slice A1 y2.length cap1), (5, .slice (ad b2) (l6.set (Int.toNat x2) (if (wr (x7 + 1)) > x6 then (wr (x7 + 1)) else x6)).length (Int.toNat ((y2.length : Int)))), (6, ii x2), (21, ii (y2.length : Int)), (22, ii x1), (24, .slice A1 y2.length cap1), (25, ii (y2.length : Int)), (26, ii x2), (31, .slice A2 x3.length cap2), (32, ii (x3.length : Int)), (33, ii x4)] (fun a1 => ?_)
       refine cW_region <| wP 2 [(33, ii (wr (x4 + 1))), (50, ii (wr (x4 + 1)))] <| wE ?_
       obtain rfl := someE (x := (Ctl.next ((wr (x4 + 1), l6.set (Int.toNat x2) (if (wr (x7 + 1)) > x6 then (wr (x7 + 1)) else x6))))) hm
       exact eX_next hx4 (fun hst => ⟨wr (x4 + 1), l6.set (Int.toNat x2) (if (wr (x7 + 1)) > x6 then (wr (x7 + 1)) else x6), rfl, fO hst, F15, F16, F17, F18, F21, F20, hB⟩)
      have hm := condF hb5 hm
      refine cW_exit <| eX_then_exit ?_
      obtain rfl := someE (x := Ctl.out l6) hm
      refine eX_outX hx4 (fun hr4 => ?_)
      replace hr4 := hr4.symm
      subst hr4
      refine eX_block_hit ?_
      exact eX_J (fun hst => ⟨l6, rfl, fO hst, F15, F16, F17, F18, F19, hB⟩)
     rintro a' w11 ⟨l5, hJ, hF4, F22, F23, F24, F25, F26, hB⟩
     subst hJ
     refine gX hF4 <| eX_block <| eX_then <| cW_region <| wP 2 [(26, ii (wr (x2 + 1))), (51, ii (wr (x2 + 1)))] <| wE ?_
     obtain rfl := someE (x := (Ctl.next ((wr (x2 + 1), l5)))) hm
     exact eX_next hx2 (fun hst => ⟨wr (x2 + 1), l5, rfl, fO hst, F22, F23, F24, F25, F26, hB⟩)
    have hm := condF hb4 hm
    refine cW_exit <| eX_then_exit ?_
    obtain rfl := someE (x := Ctl.out l4) hm
    refine eX_outX hx2 (fun hr5 => ?_)
    replace hr5 := hr5.symm
    subst hr5
    refine eX_block_hit ?_
    exact eX_J (fun hst => ⟨l4, rfl, fO hst, F9, F10, F11, F12, F13, hB⟩)
   rintro a' w12 ⟨l3, hJ, hF5, F27, F28, F29, F30, F31, hB⟩
   subst hJ
   refine gX hF5 <| eX_block <| eX_then <| cW_region <| wP 2 [(22, ii (wr (x1 + 1))), (52, ii (wr (x1 + 1)))] <| wE ?_
   obtain rfl := someE (x := (Ctl.next ((wr (x1 + 1), l3)))) hm
   exact eX_next hx1 (fun hst => ⟨wr (x1 + 1), l3, rfl, fO hst, F27, F28, F29, F30, F31, hB⟩)
  have hm := condF hb3 hm
  refine cW_exit <| eX_then_exit ?_
  obtain rfl := someE (x := Ctl.out l2) hm
  refine eX_outX hx1 (fun hr6 => ?_)
  replace hr6 := hr6.symm
  subst hr6
  refine eX_block_hit ?_
  exact eX_J (fun hst => ⟨l2, rfl, fO hst, F4, F5, F6, F8, hB⟩)
 rintro a' w13 ⟨l1, hJ, hF6, F32, F33, F34, F35, hB⟩
 subst hJ
 refine gX hF6 <| eX_then <| cW_seq <| sR ?_
 obtain ⟨y4, hy4, hm⟩ := bindE hm
 refine sC 53 [pt b1] ent39 (c_iChannNets hy4 F32 F33 F34) ?_
 rintro _ w14 ⟨A3, cap3, fp2, rfl, F36, G5, hc9⟩
 have D4 := Dj.of (lt1 F34.lt) G5
 have D5 := Dj.of F35.low G5
 replace F32 := F32.c hc9
 replace F33 := F33.c hc9
 replace F34 := F34.c hc9
 replace F35 := F35.c hc9
 replace G5 := low_le hB.size G5
 replace hB := hB.q hc9
 refine ⟨.slice A3 y4.length cap3, rfl, ?_⟩
 refine wP 2 [(55, .bool (((y4.length : Int)) == 0)), (54, ii (y4.length : Int))] <| wN <| cC (((y4.length : Int)) == 0) (fun hb6 => ?_) (fun hb6 => ?_)
 ·have hm := condT hb6 hm
  refine sR <| wP 2 [(3, .bool (true)), (2, ii 0)] <| wN <| cW_ret <| eX_then_ret ?_
  obtain rfl := someE (x := ((0, true))) hm
  refine rB (ii 0) (.bool (true)) 2 3 ?_
  exact ⟨rfl, hB⟩
 have hm := condF hb6 hm
 refine cW_skip <| eX_then <| sR <| wP 1 [(56, .slice (ad b2) l1.length (Int.toNat ((y2.length : Int))))] ?_
 obtain ⟨y5, hy5, hm⟩ := bindE hm
 refine sC 57 [.slice (ad b2) l1.length (Int.toNat ((y2.length : Int)))] ent46 (c_sMax hy5 (F35.sl encI_ok)) ?_
 rintro _ w15 ⟨rfl, hc10⟩
 replace F32 := F32.c hc10
 replace F33 := F33.c hc10
 replace F34 := F34.c hc10
 replace F35 := F35.c hc10
 replace F36 := F36.c hc10
 replace hB := hB.q hc10
 refine ⟨ii y5, rfl, ?_⟩
 refine wP 3 [(3, .bool (true)), (2, ii (wr (y5 + 1))), (58, ii (wr (y5 + 1)))] <| wN <| cW_ret ?_
 obtain rfl := someE (x := ((wr (y5 + 1), true))) hm
 refine rB (ii (wr (y5 + 1))) (.bool (true)) 2 3 ?_
 exact ⟨rfl, hB⟩

set_option maxRecDepth 100000 in
theorem c_cCmpIsNaN {w0 p0} {r : Bool} (hm : m_cCmpIsNaN p0 = some r)  :
  Calls Tryd.prog 88 #[ii p0] w0 fun e w' => e = .returned (.bool (r)) ∧ Chg [] w0 w' := by
 have hB : Chg [] w0 w0 := Chg.refl _ _
 unfold m_cCmpIsNaN at hm
 refine enterE (N := 6) Tryd.func88 (by rfl) Tryd.ntmps88 (by simp) [(0, ii p0)] (by rfl) (by kernel_rfl) (fun a => ?_)
 refine sR <| wP 1 [(2, .bool (false))] <| wN <| sR <| wP 4 [(2, .bool (p0 != p0)), (5, .bool (p0 != p0)), (4, ii p0), (3, ii p0)] <| wN <| cW_ret ?_
 obtain rfl := someE (x := p0 != p0) hm
 refine rA (.bool (p0 != p0)) 2 ?_
 exact ⟨rfl, hB⟩

set_option maxRecDepth 100000 in
theorem c_cCmpCompa {w0 p0 p1} {r : (Int)} (hm : m_cCmpCompa p0 p1 = some r)  :
  Calls Tryd.prog 51 #[ii p0, ii p1] w0 fun e w' => e = .returned (ii r) ∧ Chg [] w0 w' := by
 have hB : Chg [] w0 w0 := Chg.refl _ _
 unfold m_cCmpCompa at hm
 refine enterE (N := 20) Tryd.func51 (by rfl) Tryd.ntmps51 (by simp) [(0, ii p0), (1, ii p1)] (by rfl) (by kernel_rfl) (fun a => ?_)
 refine sR <| wP 1 [(4, ii 0)] <| wN <| sR <| wP 1 [(7, ii p0)] ?_
 obtain ⟨y1, hy1, hm⟩ := bindE hm
 refine sC 8 [ii p0] ent88 (c_cCmpIsNaN hy1) ?_
 rintro _ w1 ⟨rfl, hc1⟩
 replace hB := hB.q hc1
 refine ⟨.bool (y1), rfl, ?_⟩
 refine wP 1 [(5, .bool (y1))] <| wN <| sR <| wP 1 [(9, ii p1)] ?_
 obtain ⟨y2, hy2, hm⟩ := bindE hm
 refine sC 10 [ii p1] ent88 (c_cCmpIsNaN hy2) ?_
 rintro _ w2 ⟨rfl, hc2⟩
 replace hB := hB.q hc2
 refine ⟨.bool (y2), rfl, ?_⟩
 refine wP 1 [(6, .bool (y2))] <| wN <| cW_seq <| sR <| wP 1 [(11, .bool (y1))] <| wN <| cC y1 (fun hb1 => ?_) (fun hb1 => ?_)
 ·have hm := condT hb1 hm
  refine cW_seq <| sR <| wP 1 [(12, .bool (y2))] <| wN <| cC y2 (fun hb2 => ?_) (fun hb2 => ?_)
  ·have hm := condT hb2 hm
   refine sR <| wP 1 [(4, ii 0)] <| wN <| cW_ret <| eX_then_ret <| eX_then_ret ?_
   obtain rfl := someE (x := 0) hm
   refine rA (ii 0) 4 ?_
   exact ⟨rfl, hB⟩
  have hm := condF hb2 hm
  refine cW_skip <| eX_then <| sR <| wP 1 [(4, ii ((-1)))] <| wN <| cW_ret <| eX_then_ret ?_
  obtain rfl := someE (x := (-1)) hm
  refine rA (ii ((-1))) 4 ?_
  exact ⟨rfl, hB⟩
 have hm := condF hb1 hm
 refine cW_skip <| eX_then <| cW_seq <| sR <| wP 1 [(13, .bool (y2))] <| wN <| cC y2 (fun hb3 => ?_) (fun hb3 => ?_)
 ·have hm := condT hb3 hm
  refine sR <| wP 1 [(4, ii 1)] <| wN <| cW_ret <| eX_then_ret ?_
  obtain rfl := someE (x := 1) hm
  refine rA (ii 1) 4 ?_
  exact ⟨rfl, hB⟩
 have hm := condF hb3 hm
 refine cW_skip <| eX_then <| cW_seq <| sR <| wP 3 [(16, .bool (decide (p0 < p1))), (15, ii p1), (14, ii p0)] <| wN <| cC (decide (p0 < p1)) (fun hb4 => ?_) (fun hb4 => ?_)
 ·have hm := condT hb4 hm
  refine sR <| wP 1 [(4, ii ((-1)))] <| wN <| cW_ret <| eX_then_ret ?_
  obtain rfl := someE (x := (-1)) hm
  refine rA (ii ((-1))) 4 ?_
  exact ⟨rfl, hB⟩
 have hm := condF hb4 hm
 refine cW_skip <| eX_then <| cW_seq <| sR <| wP 3 [(19, .bool (decide (p0 > p1))), (18, ii p1), (17, ii p0)] <| wN <| cC (decide (p0 > p1)) (fun hb5 => ?_) (fun hb5 => ?_)
 ·have hm := condT hb5 hm
  refine sR <| wP 1 [(4, ii 1)] <| wN <| cW_ret <| eX_then_ret ?_
  obtain rfl := someE (x := 1) hm
  refine rA (ii 1) 4 ?_
  exact ⟨rfl, hB⟩
 have hm := condF hb5 hm
 refine cW_skip <| eX_then <| sR <| wP 1 [(4, ii 0)] <| wN <| cW_ret ?_
 obtain rfl := someE (x := 0) hm
 refine rA (ii 0) 4 ?_
 exact ⟨rfl, hB⟩

set_option maxRecDepth 100000 in
theorem c_iLeftE1 {w0 p0 p1 l2_0 A2_0 cap2_0 fp2_0 l2_1 A2_1 cap2_1 fp2_1 b2} {r : (Int)} (hm : m_iLeftE1 p0 p1 l2_0 l2_1 = some r) (F2_0 : S1 w0 fp2_0 A2_0 l2_0) (F2_1 : S1 w0 fp2_1 A2_1 l2_1) (F2 : Cl w0 b2 26 [.slice A2_0 l2_0.length cap2_0, .slice A2_1 l2_1.length cap2_1]) :
  Calls Tryd.prog 49 #[ii p0, ii p1, pt b2] w0 fun e w' => e = .returned (ii r) ∧ Chg [] w0 w' := by
 have L2_0 := F2_0.low
 have L2_1 := F2_1.low
 have L2 := lt1 F2.lt
 have hB : Chg [] w0 w0 := Chg.refl _ _
 unfold m_iLeftE1 at hm
 refine enterE (N := 23) Tryd.func49 (by rfl) Tryd.ntmps49 (by simp) [(0, ii p0), (1, ii p1), (2, pt b2)] (by rfl) (by kernel_rfl) (fun a => ?_)
 refine sR <| wP 1 [(5, ii 0)] <| wN <| sR <| wP 1 [(11, ii p0)] ?_
 obtain ⟨y1, hy1, hm⟩ := bindE hm
 refine sC 12 [pt b2, ii p0] ent50 (c_iChannSpan hy1 F2_0 F2_1 F2) ?_
 rintro _ w1 ⟨rfl, hc1⟩
 replace F2_0 := F2_0.c hc1
 replace F2_1 := F2_1.c hc1
 replace F2 := F2.c hc1
 replace hB := hB.q hc1
 refine ⟨.tuple #[ii y1.1, ii y1.2], rfl, ?_⟩
 refine wP 5 [(7, ii y1.2), (6, ii y1.1), (14, ii y1.2), (13, ii y1.1), (10, .tuple #[ii y1.1, ii y1.2])] <| wN <| sR <| wP 1 [(16, ii p1)] ?_
 obtain ⟨y2, hy2, hm⟩ := bindE hm
 refine sC 17 [pt b2, ii p1] ent50 (c_iChannSpan hy2 F2_0 F2_1 F2) ?_
 rintro _ w2 ⟨rfl, hc2⟩
 replace F2_0 := F2_0.c hc2
 replace F2_1 := F2_1.c hc2
 replace F2 := F2.c hc2
 replace hB := hB.q hc2
 refine ⟨.tuple #[ii y2.1, ii y2.2], rfl, ?_⟩
 refine wP 5 [(9, ii y2.2), (8, ii y2.1), (19, ii y2.2), (18, ii y2.1), (15, .tuple #[ii y2.1, ii y2.2])] <| wN <| sR <| wP 2 [(21, ii y2.1), (20, ii y1.1)] ?_
 obtain ⟨y3, hy3, hm⟩ := bindE hm
 refine sC 22 [ii y1.1, ii y2.1] ent51 (c_cCmpCompa hy3) ?_
 rintro _ w3 ⟨rfl, hc3⟩
 replace F2_0 := F2_0.c hc3
 replace F2_1 := F2_1.c hc3
 replace F2 := F2.c hc3
 replace hB := hB.q hc3
 refine ⟨ii y3, rfl, ?_⟩
 refine wP 1 [(5, ii y3)] <| wN <| cW_ret ?_
 obtain rfl := someE (x := y3) hm
 refine rA (ii y3) 5 ?_
 exact ⟨rfl, hB⟩

set_option maxRecDepth 100000 in
theorem c_sInserLeftE {w0 l0 A0 cap0 fp0 p1 p2 l3_0_0 A3_0_0 cap3_0_0 fp3_0_0 l3_0_1 A3_0_1 cap3_0_1 fp3_0_1 b3_0} {r : (List Int)} (hm : m_sInserLeftE l0 p1 p2 l3_0_0 l3_0_1 = some r) (F0 : O1 2 w0 fp0 A0 cap0 l0) (F3_0_0 : S1 w0 fp3_0_0 A3_0_0 l3_0_0) (F3_0_1 : S1 w0 fp3_0_1 A3_0_1 l3_0_1) (F3_0 : Cl w0 b3_0 26 [.slice A3_0_0 l3_0_0.length cap3_0_0, .slice A3_0_1 l3_0_1.length cap3_0_1]) (J0__3_0_0 : Dj fp0 fp3_0_0) (J0__3_0_1 : Dj fp0 fp3_0_1) (J0__3_0 : Dj fp0 [b3_0]) :
  Calls Tryd.prog 108 #[.slice A0 l0.length cap0, ii p1, ii p2, .func (.func 49) #[] #[pt b3_0]] w0 fun e w' => e = .returned (.tuple #[]) ∧ O1 2 w' fp0 A0 cap0 r ∧ r.length = l0.length ∧ Chg (fp0 ++ []) w0 w' := by
 have L0 := F0.low
 have L3_0_0 := F3_0_0.low
 have L3_0_1 := F3_0_1.low
 have L3_0 := lt1 F3_0.lt
 have hB : Chg (fp0 ++ []) w0 w0 := Chg.refl _ _
 unfold m_sInserLeftE at hm
 refine enterE (N := 53) Tryd.func108 (by rfl) Tryd.ntmps108 (by simp) [(0, .slice A0 l0.length cap0), (1, ii p1), (2, ii p2), (3, .func (.func 49) #[] #[pt b3_0])] (by rfl) (by kernel_rfl) (fun a => ?_)
 refine sR <| wP 3 [(8, ii (wr (p1 + 1))), (11, ii (wr (p1 + 1))), (10, ii p1)] <| wN ?_
 obtain ⟨r1, hr1, hm⟩ := bindE hm
 have hm1 := hm
 refine cW_cut (fun a' w' => ∃ l1 : List Int, l1 = r1 ∧ Fr 53 [] a' ∧ O1 2 w' fp0 A0 cap0 l1 ∧ l1.length = l0.length ∧ Chg (fp0 ++ []) w0 w') ?_ ?_
 ·refine cW_block ?_
  refine cW_loop _ (fun (s1 : Int × (List Int)) a' w' => ∃ x1 : Int, ∃ l2 : List Int, (x1, l2) = s1 ∧ Fr 53 [(0, .slice A0 l2.length cap0), (1, ii p1), (2, ii p2), (3, .func (.func 49) #[] #[pt b3_0]), (8, ii x1)] a' ∧ O1 2 w' fp0 A0 cap0 l2 ∧ S1 w' fp3_0_0 A3_0_0 l3_0_0 ∧ S1 w' fp3_0_1 A3_0_1 l3_0_1 ∧ Cl w' b3_0 26 [.slice A3_0_0 l3_0_0.length cap3_0_0, .slice A3_0_1 l3_0_1.length cap3_0_1] ∧ l2.length = l0.length ∧ Chg (fp0 ++ []) w0 w') hr1 (fun hst => ⟨wr (p1 + 1), l0, rfl, fO hst, F0, F3_0_0, F3_0_1, F3_0, (Eq.refl l0.length), hB⟩) ?_
  rintro _ c1 a' w1 ⟨x1, l2, rfl, hF1, F1, F2, F3, F4, hl1, hB⟩ hx1
  refine gO hF1 ?_
  have hm := hx1
  unfold m_sInserLeftE_s3 at hm
  refine cW_seq <| sR <| wP 3 [(14, .bool (decide (x1 < p2))), (13, ii p2), (12, ii x1)] <| wN <| cC (decide (x1 < p2)) (fun hb1 => ?_) (fun hb1 => ?_)
  ·have hm := condT hb1 hm
   refine cW_skip <| eX_then <| cW_seq <| cW_block <| sR <| wP 2 [(9, ii x1), (17, ii x1)] <| wN ?_
   obtain ⟨r2, hr2, hm⟩ := bindE hm
   have hm2 := hm
   refine cW_cut (fun a' w' => ∃ l3 : List Int, l3 = r2 ∧ Fr 53 [(0, .slice A0 l3.length cap0), (1, ii p1), (2, ii p2), (3, .func (.func 49) #[] #[pt b3_0]), (8, ii x1)] a' ∧ O1 2 w' fp0 A0 cap0 l3 ∧ S1 w' fp3_0_0 A3_0_0 l3_0_0 ∧ S1 w' fp3_0_1 A3_0_1 l3_0_1 ∧ Cl w' b3_0 26 [.slice A3_0_0 l3_0_0.length cap3_0_0, .slice A3_0_1 l3_0_1.length cap3_0_1] ∧ l3.length = l0.length ∧ Chg (fp0 ++ []) w0 w') ?_ ?_
   ·refine cW_block ?_
    refine cW_loop _ (fun (s2 : Int × (List Int)) a' w' => ∃ x2 : Int, ∃ l4 : List Int, (x2, l4) = s2 ∧ Fr 53 [(0, .slice A0 l4.length cap0), (1, ii p1), (2, ii p2), (3, .func (.func 49) #[] #[pt b3_0]), (8, ii x1), (9, ii x2)] a' ∧ O1 2 w' fp0 A0 cap0 l4 ∧ S1 w' fp3_0_0 A3_0_0 l3_0_0 ∧ S1 w' fp3_0_1 A3_0_1 l3_0_1 ∧ Cl w' b3_0 26 [.slice A3_0_0 l3_0_0.length cap3_0_0, .slice A3_0_1 l3_0_1.length cap3_0_1] ∧ l4.length = l0.length ∧ Chg (fp0 ++ []) w0 w') hr2 (fun hst => ⟨x1, l2, rfl, fO hst, F1, F2, F3, F4, hl1, hB⟩) ?_
    rintro _ c2 a' w2 ⟨x2, l4, rfl, hF2, F5, F6, F7, F8, hl2, hB⟩ hx2
    refine gO hF2 ?_
    have hm := hx2
    unfold m_sInserLeftE_s4 at hm
    refine cW_seq <| cW_seq <| cW_drawnTail [] 14 (by kernel_rfl) (by kernel_rfl) (fun w3 hc1 => ?_)
    replace F5 := F5.c hc1
    replace F6 := F6.c hc1
    replace F7 := F7.c hc1
    replace F8 := F8.c hc1
    replace hB := hB.q hc1
    have hS := Chg.refl [] w3
    have Z1 := F5
    have Z2 := F6
    have Z3 := F7
    have Z4 := F8
    refine hT [0, 1, 2, 3] [(21, .bool (decide (x2 > p1))), (20, .bool (decide (x2 > p1))), (19, ii p1), (18, ii x2)] <| wH_bool (decide (x2 > p1)) (fun hb2 => ?_) (fun hb2 => ?_)
    ·have hm := condT hb2 hm
     rewrite [hb2]
     refine hT [4, 5, 6] [(24, ii x2), (23, .slice A0 l4.length cap0), (22, .func (.func 49) #[] #[pt b3_0])] ?_
     obtain ⟨x3, hx3, hm⟩ := bindE hm
     refine hI 7 25 A0 l4.length cap0 .i64 x2 sl24 ((F5.sl encI_ok).is hx3) <| hL 8 26 (elA A0 1 (x2) 0) (ii x3) vt2 (fun W hW => Sl.cell ((Z1.c hW).sl encI_ok) hx3 0 (by rfl)) ?_
     refine hT [9, 10, 11] [(29, ii (wr (x2 - 1))), (28, ii x2), (27, .slice A0 l4.length cap0)] ?_
     obtain ⟨x4, hx4, hm⟩ := bindE hm
     refine hI 12 30 A0 l4.length cap0 .i64 (wr (x2 - 1)) sl24 ((F5.sl encI_ok).is hx4) <| hL 13 31 (elA A0 1 (wr (x2 - 1)) 0) (ii x4) vt2 (fun W hW => Sl.cell ((Z1.c hW).sl encI_ok) hx4 0 (by rfl)) ?_
     refine wD <| eX_tail ?_
     obtain ⟨y1, hy1, hm⟩ := bindE hm
     refine sC 32 [ii x3, ii x4, pt b3_0] ent49 (c_iLeftE1 hy1 F6 F7 F8) ?_
     rintro _ w4 ⟨rfl, hc2⟩
     replace F5 := F5.c hc2
     replace F6 := F6.c hc2
     replace F7 := F7.c hc2
     replace F8 := F8.c hc2
     replace hB := hB.q hc2
     refine ⟨ii y1, rfl, ?_⟩
     refine wP 2 [(34, .bool (decide (y1 < 0))), (33, .bool (decide (y1 < 0)))] <| wN <| cC (decide (y1 < 0)) (fun hb3 => ?_) (fun hb3 => ?_)
     ·have hm := condT hb3 hm
      refine cW_skip <| eX_then <| cW_seq <| cW_block <| cW_drawnTail2 [] 14 [0, 1, 2, 3, 4, 5, 6, 7, 10, 11] [11, 10, 7, 6, 5, 4, 3, 2, 1, 0] [(48, ii x2), (47, .slice A0 l4.length cap0), (44, ii (wr (x2 - 1))), (43, ii x2), (42, .slice A0 l4.length cap0), (41, ii (wr (x2 - 1))), (40, ii x2), (39, .slice A0 l4.length cap0), (38, ii x2), (37, .slice A0 l4.length cap0)] (by kernel_rfl) (by kernel_rfl) (qB (qT (qL (qB (qT (qB (qT (qL (qB (qT qZ)))))))))) (by kernel_rfl) (by kernel_rfl) (by decide) (fun w5 hc3 => ?_)
      replace F5 := F5.c hc3
      replace F6 := F6.c hc3
      replace F7 := F7.c hc3
      replace F8 := F8.c hc3
      replace hB := hB.q hc3
      have hS := Chg.refl [] w5
      have Z5 := F5
      have Z6 := F6
      have Z7 := F7
      have Z8 := F8
      obtain ⟨x5, hx5, hm⟩ := bindE hm
      refine hI 8 45 A0 l4.length cap0 .i64 (wr (x2 - 1)) sl24 ((F5.sl encI_ok).is hx5) <| hL 9 46 (elA A0 1 (wr (x2 - 1)) 0) (ii x5) vt2 (fun W hW => Sl.cell ((Z5.c hW).sl encI_ok) hx5 0 (by rfl)) ?_
      obtain ⟨x6, hx6, hm⟩ := bindE hm
      refine hI 12 49 A0 l4.length cap0 .i64 x2 sl24 ((F5.sl encI_ok).is hx6) <| hL 13 50 (elA A0 1 (x2) 0) (ii x6) vt2 (fun W hW => Sl.cell ((Z5.c hW).sl encI_ok) hx6 0 (by rfl)) ?_
      refine wD <| eX_tail ?_
      obtain ⟨x7, hx7, hm⟩ := bindE hm
      refine sI 51 A0 l4.length cap0 .i64 x2 sl24 ((F5.sl encI_ok).is hx7) <| wS_storeEl (x := x7) x5 (T := 2) (U := 2) (cap := cap0) (j := 0) (A := A0) (v := ii x5) (vs := [ii x5]) (m := x2) (by kernel_rfl) (by rfl) sz2 (by rfl) encI_ok F5 hx7 (bl rfl) (by rfl) ?_
      intro w6 F9 hc4
      replace F6 := F6.chg hc4 (J0__3_0_0).symm
      replace F7 := F7.chg hc4 (J0__3_0_1).symm
      replace F8 := F8.chg hc4 (dj1 (J0__3_0).symm)
      replace hB := hB.inS hc4 (inMem (fun x hx => (List.mem_append_left _ hx)))
      clear F5
      have hl3 := (show (l4.set (Int.toNat x2) x5).length = l4.length from List.length_set ..).trans hl2
      rewrite [show l4.length = (l4.set (Int.toNat x2) x5).length from (List.length_set ..).symm]
      obtain ⟨x8, hx8, hm⟩ := bindE hm
      refine sI 52 A0 ((l4.set (Int.toNat x2) x5).length) cap0 .i64 (wr (x2 - 1)) sl24 ((F9.sl encI_ok).is hx8) <| wS_storeEl (x := x8) x6 (T := 2) (U := 2) (cap := cap0) (j := 0) (A := A0) (v := ii x6) (vs := [ii x6]) (m := wr (x2 - 1)) (by kernel_rfl) (by rfl) sz2 (by rfl) encI_ok F9 hx8 (bl rfl) (by rfl) ?_
      intro w7 F10 hc5
      replace F6 := F6.chg hc5 (J0__3_0_0).symm
      replace F7 := F7.chg hc5 (J0__3_0_1).symm
      replace F8 := F8.chg hc5 (dj1 (J0__3_0).symm)
      replace hB := hB.inS hc5 (inMem (fun x hx => (List.mem_append_left _ hx)))
      clear F9
      have hl4 := (show ((l4.set (Int.toNat x2) x5).set (Int.toNat (wr (x2 - 1))) x6).length = (l4.set (Int.toNat x2) x5).length from List.length_set ..).trans hl3
      rewrite [show (l4.set (Int.toNat x2) x5).length = ((l4.set (Int.toNat x2) x5).set (Int.toNat (wr (x2 - 1))) x6).length from (List.length_set ..).symm]
      refine wE <| eX_block <| eX_then <| cP [(0, .slice A0 ((l4.set (Int.toNat x2) x5).set (Int.toNat (wr (x2 - 1))) x6).length cap0), (1, ii p1), (2, ii p2), (3, .func (.func 49) #[] #[pt b3_0]), (8, ii x1), (9, ii x2)] (fun a1 => ?_)
      refine cW_region <| wP 3 [(9, ii (wr (x2 - 1))), (36, ii (wr (x2 - 1))), (35, ii x2)] <| wE ?_
      obtain rfl := someE (x := (Ctl.next ((wr (x2 - 1), (l4.set (Int.toNat x2) x5).set (Int.toNat (wr (x2 - 1))) x6)))) hm
      exact eX_next hx2 (fun hst => ⟨wr (x2 - 1), (l4.set (Int.toNat x2) x5).set (Int.toNat (wr (x2 - 1))) x6, rfl, fO hst, F10, F6, F7, F8, hl4, hB⟩)
     have hm := condF hb3 hm
     refine cW_exit <| eX_then_exit ?_
     obtain rfl := someE (x := Ctl.out l4) hm
     refine eX_outX hx2 (fun hr3 => ?_)
     replace hr3 := hr3.symm
     subst hr3
     refine eX_block_hit ?_
     exact eX_J (fun hst => ⟨l4, rfl, fO hst, F5, F6, F7, F8, hl2, hB⟩)
    have hm := condF hb2 hm
    rewrite [hb2]
    refine hT [4, 5, 6, 7, 8, 9, 10, 11, 12, 13] [(31, undef), (30, undef), (29, undef), (28, undef), (27, undef), (26, undef), (25, undef), (24, undef), (23, undef), (22, undef)] <| wD <| eX_tail <| wP 3 [(34, .bool (false)), (33, undef), (32, undef)] <| wN <| cCf <| cW_exit <| eX_then_exit ?_
    obtain rfl := someE (x := Ctl.out l4) hm
    refine eX_outX hx2 (fun hr4 => ?_)
    replace hr4 := hr4.symm
    subst hr4
    refine eX_block_hit ?_
    exact eX_J (fun hst => ⟨l4, rfl, fO hst, F5, F6, F7, F8, hl2, hB⟩)
   rintro a' w8 ⟨l3, hJ, hF3, F11, F12, F13, F14, hl5, hB⟩
   subst hJ
   refine gX hF3 <| eX_block <| eX_then <| cW_region <| wP 3 [(8, ii (wr (x1 + 1))), (16, ii (wr (x1 + 1))), (15, ii x1)] <| wE ?_
   obtain rfl := someE (x := (Ctl.next ((wr (x1 + 1), l3)))) hm
   exact eX_next hx1 (fun hst => ⟨wr (x1 + 1), l3, rfl, fO hst, F11, F12, F13, F14, hl5, hB⟩)
  have hm := condF hb1 hm
  refine cW_exit <| eX_then_exit ?_
  obtain rfl := someE (x := Ctl.out l2) hm
  refine eX_outX hx1 (fun hr5 => ?_)
  replace hr5 := hr5.symm
  subst hr5
  refine eX_block_hit ?_
  exact eX_J (fun hst => ⟨l2, rfl, fO hst, F1, hl1, hB⟩)
 rintro a' w9 ⟨l1, hJ, hF4, F15, hl6, hB⟩
 subst hJ
 refine gX hF4 ?_
 obtain rfl := someE (x := l1) hm
 refine eX_fall (vs := []) [] (by rfl) trivial ?_
 exact ⟨rfl, F15, (by first | exact hl6 | rfl), hB⟩

set_option maxRecDepth 100000 in
theorem c_sStablLeftE {w0 l0 A0 cap0 fp0 p1 l2_0_0 A2_0_0 cap2_0_0 fp2_0_0 l2_0_1 A2_0_1 cap2_0_1 fp2_0_1 b2_0} {r : (List Int)} (hm : m_sStablLeftE l0 p1 l2_0_0 l2_0_1 = some r) (F0 : O1 2 w0 fp0 A0 cap0 l0) (F2_0_0 : S1 w0 fp2_0_0 A2_0_0 l2_0_0) (F2_0_1 : S1 w0 fp2_0_1 A2_0_1 l2_0_1) (F2_0 : Cl w0 b2_0 26 [.slice A2_0_0 l2_0_0.length cap2_0_0, .slice A2_0_1 l2_0_1.length cap2_0_1]) (J0__2_0_0 : Dj fp0 fp2_0_0) (J0__2_0_1 : Dj fp0 fp2_0_1) (J0__2_0 : Dj fp0 [b2_0]) :
  Calls Tryd.prog 87 #[.slice A0 l0.length cap0, ii p1, .func (.func 49) #[] #[pt b2_0]] w0 fun e w' => e = .returned (.tuple #[]) ∧ O1 2 w' fp0 A0 cap0 r ∧ r.length = l0.length ∧ Chg (fp0 ++ []) w0 w' := by
 have L0 := F0.low
 have L2_0_0 := F2_0_0.low
 have L2_0_1 := F2_0_1.low
 have L2_0 := lt1 F2_0.lt
 have hB : Chg (fp0 ++ []) w0 w0 := Chg.refl _ _
 unfold m_sStablLeftE at hm
 refine enterE (N := 63) Tryd.func87 (by rfl) Tryd.ntmps87 (by simp) [(0, .slice A0 l0.length cap0), (1, ii p1), (2, .func (.func 49) #[] #[pt b2_0])] (by rfl) (by kernel_rfl) (fun a => ?_)
 refine sR <| wP 1 [(6, ii 20)] <| wN <| sR <| wP 3 [(8, ii 20), (7, ii 0), (10, ii 20)] <| wN <| cW_seq ?_
 obtain ⟨r1, hr1, hm⟩ := bindE hm
 have hm1 := hm
 refine cW_cut (fun a' w' => ∃ x1 : Int, ∃ l1 : List Int, (x1, l1) = r1 ∧ Fr 63 [(0, .slice A0 l1.length cap0), (1, ii p1), (2, .func (.func 49) #[] #[pt b2_0]), (6, ii 20), (7, ii x1)] a' ∧ O1 2 w' fp0 A0 cap0 l1 ∧ S1 w' fp2_0_0 A2_0_0 l2_0_0 ∧ S1 w' fp2_0_1 A2_0_1 l2_0_1 ∧ Cl w' b2_0 26 [.slice A2_0_0 l2_0_0.length cap2_0_0, .slice A2_0_1 l2_0_1.length cap2_0_1] ∧ l1.length = l0.length ∧ Chg (fp0 ++ []) w0 w') ?_ ?_
 ·refine cW_block ?_
  refine cW_loop _ (fun (s1 : Int × Int × (List Int)) a' w' => ∃ x2 : Int, ∃ x3 : Int, ∃ l2 : List Int, (x2, x3, l2) = s1 ∧ Fr 63 [(0, .slice A0 l2.length cap0), (1, ii p1), (2, .func (.func 49) #[] #[pt b2_0]), (6, ii 20), (7, ii x2), (8, ii x3)] a' ∧ O1 2 w' fp0 A0 cap0 l2 ∧ S1 w' fp2_0_0 A2_0_0 l2_0_0 ∧ S1 w' fp2_0_1 A2_0_1 l2_0_1 ∧ Cl w' b2_0 26 [.slice A2_0_0 l2_0_0.length cap2_0_0, .slice A2_0_1 l2_0_1.length cap2_0_1] ∧ l2.length = l0.length ∧ Chg (fp0 ++ []) w0 w') hr1 (fun hst => ⟨0, 20, l0, rfl, fO hst, F0, F2_0_0, F2_0_1, F2_0, (Eq.refl l0.length), hB⟩) ?_
  rintro _ c1 a' w1 ⟨x2, x3, l2, rfl, hF1, F1, F2, F3, F4, hl1, hB⟩ hx1
  refine gO hF1 ?_
  have hm := hx1
  unfold m_sStablLeftE_s1 at hm
  refine cW_seq <| sR <| wP 3 [(13, .bool (decide (x3 ≤ p1))), (12, ii p1), (11, ii x3)] <| wN <| cC (decide (x3 ≤ p1)) (fun hb1 => ?_) (fun hb1 => ?_)
  ·have hm := condT hb1 hm
   refine cW_skip <| eX_then <| cW_block <| sR <| wP 4 [(17, .func (.func 49) #[] #[pt b2_0]), (16, ii x3), (15, ii x2), (14, .slice A0 l2.length cap0)] ?_
   obtain ⟨y1, hy1, hm⟩ := bindE hm
   refine sC 18 [.slice A0 l2.length cap0, ii x2, ii x3, .func (.func 49) #[] #[pt b2_0]] ent108 (c_sInserLeftE hy1 F1 F2 F3 F4 J0__2_0_0 J0__2_0_1 J0__2_0) ?_
   rintro _ w2 ⟨rfl, F5, hl2, hc1⟩
   replace F2 := F2.chg hc1 (Dj.app (J0__2_0_0).symm Dj.nil)
   replace F3 := F3.chg hc1 (Dj.app (J0__2_0_1).symm Dj.nil)
   replace F4 := F4.chg hc1 (dj1 (Dj.app (J0__2_0).symm Dj.nil))
   replace hB := hB.inS hc1 (inApp (inMem (fun x hx => (List.mem_append_left _ hx))) inNil)
   clear F1
   have hl3 := hl2.trans hl1
   refine ⟨.tuple #[], rfl, ?_⟩
   rewrite [(show l2.length = y1.length from hl2.symm)]
   try rewrite [(show l2.length = y1.length from hl2.symm)] at F4
   refine wN <| sR <| wP 2 [(7, ii x3), (19, ii x3)] <| wN <| cW_region <| wP 4 [(8, ii (wr (x3 + 20))), (22, ii (wr (x3 + 20))), (21, ii 20), (20, ii x3)] <| wE <| eX_block ?_
   obtain rfl := someE (x := (Ctl.next ((x3, wr (x3 + 20), y1)))) hm
   exact eX_next hx1 (fun hst => ⟨x3, wr (x3 + 20), y1, rfl, fO hst, F5, F2, F3, F4, hl3, hB⟩)
  have hm := condF hb1 hm
  refine cW_exit <| eX_then_exit ?_
  obtain rfl := someE (x := (Ctl.out ((x2, l2)))) hm
  refine eX_outX hx1 (fun hr2 => ?_)
  replace hr2 := hr2.symm
  subst hr2
  refine eX_block_hit ?_
  exact eX_J (fun hst => ⟨x2, l2, rfl, fO hst, F1, F2, F3, F4, hl1, hB⟩)
 rintro a' w3 ⟨x1, l1, hJ, hF2, F6, F7, F8, F9, hl4, hB⟩
 subst hJ
 refine gX hF2 <| eX_then <| sR <| wP 4 [(26, .func (.func 49) #[] #[pt b2_0]), (25, ii p1), (24, ii x1), (23, .slice A0 l1.length cap0)] ?_
 obtain ⟨y2, hy2, hm⟩ := bindE hm
 refine sC 27 [.slice A0 l1.length cap0, ii x1, ii p1, .func (.func 49) #[] #[pt b2_0]] ent108 (c_sInserLeftE hy2 F6 F7 F8 F9 J0__2_0_0 J0__2_0_1 J0__2_0) ?_
 rintro _ w4 ⟨rfl, F10, hl5, hc2⟩
 replace F7 := F7.chg hc2 (Dj.app (J0__2_0_0).symm Dj.nil)
 replace F8 := F8.chg hc2 (Dj.app (J0__2_0_1).symm Dj.nil)
 replace F9 := F9.chg hc2 (dj1 (Dj.app (J0__2_0).symm Dj.nil))
 replace hB := hB.inS hc2 (inApp (inMem (fun x hx => (List.mem_append_left _ hx))) inNil)
 clear F6
 have hl6 := hl5.trans hl4
 refine ⟨.tuple #[], rfl, ?_⟩
 rewrite [(show l1.length = y2.length from hl5.symm)]
 try rewrite [(show l1.length = y2.length from hl5.symm)] at F9
 refine wN ?_
 obtain ⟨r2, hr3, hm⟩ := bindE hm
 have hm2 := hm
 refine cW_cut (fun a' w' => () = r2 ∧ Fr 63 [] a' ∧ O1 2 w' fp0 A0 cap0 y2 ∧ Chg (fp0 ++ []) w0 w') ?_ ?_
 ·refine cW_block ?_
  refine cW_loop _ (fun (s2 : Int) a' w' => ∃ x4 : Int, x4 = s2 ∧ Fr 63 [(0, .slice A0 y2.length cap0), (1, ii p1), (2, .func (.func 49) #[] #[pt b2_0]), (6, ii x4)] a' ∧ O1 2 w' fp0 A0 cap0 y2 ∧ S1 w' fp2_0_0 A2_0_0 l2_0_0 ∧ S1 w' fp2_0_1 A2_0_1 l2_0_1 ∧ Cl w' b2_0 26 [.slice A2_0_0 l2_0_0.length cap2_0_0, .slice A2_0_1 l2_0_1.length cap2_0_1] ∧ Chg (fp0 ++ []) w0 w') hr3 (fun hst => ⟨20, rfl, fO hst, F10, F7, F8, F9, hB⟩) ?_
  rintro _ c2 a' w5 ⟨x4, rfl, hF3, F11, F12, F13, F14, hB⟩ hx2
  refine gO hF3 ?_
  have hm := hx2
  unfold m_sStablLeftE_s6 at hm
  refine cW_seq <| sR <| wP 3 [(30, .bool (decide (x4 < p1))), (29, ii p1), (28, ii x4)] <| wN <| cC (decide (x4 < p1)) (fun hb2 => ?_) (fun hb2 => ?_)
  ·have hm := condT hb2 hm
   refine cW_skip <| eX_then <| cW_block ?_
   obtain ⟨s3, hs1, hm⟩ := bindE hm
   refine cW_cut (fun a' w' => ∃ x5 : Int, x5 = s3 ∧ Fr 63 [(0, .slice A0 y2.length cap0), (1, ii p1), (2, .func (.func 49) #[] #[pt b2_0]), (6, ii x5)] a' ∧ O1 2 w' fp0 A0 cap0 y2 ∧ S1 w' fp2_0_0 A2_0_0 l2_0_0 ∧ S1 w' fp2_0_1 A2_0_1 l2_0_1 ∧ Cl w' b2_0 26 [.slice A2_0_0 l2_0_0.length cap2_0_0, .slice A2_0_1 l2_0_1.length cap2_0_1] ∧ Chg (fp0 ++ []) w0 w') ?_ ?_
   ·have hm := hs1
    refine sR <| wP 4 [(8, ii (wr (2 * x4))), (7, ii 0), (32, ii (wr (2 * x4))), (31, ii x4)] <| wN <| cW_seq ?_
    obtain ⟨r3, hr4, hm⟩ := bindE hm
    have hm3 := hm
    refine cW_cut (fun a' w' => () = r3 ∧ Fr 63 [(0, .slice A0 y2.length cap0), (1, ii p1), (2, .func (.func 49) #[] #[pt b2_0]), (6, ii x4), (7, ii 0)] a' ∧ O1 2 w' fp0 A0 cap0 y2 ∧ S1 w' fp2_0_0 A2_0_0 l2_0_0 ∧ S1 w' fp2_0_1 A2_0_1 l2_0_1 ∧ Cl w' b2_0 26 [.slice A2_0_0 l2_0_0.length cap2_0_0, .slice A2_0_1 l2_0_1.length cap2_0_1] ∧ Chg (fp0 ++ []) w0 w') ?_ ?_
    ·refine cW_block ?_
     refine cW_loop _ (fun (s4 : Unit) a' w' => () = s4 ∧ Fr 63 [(0, .slice A0 y2.length cap0), (1, ii p1), (2, .func (.func 49) #[] #[pt b2_0]), (6, ii x4), (7, ii 0), (8, ii (wr (2 * x4)))] a' ∧ O1 2 w' fp0 A0 cap0 y2 ∧ S1 w' fp2_0_0 A2_0_0 l2_0_0 ∧ S1 w' fp2_0_1 A2_0_1 l2_0_1 ∧ Cl w' b2_0 26 [.slice A2_0_0 l2_0_0.length cap2_0_0, .slice A2_0_1 l2_0_1.length cap2_0_1] ∧ Chg (fp0 ++ []) w0 w') hr4 (fun hst => ⟨rfl, fO hst, F11, F12, F13, F14, hB⟩) ?_
     rintro _ c3 a' w6 ⟨rfl, hF4, F15, F16, F17, F18, hB⟩ hx3
     refine gO hF4 ?_
     have hm := hx3
     unfold m_sStablLeftE_s8 at hm
     refine cW_seq <| sR <| wP 3 [(35, .bool (decide ((wr (2 * x4)) ≤ p1))), (34, ii p1), (33, ii (wr (2 * x4)))] <| wN <| cC (decide ((wr (2 * x4)) ≤ p1)) (fun hb3 => ?_) (fun hb3 => ?_)
     ·have hm := condT hb3 hm
      refine cW_skip <| eX_then <| cW_block <| sR <| wP 7 [(42, .func (.func 49) #[] #[pt b2_0]), (41, ii (wr (2 * x4))), (40, ii (wr (0 + x4))), (39, ii x4), (38, ii 0), (37, ii 0), (36, .slice A0 y2.length cap0)] ?_
      cases hm
     have hm := condF hb3 hm
     refine cW_exit <| eX_then_exit ?_
     obtain rfl := someE (x := Ctl.out (())) hm
     refine eX_outX hx3 (fun hr5 => ?_)
     replace hr5 := hr5.symm
     subst hr5
     refine eX_block_hit ?_
     exact eX_J (fun hst => ⟨rfl, fO hst, F15, F16, F17, F18, hB⟩)
    rintro a' w7 ⟨hJ, hF5, F19, F20, F21, F22, hB⟩
    subst hJ
    refine gX hF5 <| eX_then <| cW_seq ?_
    obtain ⟨s5, hs2, hm⟩ := bindE hm
    refine cW_cut (fun a' w' => () = s5 ∧ Fr 63 [(0, .slice A0 y2.length cap0), (1, ii p1), (2, .func (.func 49) #[] #[pt b2_0]), (6, ii x4)] a' ∧ O1 2 w' fp0 A0 cap0 y2 ∧ S1 w' fp2_0_0 A2_0_0 l2_0_0 ∧ S1 w' fp2_0_1 A2_0_1 l2_0_1 ∧ Cl w' b2_0 26 [.slice A2_0_0 l2_0_0.length cap2_0_0, .slice A2_0_1 l2_0_1.length cap2_0_1] ∧ Chg (fp0 ++ []) w0 w') ?_ ?_
    ·have hm := hs2
     refine sR <| wP 4 [(9, ii (wr (0 + x4))), (51, ii (wr (0 + x4))), (50, ii x4), (49, ii 0)] <| wN <| sR <| wP 3 [(54, .bool (decide ((wr (0 + x4)) < p1))), (53, ii p1), (52, ii (wr (0 + x4)))] <| wN <| cC (decide ((wr (0 + x4)) < p1)) (fun hb4 => ?_) (fun hb4 => ?_)
     ·have hm := condT hb4 hm
      refine cW_region <| wP 5 [(59, .func (.func 49) #[] #[pt b2_0]), (58, ii p1), (57, ii (wr (0 + x4))), (56, ii 0), (55, .slice A0 y2.length cap0)] ?_
      cases hm
     have hm := condF hb4 hm
     refine cW_skip ?_
     obtain rfl := someE (x := ()) hm
     exact eX_J (fun hst => ⟨rfl, fO hst, F19, F20, F21, F22, hB⟩)
    rintro a' w8 ⟨hJ, hF6, F23, F24, F25, F26, hB⟩
    subst hJ
    refine gX hF6 <| eX_then <| cW_region <| wP 3 [(6, ii (wr (x4 * 2))), (62, ii (wr (x4 * 2))), (61, ii x4)] <| wE ?_
    obtain rfl := someE (x := wr (x4 * 2)) hm
    exact eX_J (fun hst => ⟨wr (x4 * 2), rfl, fO hst, F23, F24, F25, F26, hB⟩)
   rintro a' w9 ⟨x5, hJ, hF7, F27, F28, F29, F30, hB⟩
   subst hJ
   refine gX hF7 <| eX_block ?_
   obtain rfl := someE (x := Ctl.next x5) hm
   exact eX_next hx2 (fun hst => ⟨x5, rfl, fO hst, F27, F28, F29, F30, hB⟩)
  have hm := condF hb2 hm
  refine cW_exit <| eX_then_exit ?_
  obtain rfl := someE (x := Ctl.out (())) hm
  refine eX_outX hx2 (fun hr6 => ?_)
  replace hr6 := hr6.symm
  subst hr6
  refine eX_block_hit ?_
  exact eX_J (fun hst => ⟨rfl, fO hst, F11, hB⟩)
 rintro a' w10 ⟨hJ, hF8, F31, hB⟩
 subst hJ
 refine gX hF8 ?_
 obtain rfl := someE (x := y2) hm
 refine eX_fall (vs := []) [] (by rfl) trivial ?_
 exact ⟨rfl, F31, (by first | exact hl6 | rfl), hB⟩

set_option maxRecDepth 100000 in
theorem c_sSortSLeftE {w0 l0 A0 cap0 fp0 l1_0_0 A1_0_0 cap1_0_0 fp1_0_0 l1_0_1 A1_0_1 cap1_0_1 fp1_0_1 b1_0} {r : (List Int)} (hm : m_sSortSLeftE l0 l1_0_0 l1_0_1 = some r) (F0 : O1 2 w0 fp0 A0 cap0 l0) (F1_0_0 : S1 w0 fp1_0_0 A1_0_0 l1_0_0) (F1_0_1 : S1 w0 fp1_0_1 A1_0_1 l1_0_1) (F1_0 : Cl w0 b1_0 26 [.slice A1_0_0 l1_0_0.length cap1_0_0, .slice A1_0_1 l1_0_1.length cap1_0_1]) (J0__1_0_0 : Dj fp0 fp1_0_0) (J0__1_0_1 : Dj fp0 fp1_0_1) (J0__1_0 : Dj fp0 [b1_0]) :
  Calls Tryd.prog 48 #[.slice A0 l0.length cap0, .func (.func 49) #[] #[pt b1_0]] w0 fun e w' => e = .returned (.tuple #[]) ∧ O1 2 w' fp0 A0 cap0 r ∧ r.length = l0.length ∧ Chg (fp0 ++ []) w0 w' := by
 have L0 := F0.low
 have L1_0_0 := F1_0_0.low
 have L1_0_1 := F1_0_1.low
 have L1_0 := lt1 F1_0.lt
 have hB : Chg (fp0 ++ []) w0 w0 := Chg.refl _ _
 unfold m_sSortSLeftE at hm
 refine enterE (N := 9) Tryd.func48 (by rfl) Tryd.ntmps48 (by simp) [(0, .slice A0 l0.length cap0), (1, .func (.func 49) #[] #[pt b1_0])] (by rfl) (by kernel_rfl) (fun a => ?_)
 refine cW_region <| wP 4 [(7, .func (.func 49) #[] #[pt b1_0]), (6, ii (l0.length : Int)), (5, .slice A0 l0.length cap0), (4, .slice A0 l0.length cap0)] ?_
 obtain ⟨y1, hy1, hm⟩ := bindE hm
 refine sC 8 [.slice A0 l0.length cap0, ii (l0.length : Int), .func (.func 49) #[] #[pt b1_0]] ent87 (c_sStablLeftE hy1 F0 F1_0_0 F1_0_1 F1_0 J0__1_0_0 J0__1_0_1 J0__1_0) ?_
 rintro _ w1 ⟨rfl, F1, hl1, hc1⟩
 replace F1_0_0 := F1_0_0.chg hc1 (Dj.app (J0__1_0_0).symm Dj.nil)
 replace F1_0_1 := F1_0_1.chg hc1 (Dj.app (J0__1_0_1).symm Dj.nil)
 replace F1_0 := F1_0.chg hc1 (dj1 (Dj.app (J0__1_0).symm Dj.nil))
 replace hB := hB.inS hc1 (inApp (inMem (fun x hx => (List.mem_append_left _ hx))) inNil)
 clear F0
 have hl2 := hl1.trans (Eq.refl l0.length)
 refine ⟨.tuple #[], rfl, ?_⟩
 rewrite [(show l0.length = y1.length from hl1.symm)]
 try rewrite [(show l0.length = y1.length from hl1.symm)] at F1_0
 refine wE ?_
 obtain rfl := someE (x := y1) hm
 refine eX_fall (vs := []) [] (by rfl) trivial ?_
 exact ⟨rfl, F1, (by first | exact hl2 | rfl), hB⟩

set_option maxRecDepth 100000 in
theorem c_iLeftE2 {w0 p0 l1_0 A1_0 cap1_0 fp1_0 l1_1 A1_1 cap1_1 fp1_1 b1 q2_0 b2 l3_0 A3_0 cap3_0 fp3_0 b3} {r : Bool × (Int) × (List Int)} (hm : m_iLeftE2 p0 l1_0 l1_1 q2_0 l3_0 = some r) (F1_0 : S1 w0 fp1_0 A1_0 l1_0) (F1_1 : S1 w0 fp1_1 A1_1 l1_1) (F1 : Cl w0 b1 26 [.slice A1_0 l1_0.length cap1_0, .slice A1_1 l1_1.length cap1_1]) (F2 : Cl w0 b2 2 [ii q2_0]) (F3_0 : O1 2 w0 fp3_0 A3_0 cap3_0 l3_0) (F3 : Cl w0 b3 24 [.slice A3_0 l3_0.length cap3_0]) (J2__1_0 : Dj [b2] fp1_0) (J2__1_1 : Dj [b2] fp1_1) (J2__1 : Dj [b2] [b1]) (J2__3_0 : Dj [b2] fp3_0) (J2__3 : Dj [b2] [b3]) (J3__1_0 : Dj [b3] fp1_0) (J3__1_1 : Dj [b3] fp1_1) (J3__1 : Dj [b3] [b1]) (J3__3_0 : Dj [b3] fp3_0) (J3_0__1_0 : Dj fp3_0 fp1_0) (J3_0__1_1 : Dj fp3_0 fp1_1) (J3_0__1 : Dj fp3_0 [b1]) :
  Calls Tryd.prog 53 #[ii p0, pt b1, pt b2, pt b3] w0 fun e w' => ∃ At3_0 capt3_0 fpt3_0, e = .returned (.bool (r.1)) ∧ Cl w' b2 2 [ii r.2.1] ∧ Cl w' b3 24 [.slice At3_0 r.2.2.length capt3_0] ∧ O1 2 w' fpt3_0 At3_0 capt3_0 r.2.2 ∧ Rt w0.heap.size fp3_0 fpt3_0 ∧ Chg ([b2] ++ ([b3] ++ (fp3_0 ++ []))) w0 w' := by
 have L1_0 := F1_0.low
 have L1_1 := F1_1.low
 have L1 := lt1 F1.lt
 have L2 := lt1 F2.lt
 have L3 := lt1 F3.lt
 have hB : Chg ([b2] ++ ([b3] ++ (fp3_0 ++ []))) w0 w0 := Chg.refl _ _
 unfold m_iLeftE2 at hm
 refine enterE (N := 21) Tryd.func53 (by rfl) Tryd.ntmps53 (by simp) [(0, ii p0), (1, pt b1), (2, pt b2), (3, pt b3)] (by rfl) (by kernel_rfl) (fun a => ?_)
 refine sR <| wP 1 [(5, .bool (false))] <| wN <| sR <| wP 1 [(9, ii p0)] ?_
 obtain ⟨y1, hy1, hm⟩ := bindE hm
 refine sC 10 [pt b1, ii p0] ent50 (c_iChannSpan hy1 F1_0 F1_1 F1) ?_
 rintro _ w1 ⟨rfl, hc1⟩
 replace F1_0 := F1_0.c hc1
 replace F1_1 := F1_1.c hc1
 replace F1 := F1.c hc1
 replace F2 := F2.c hc1
 replace F3_0 := F3_0.c hc1
 replace F3 := F3.c hc1
 replace hB := hB.q hc1
 refine ⟨.tuple #[ii y1.1, ii y1.2], rfl, ?_⟩
 refine wP 5 [(7, ii y1.2), (6, ii y1.1), (12, ii y1.2), (11, ii y1.1), (8, .tuple #[ii y1.1, ii y1.2])] <| wN <| cW_seq <| sR <| wP 1 [(13, ii y1.1)] <| sL 14 ⟨b2, 0, none⟩ (ii q2_0) vt2 ((F2).cell 0) <| wP 1 [(15, .bool (decide (y1.1 ≤ q2_0)))] <| wN <| cC (decide (y1.1 ≤ q2_0)) (fun hb1 => ?_) (fun hb1 => ?_)
 ·have hm := condT hb1 hm
  refine sR <| wP 1 [(5, .bool (false))] <| wN <| cW_ret <| eX_then_ret ?_
  obtain rfl := someE (x := ((false, q2_0, l3_0))) hm
  refine rA (.bool (false)) 5 ?_
  exact ⟨A3_0, cap3_0, fp3_0, rfl, F2, F3, F3_0, Rt.refl, hB⟩
 have hm := condF hb1 hm
 refine cW_skip <| eX_then <| sR <| sL 16 ⟨b3, 0, none⟩ (.slice A3_0 l3_0.length cap3_0) vt24 ((F3).cell 0) <| wP 1 [(17, ii p0)] <| wS_bs (enc := encI) ([p0] : List Int) [ii p0] (d := 18) (t := 24) (T := 2) (n := 1) (ps := [(0, ii p0)]) (by kernel_rfl) el24 encI_ok (by rfl) (by omega) (by omega) (by kernel_rfl) (by rfl) ?_
 intro b4 w2 G1 F4 hc2
 have D1 := Dj.of F3_0.low (low1 G1)
 replace F1_0 := F1_0.c hc2
 replace F1_1 := F1_1.c hc2
 replace F1 := F1.c hc2
 replace F2 := F2.c hc2
 replace F3_0 := F3_0.c hc2
 replace F3 := F3.c hc2
 replace G1 := Nat.le_trans hB.size G1
 replace G1 := low1 G1
 replace hB := hB.q hc2
 obtain ⟨_, hk1, hm⟩ := bindE hm
 replace hk1 := apE hk1
 refine wS_append (enc := encI) (l := (l3_0 : List Int)) (l2 := (([p0] : List Int) : List Int)) (d := 19) (t := 24) (T := 2) (A := A3_0) (A2 := (ad b4)) (cap := cap3_0) (cap2 := 1) (by kernel_rfl) el24 encI_ok F3_0 (F4.sl encI_ok) (by rfl) hk1 ?_
 intro w3 fp1 A1 cap1 F5 hc3 hp1
 have hap1 := Rt.of hp1 hB.size Rt.refl
 have D2 : Dj fp1_0 fp1 := Dj.ap (J3_0__1_0).symm F1_0.low hp1
 have D3 : Dj fp1_1 fp1 := Dj.ap (J3_0__1_1).symm F1_1.low hp1
 have D4 : Dj [b1] fp1 := Dj.ap (J3_0__1).symm (lt1 F1.lt) hp1
 have D5 : Dj [b2] fp1 := Dj.ap J2__3_0 (lt1 F2.lt) hp1
 have D6 : Dj [b3] fp1 := Dj.ap J3__3_0 (lt1 F3.lt) hp1
 have D7 : Dj [b4] fp1 := Dj.ap (D1).symm F4.low hp1
 replace F1_0 := F1_0.chg hc3 (J3_0__1_0).symm
 replace F1_1 := F1_1.chg hc3 (J3_0__1_1).symm
 replace F1 := F1.chg hc3 (dj1 (J3_0__1).symm)
 replace F2 := F2.chg hc3 (dj1 J2__3_0)
 replace F3 := F3.chg hc3 (dj1 J3__3_0)
 replace F4 := F4.chg hc3 (D1).symm
 replace hB := hB.inS hc3 (inRt Rt.refl (fun x hx => (List.mem_append_right _ (List.mem_append_right _ (List.mem_append_left _ hx)))))
 refine wP 1 [(20, ii y1.2)] <| wS_store (T := 24) (g := b3) (o := 0) (ad := ⟨b3, 0, none⟩) (v := .slice A1 (l3_0 ++ (([p0] : List Int))).length cap1) (vs := [.slice A1 (l3_0 ++ (([p0] : List Int))).length cap1]) (by kernel_rfl) (by rfl) sz24 (by rfl) (by rfl) F3 (bl rfl) ?_
 intro w4 F6 hc4
 replace F1_0 := F1_0.chg hc4 (J3__1_0).symm
 replace F1_1 := F1_1.chg hc4 (J3__1_1).symm
 replace F1 := F1.chg hc4 (dj1 (J3__1).symm)
 replace F2 := F2.chg hc4 (dj1 J2__3)
 replace F4 := F4.chg hc4 (Dj.of L3 G1).symm
 replace F5 := F5.chg hc4 (D6).symm
 replace hB := hB.inS hc4 (inMem (fun x hx => (List.mem_append_right _ (List.mem_append_left _ hx))))
 replace F6 : Cl w4 b3 24 [.slice A1 (l3_0 ++ (([p0] : List Int))).length cap1] := F6
 clear F3
 refine wS_store (T := 2) (g := b2) (o := 0) (ad := ⟨b2, 0, none⟩) (v := ii y1.2) (vs := [ii y1.2]) (by kernel_rfl) (by rfl) sz2 (by rfl) (by rfl) F2 (bl rfl) ?_
 intro w5 F7 hc5
 replace F1_0 := F1_0.chg hc5 (J2__1_0).symm
 replace F1_1 := F1_1.chg hc5 (J2__1_1).symm
 replace F1 := F1.chg hc5 (dj1 (J2__1).symm)
 replace F6 := F6.chg hc5 (dj1 (J2__3).symm)
 replace F4 := F4.chg hc5 (Dj.of L2 G1).symm
 replace F5 := F5.chg hc5 (D5).symm
 replace hB := hB.inS hc5 (inMem (fun x hx => (List.mem_append_left _ hx)))
 replace F7 : Cl w5 b2 2 [ii y1.2] := F7
 clear F2
 refine wN <| sR <| wP 1 [(5, .bool (true))] <| wN <| cW_ret ?_
 obtain rfl := someE (x := ((true, y1.2, l3_0 ++ (([p0] : List Int))))) hm
 refine rA (.bool (true)) 5 ?_
 exact ⟨A1, cap1, fp1, rfl, F7, F6, F5, hap1, hB⟩

set_option maxRecDepth 100000 in
theorem c_sIndexLeftE {w0 l0 A0 cap0 fp0 l1_0_0 A1_0_0 cap1_0_0 fp1_0_0 l1_0_1 A1_0_1 cap1_0_1 fp1_0_1 b1_0 q1_1_0 b1_1 l1_2_0 A1_2_0 cap1_2_0 fp1_2_0 b1_2} {r : (Int) × (Int) × (List Int)} (hm : m_sIndexLeftE l0 l1_0_0 l1_0_1 q1_1_0 l1_2_0 = some r) (F0 : S1 w0 fp0 A0 l0) (F1_0_0 : S1 w0 fp1_0_0 A1_0_0 l1_0_0) (F1_0_1 : S1 w0 fp1_0_1 A1_0_1 l1_0_1) (F1_0 : Cl w0 b1_0 26 [.slice A1_0_0 l1_0_0.length cap1_0_0, .slice A1_0_1 l1_0_1.length cap1_0_1]) (F1_1 : Cl w0 b1_1 2 [ii q1_1_0]) (F1_2_0 : O1 2 w0 fp1_2_0 A1_2_0 cap1_2_0 l1_2_0) (F1_2 : Cl w0 b1_2 24 [.slice A1_2_0 l1_2_0.length cap1_2_0]) (J1_1__0 : Dj [b1_1] fp0) (J1_1__1_0_0 : Dj [b1_1] fp1_0_0) (J1_1__1_0_1 : Dj [b1_1] fp1_0_1) (J1_1__1_0 : Dj [b1_1] [b1_0]) (J1_1__1_2_0 : Dj [b1_1] fp1_2_0) (J1_1__1_2 : Dj [b1_1] [b1_2]) (J1_2__0 : Dj [b1_2] fp0) (J1_2__1_0_0 : Dj [b1_2] fp1_0_0) (J1_2__1_0_1 : Dj [b1_2] fp1_0_1) (J1_2__1_0 : Dj [b1_2] [b1_0]) (J1_2__1_2_0 : Dj [b1_2] fp1_2_0) (J1_2_0__0 : Dj fp1_2_0 fp0) (J1_2_0__1_0_0 : Dj fp1_2_0 fp1_0_0) (J1_2_0__1_0_1 : Dj fp1_2_0 fp1_0_1) (J1_2_0__1_0 : Dj fp1_2_0 [b1_0]) :
  Calls Tryd.prog 89 #[.slice A0 l0.length cap0, .func (.func 53) #[] #[pt b1_0, pt b1_1, pt b1_2]] w0 fun e w' => ∃ At1_2_0 capt1_2_0 fpt1_2_0, e = .returned (ii r.1) ∧ Cl w' b1_1 2 [ii r.2.1] ∧ Cl w' b1_2 24 [.slice At1_2_0 r.2.2.length capt1_2_0] ∧ O1 2 w' fpt1_2_0 At1_2_0 capt1_2_0 r.2.2 ∧ Rt w0.heap.size fp1_2_0 fpt1_2_0 ∧ Chg ([b1_1] ++ ([b1_2] ++ (fp1_2_0 ++ []))) w0 w' := by
 have L0 := F0.low
 have L1_0_0 := F1_0_0.low
 have L1_0_1 := F1_0_1.low
 have L1_0 := lt1 F1_0.lt
 have L1_1 := lt1 F1_1.lt
 have L1_2 := lt1 F1_2.lt
 have hB : Chg ([b1_1] ++ ([b1_2] ++ (fp1_2_0 ++ []))) w0 w0 := Chg.refl _ _
 unfold m_sIndexLeftE at hm
 refine enterE (N := 19) Tryd.func89 (by rfl) Tryd.ntmps89 (by simp) [(0, .slice A0 l0.length cap0), (1, .func (.func 53) #[] #[pt b1_0, pt b1_1, pt b1_2])] (by rfl) (by kernel_rfl) (fun a => ?_)
 refine sR <| wP 1 [(4, ii 0)] <| wN <| cW_seq <| sR <| wP 3 [(8, ii 0), (7, ii (l0.length : Int)), (6, .slice A0 l0.length cap0)] <| wN ?_
 obtain ⟨r1, hr1, hm⟩ := bindE hm
 have hm1 := hm
 refine cW_cut (fun a' w' => ∃ x1 : Int, ∃ l1 : List Int, ∃ A1 : Option Addr, ∃ cap1 : Nat, ∃ fp1 : List Nat, Sum.inl ((x1, l1)) = r1 ∧ Fr 19 [] a' ∧ Cl w' b1_1 2 [ii x1] ∧ Cl w' b1_2 24 [.slice A1 l1.length cap1] ∧ O1 2 w' fp1 A1 cap1 l1 ∧ Rt w0.heap.size fp1_2_0 fp1 ∧ Dj [b1_1] fp1 ∧ Dj [b1_2] fp1 ∧ Chg ([b1_1] ++ ([b1_2] ++ (fp1_2_0 ++ []))) w0 w') ?_ ?_
 ·refine cW_block ?_
  refine cW_loop _ (fun (s1 : Int × Int × (List Int)) a' w' => ∃ x2 : Int, ∃ x3 : Int, ∃ l2 : List Int, ∃ A2 : Option Addr, ∃ cap2 : Nat, ∃ fp2 : List Nat, (x2, x3, l2) = s1 ∧ Fr 19 [(0, .slice A0 l0.length cap0), (1, .func (.func 53) #[] #[pt b1_0, pt b1_1, pt b1_2]), (7, ii (l0.length : Int)), (8, ii x2)] a' ∧ S1 w' fp0 A0 l0 ∧ S1 w' fp1_0_0 A1_0_0 l1_0_0 ∧ S1 w' fp1_0_1 A1_0_1 l1_0_1 ∧ Cl w' b1_0 26 [.slice A1_0_0 l1_0_0.length cap1_0_0, .slice A1_0_1 l1_0_1.length cap1_0_1] ∧ Cl w' b1_1 2 [ii x3] ∧ Cl w' b1_2 24 [.slice A2 l2.length cap2] ∧ O1 2 w' fp2 A2 cap2 l2 ∧ Rt w0.heap.size fp1_2_0 fp2 ∧ Dj fp0 fp2 ∧ Dj fp1_0_0 fp2 ∧ Dj fp1_0_1 fp2 ∧ Dj [b1_0] fp2 ∧ Dj [b1_1] fp2 ∧ Dj [b1_2] fp2 ∧ Chg ([b1_1] ++ ([b1_2] ++ (fp1_2_0 ++ []))) w0 w') hr1 (fun hst => ⟨0, q1_1_0, l1_2_0, A1_2_0, cap1_2_0, fp1_2_0, rfl, fO hst, F0, F1_0_0, F1_0_1, F1_0, F1_1, F1_2, F1_2_0, Rt.refl, (J1_2_0__0).symm, (J1_2_0__1_0_0).symm, (J1_2_0__1_0_1).symm, (J1_2_0__1_0).symm, J1_1__1_2_0, J1_2__1_2_0, hB⟩) ?_
  rintro _ c1 a' w1 ⟨x2, x3, l2, A2, cap2, fp2, rfl, hF1, F1, F2, F3, F4, F5, F6, F7, hap1, D1, D2, D3, D4, D5, D6, hB⟩ hx1
  refine gO hF1 ?_
  have hm := hx1
  unfold m_sIndexLeftE_s1 at hm
  refine sR <| wP 1 [(9, .bool (decide (x2 < ((l0.length : Int)))))] <| wN <| cW_seq <| cC (decide (x2 < ((l0.length : Int)))) (fun hb1 => ?_) (fun hb1 => ?_)
  ·have hm := condT hb1 hm
   refine cW_skip <| eX_then <| cW_seq <| cW_block <| sR <| wP 2 [(5, ii x2), (10, ii x2)] <| wN <| sR <| wP 3 [(13, ii x2), (12, .slice A0 l0.length cap0), (11, .func (.func 53) #[] #[pt b1_0, pt b1_1, pt b1_2])] ?_
   obtain ⟨x4, hx2, hm⟩ := bindE hm
   refine sI 14 A0 l0.length cap0 .i64 x2 sl24 (F1.is hx2) <| sL 15 (elA A0 1 (x2) 0) (ii x4) vt2 (Sl.cell F1 hx2 0 (by rfl)) ?_
   obtain ⟨y1, hy1, hm⟩ := bindE hm
   refine sC 16 [ii x4, pt b1_0, pt b1_1, pt b1_2] ent53 (c_iLeftE2 hy1 F2 F3 F4 F5 F7 F6 J1_1__1_0_0 J1_1__1_0_1 J1_1__1_0 D5 J1_1__1_2 J1_2__1_0_0 J1_2__1_0_1 J1_2__1_0 D6 (D2).symm (D3).symm (D4).symm) ?_
   rintro _ w2 ⟨A3, cap3, fp3, rfl, F8, F9, F10, hap2, hc1⟩
   have hap3 := Rt.of hap2 hB.size hap1
   have D7 : Dj fp0 fp3 := Dj.ap D1 F1.low hap2
   have D8 : Dj fp1_0_0 fp3 := Dj.ap D2 F2.low hap2
   have D9 : Dj fp1_0_1 fp3 := Dj.ap D3 F3.low hap2
   have D10 : Dj [b1_0] fp3 := Dj.ap D4 (lt1 F4.lt) hap2
   have D11 : Dj [b1_1] fp3 := Dj.ap D5 (lt1 F5.lt) hap2
   have D12 : Dj [b1_2] fp3 := Dj.ap D6 (lt1 F6.lt) hap2
   replace F1 := F1.chg hc1 (Dj.app (J1_1__0).symm (Dj.app (J1_2__0).symm (Dj.app D1 Dj.nil)))
   replace F2 := F2.chg hc1 (Dj.app (J1_1__1_0_0).symm (Dj.app (J1_2__1_0_0).symm (Dj.app D2 Dj.nil)))
   replace F3 := F3.chg hc1 (Dj.app (J1_1__1_0_1).symm (Dj.app (J1_2__1_0_1).symm (Dj.app D3 Dj.nil)))
   replace F4 := F4.chg hc1 (dj1 (Dj.app (J1_1__1_0).symm (Dj.app (J1_2__1_0).symm (Dj.app D4 Dj.nil))))
   replace hB := hB.inS hc1 (inApp (inMem (fun x hx => (List.mem_append_left _ hx))) (inApp (inMem (fun x hx => (List.mem_append_right _ (List.mem_append_left _ hx)))) (inApp (inRt hap1 (fun x hx => (List.mem_append_right _ (List.mem_append_right _ (List.mem_append_left _ hx))))) inNil)))
   clear F5
   clear F6
   refine ⟨.bool (y1.1), rfl, ?_⟩
   refine wN <| cC y1.1 (fun hb2 => ?_) (fun hb2 => ?_)
   ·have hm := condT hb2 hm
    refine sR <| wP 2 [(4, ii x2), (17, ii x2)] <| wN <| cW_ret <| eX_block_ret <| eX_then_ret ?_
    obtain rfl := someE (x := (Ctl.out (Sum.inr ((x2, y1.2.1, y1.2.2))))) hm
    refine eX_outR hx1 (fun hr => ?_)
    subst hr
    refine eX_block_ret <| eX_then_ret <| eX_then_ret ?_
    obtain rfl := someE (x := ((x2, y1.2.1, y1.2.2))) hm1
    refine rA (ii x2) 4 ?_
    exact ⟨A3, cap3, fp3, rfl, F8, F9, F10, hap3, hB⟩
   have hm := condF hb2 hm
   refine cW_skip <| eX_block <| eX_then <| cW_region <| wP 2 [(8, ii (wr (x2 + 1))), (18, ii (wr (x2 + 1)))] <| wE ?_
   obtain rfl := someE (x := (Ctl.next ((wr (x2 + 1), y1.2.1, y1.2.2)))) hm
   exact eX_next hx1 (fun hst => ⟨wr (x2 + 1), y1.2.1, y1.2.2, A3, cap3, fp3, rfl, fO hst, F1, F2, F3, F4, F8, F9, F10, hap3, D7, D8, D9, D10, D11, D12, hB⟩)
  have hm := condF hb1 hm
  refine cW_exit <| eX_then_exit ?_
  obtain rfl := someE (x := (Ctl.out (Sum.inl ((x3, l2))))) hm
  refine eX_outX hx1 (fun hr2 => ?_)
  replace hr2 := hr2.symm
  subst hr2
  refine eX_block_hit ?_
  exact eX_J (fun hst => ⟨x3, l2, A2, cap2, fp2, rfl, fO hst, F5, F6, F7, hap1, D5, D6, hB⟩)
 rintro a' w3 ⟨x1, l1, A1, cap1, fp1, hJ, hF2, F11, F12, F13, hap4, D13, D14, hB⟩
 subst hJ
 refine gX hF2 <| eX_then <| sR <| wP 1 [(4, ii ((-1)))] <| wN <| cW_ret ?_
 obtain rfl := someE (x := (((-1), x1, l1))) hm
 refine rA (ii ((-1))) 4 ?_
 exact ⟨A1, cap1, fp1, rfl, F11, F12, F13, hap4, hB⟩

set_option maxRecDepth 100000 in
theorem c_sDeletLeftE {w0 l0 A0 cap0 fp0 l1_0_0 A1_0_0 cap1_0_0 fp1_0_0 l1_0_1 A1_0_1 cap1_0_1 fp1_0_1 b1_0 q1_1_0 b1_1 l1_2_0 A1_2_0 cap1_2_0 fp1_2_0 b1_2} {r : (List Int) × (Int) × (List Int)} (hm : m_sDeletLeftE l0 l1_0_0 l1_0_1 q1_1_0 l1_2_0 = some r) (F0 : O1 2 w0 fp0 A0 cap0 l0) (K0 : l0.length ≤ cap0) (F1_0_0 : S1 w0 fp1_0_0 A1_0_0 l1_0_0) (F1_0_1 : S1 w0 fp1_0_1 A1_0_1 l1_0_1) (F1_0 : Cl w0 b1_0 26 [.slice A1_0_0 l1_0_0.length cap1_0_0, .slice A1_0_1 l1_0_1.length cap1_0_1]) (F1_1 : Cl w0 b1_1 2 [ii q1_1_0]) (F1_2_0 : O1 2 w0 fp1_2_0 A1_2_0 cap1_2_0 l1_2_0) (F1_2 : Cl w0 b1_2 24 [.slice A1_2_0 l1_2_0.length cap1_2_0]) (J0__1_0_0 : Dj fp0 fp1_0_0) (J0__1_0_1 : Dj fp0 fp1_0_1) (J0__1_0 : Dj fp0 [b1_0]) (J0__1_1 : Dj fp0 [b1_1]) (J0__1_2_0 : Dj fp0 fp1_2_0) (J0__1_2 : Dj fp0 [b1_2]) (J1_1__1_0_0 : Dj [b1_1] fp1_0_0) (J1_1__1_0_1 : Dj [b1_1] fp1_0_1) (J1_1__1_0 : Dj [b1_1] [b1_0]) (J1_1__1_2_0 : Dj [b1_1] fp1_2_0) (J1_1__1_2 : Dj [b1_1] [b1_2]) (J1_2__1_0_0 : Dj [b1_2] fp1_0_0) (J1_2__1_0_1 : Dj [b1_2] fp1_0_1) (J1_2__1_0 : Dj [b1_2] [b1_0]) (J1_2__1_2_0 : Dj [b1_2] fp1_2_0) (J1_2_0__1_0_0 : Dj fp1_2_0 fp1_0_0) (J1_2_0__1_0_1 : Dj fp1_2_0 fp1_0_1) (J1_2_0__1_0 : Dj fp1_2_0 [b1_0]) :
  Calls Tryd.prog 52 #[.slice A0 l0.length cap0, .func (.func 53) #[] #[pt b1_0, pt b1_1, pt b1_2]] w0 fun e w' => ∃ At1_2_0 capt1_2_0 fpt1_2_0, e = .returned (.slice A0 r.1.length cap0) ∧ O1 2 w' fp0 A0 cap0 r.1 ∧ Dj fp0 fpt1_2_0 ∧ Cl w' b1_1 2 [ii r.2.1] ∧ Cl w' b1_2 24 [.slice At1_2_0 r.2.2.length capt1_2_0] ∧ O1 2 w' fpt1_2_0 At1_2_0 capt1_2_0 r.2.2 ∧ Rt w0.heap.size fp1_2_0 fpt1_2_0 ∧ Chg (fp0 ++ ([b1_1] ++ ([b1_2] ++ (fp1_2_0 ++ [])))) w0 w' := by
 have L0 := F0.low
 have L1_0_0 := F1_0_0.low
 have L1_0_1 := F1_0_1.low
 have L1_0 := lt1 F1_0.lt
 have L1_1 := lt1 F1_1.lt
 have L1_2 := lt1 F1_2.lt
 have hB : Chg (fp0 ++ ([b1_1] ++ ([b1_2] ++ (fp1_2_0 ++ [])))) w0 w0 := Chg.refl _ _
 unfold m_sDeletLeftE at hm
 refine enterE (N := 42) Tryd.func52 (by rfl) Tryd.ntmps52 (by simp) [(0, .slice A0 l0.length cap0), (1, .func (.func 53) #[] #[pt b1_0, pt b1_1, pt b1_2])] (by rfl) (by kernel_rfl) (fun a => ?_)
 refine sR <| wP 1 [(4, .slice none 0 0)] <| wN <| sR <| wP 2 [(9, .func (.func 53) #[] #[pt b1_0, pt b1_1, pt b1_2]), (8, .slice A0 l0.length cap0)] ?_
 obtain ⟨y1, hy1, hm⟩ := bindE hm
 refine sC 10 [.slice A0 l0.length cap0, .func (.func 53) #[] #[pt b1_0, pt b1_1, pt b1_2]] ent89 (c_sIndexLeftE hy1 (F0.sl encI_ok) F1_0_0 F1_0_1 F1_0 F1_1 F1_2_0 F1_2 (J0__1_1).symm J1_1__1_0_0 J1_1__1_0_1 J1_1__1_0 J1_1__1_2_0 J1_1__1_2 (J0__1_2).symm J1_2__1_0_0 J1_2__1_0_1 J1_2__1_0 J1_2__1_2_0 (J0__1_2_0).symm J1_2_0__1_0_0 J1_2_0__1_0_1 J1_2_0__1_0) ?_
 rintro _ w1 ⟨A1, cap1, fp1, rfl, F1, F2, F3, hap1, hc1⟩
 have hap2 := Rt.of hap1 hB.size Rt.refl
 have D1 : Dj fp0 fp1 := Dj.ap J0__1_2_0 F0.low hap1
 have D2 : Dj fp1_0_0 fp1 := Dj.ap (J1_2_0__1_0_0).symm F1_0_0.low hap1
 have D3 : Dj fp1_0_1 fp1 := Dj.ap (J1_2_0__1_0_1).symm F1_0_1.low hap1
 have D4 : Dj [b1_0] fp1 := Dj.ap (J1_2_0__1_0).symm (lt1 F1_0.lt) hap1
 have D5 : Dj [b1_1] fp1 := Dj.ap J1_1__1_2_0 (lt1 F1_1.lt) hap1
 have D6 : Dj [b1_2] fp1 := Dj.ap J1_2__1_2_0 (lt1 F1_2.lt) hap1
 replace F0 := F0.chg hc1 (Dj.app J0__1_1 (Dj.app J0__1_2 (Dj.app J0__1_2_0 Dj.nil)))
 replace F1_0_0 := F1_0_0.chg hc1 (Dj.app (J1_1__1_0_0).symm (Dj.app (J1_2__1_0_0).symm (Dj.app (J1_2_0__1_0_0).symm Dj.nil)))
 replace F1_0_1 := F1_0_1.chg hc1 (Dj.app (J1_1__1_0_1).symm (Dj.app (J1_2__1_0_1).symm (Dj.app (J1_2_0__1_0_1).symm Dj.nil)))
 replace F1_0 := F1_0.chg hc1 (dj1 (Dj.app (J1_1__1_0).symm (Dj.app (J1_2__1_0).symm (Dj.app (J1_2_0__1_0).symm Dj.nil))))
 replace hB := hB.inS hc1 (inApp (inMem (fun x hx => (List.mem_append_right _ (List.mem_append_left _ hx)))) (inApp (inMem (fun x hx => (List.mem_append_right _ (List.mem_append_right _ (List.mem_append_left _ hx))))) (inApp (inRt Rt.refl (fun x hx => (List.mem_append_right _ (List.mem_append_right _ (List.mem_append_right _ (List.mem_append_left _ hx)))))) inNil)))
 clear F1_1
 clear F1_2
 refine ⟨ii y1.1, rfl, ?_⟩
 refine wP 1 [(5, ii y1.1)] <| wN <| cW_seq <| sR <| wP 2 [(12, .bool (y1.1 == ((-1)))), (11, ii y1.1)] <| wN <| cC (y1.1 == ((-1))) (fun hb1 => ?_) (fun hb1 => ?_)
 ·have hm := condT hb1 hm
  refine sR <| wP 2 [(4, .slice A0 l0.length cap0), (13, .slice A0 l0.length cap0)] <| wN <| cW_ret <| eX_then_ret ?_
  obtain rfl := someE (x := ((l0, y1.2.1, y1.2.2))) hm
  refine rA (.slice A0 l0.length cap0) 4 ?_
  exact ⟨A1, cap1, fp1, rfl, F0, D1, F1, F2, F3, hap2, hB⟩
 have hm := condF hb1 hm
 refine cW_skip <| eX_then <| cW_seq <| sR <| wP 3 [(6, ii (wr (y1.1 + 1))), (15, ii (wr (y1.1 + 1))), (14, ii y1.1)] <| wN ?_
 obtain ⟨r1, hr1, hm⟩ := bindE hm
 have hm1 := hm
 refine cW_cut (fun a' w' => ∃ x1 : Int, ∃ l1 : List Int, ∃ x2 : Int, ∃ l2 : List Int, ∃ A2 : Option Addr, ∃ cap2 : Nat, ∃ fp2 : List Nat, (x1, l1, x2, l2) = r1 ∧ Fr 42 [(0, .slice A0 l1.length cap0), (5, ii x1)] a' ∧ O1 2 w' fp0 A0 cap0 l1 ∧ Cl w' b1_1 2 [ii x2] ∧ Cl w' b1_2 24 [.slice A2 l2.length cap2] ∧ O1 2 w' fp2 A2 cap2 l2 ∧ l1.length = l0.length ∧ Rt w0.heap.size fp1_2_0 fp2 ∧ Dj fp0 fp2 ∧ Dj [b1_1] fp2 ∧ Dj [b1_2] fp2 ∧ Chg (fp0 ++ ([b1_1] ++ ([b1_2] ++ (fp1_2_0 ++ [])))) w0 w') ?_ ?_
 ·refine cW_block ?_
  refine cW_loop _ (fun (s1 : Int × Int × (List Int) × Int × (List Int)) a' w' => ∃ x3 : Int, ∃ x4 : Int, ∃ l3 : List Int, ∃ x5 : Int, ∃ l4 : List Int, ∃ A3 : Option Addr, ∃ cap3 : Nat, ∃ fp3 : List Nat, (x3, x4, l3, x5, l4) = s1 ∧ Fr 42 [(0, .slice A0 l3.length cap0), (1, .func (.func 53) #[] #[pt b1_0, pt b1_1, pt b1_2]), (5, ii x3), (6, ii x4)] a' ∧ O1 2 w' fp0 A0 cap0 l3 ∧ S1 w' fp1_0_0 A1_0_0 l1_0_0 ∧ S1 w' fp1_0_1 A1_0_1 l1_0_1 ∧ Cl w' b1_0 26 [.slice A1_0_0 l1_0_0.length cap1_0_0, .slice A1_0_1 l1_0_1.length cap1_0_1] ∧ Cl w' b1_1 2 [ii x5] ∧ Cl w' b1_2 24 [.slice A3 l4.length cap3] ∧ O1 2 w' fp3 A3 cap3 l4 ∧ l3.length = l0.length ∧ Rt w0.heap.size fp1_2_0 fp3 ∧ Dj fp0 fp3 ∧ Dj fp1_0_0 fp3 ∧ Dj fp1_0_1 fp3 ∧ Dj [b1_0] fp3 ∧ Dj [b1_1] fp3 ∧ Dj [b1_2] fp3 ∧ Chg (fp0 ++ ([b1_1] ++ ([b1_2] ++ (fp1_2_0 ++ [])))) w0 w') hr1 (fun hst => ⟨y1.1, wr (y1.1 + 1), l0, y1.2.1, y1.2.2, A1, cap1, fp1, rfl, fO hst, F0, F1_0_0, F1_0_1, F1_0, F1, F2, F3, (Eq.refl l0.length), hap2, D1, D2, D3, D4, D5, D6, hB⟩) ?_
  rintro _ c1 a' w2 ⟨x3, x4, l3, x5, l4, A3, cap3, fp3, rfl, hF1, F4, F5, F6, F7, F8, F9, F10, hl1, hap3, D7, D8, D9, D10, D11, D12, hB⟩ hx1
  refine gO hF1 ?_
  have hm := hx1
  unfold m_sDeletLeftE_s1 at hm
  refine cW_seq <| sR <| wP 4 [(19, .bool (decide (x4 < ((l3.length : Int))))), (18, ii (l3.length : Int)), (17, .slice A0 l3.length cap0), (16, ii x4)] <| wN <| cC (decide (x4 < ((l3.length : Int)))) (fun hb2 => ?_) (fun hb2 => ?_)
  ·have hm := condT hb2 hm
   refine cW_skip <| eX_then <| cW_seq <| cW_block ?_
   obtain ⟨s2, hs1, hm⟩ := bindE hm
   refine cW_cut (fun a' w' => ∃ x6 : Int, ∃ l5 : List Int, ∃ x7 : Int, ∃ l6 : List Int, ∃ A4 : Option Addr, ∃ cap4 : Nat, ∃ fp4 : List Nat, (x6, l5, x7, l6) = s2 ∧ Fr 42 [(0, .slice A0 l5.length cap0), (1, .func (.func 53) #[] #[pt b1_0, pt b1_1, pt b1_2]), (5, ii x6), (6, ii x4)] a' ∧ O1 2 w' fp0 A0 cap0 l5 ∧ S1 w' fp1_0_0 A1_0_0 l1_0_0 ∧ S1 w' fp1_0_1 A1_0_1 l1_0_1 ∧ Cl w' b1_0 26 [.slice A1_0_0 l1_0_0.length cap1_0_0, .slice A1_0_1 l1_0_1.length cap1_0_1] ∧ Cl w' b1_1 2 [ii x7] ∧ Cl w' b1_2 24 [.slice A4 l6.length cap4] ∧ O1 2 w' fp4 A4 cap4 l6 ∧ l5.length = l0.length ∧ Rt w0.heap.size fp1_2_0 fp4 ∧ Dj fp0 fp4 ∧ Dj fp1_0_0 fp4 ∧ Dj fp1_0_1 fp4 ∧ Dj [b1_0] fp4 ∧ Dj [b1_1] fp4 ∧ Dj [b1_2] fp4 ∧ Chg (fp0 ++ ([b1_1] ++ ([b1_2] ++ (fp1_2_0 ++ [])))) w0 w') ?_ ?_
   ·have hm := hs1
    refine sR <| wP 2 [(23, ii x4), (22, .slice A0 l3.length cap0)] ?_
    obtain ⟨x8, hx2, hm⟩ := bindE hm
    refine sI 24 A0 l3.length cap0 .i64 x4 sl24 ((F4.sl encI_ok).is hx2) <| sL 25 (elA A0 1 (x4) 0) (ii x8) vt2 (Sl.cell (F4.sl encI_ok) hx2 0 (by rfl)) <| wP 1 [(7, ii x8)] <| wN <| sR <| wP 2 [(27, ii x8), (26, .func (.func 53) #[] #[pt b1_0, pt b1_1, pt b1_2])] ?_
    obtain ⟨y2, hy2, hm⟩ := bindE hm
    refine sC 28 [ii x8, pt b1_0, pt b1_1, pt b1_2] ent53 (c_iLeftE2 hy2 F5 F6 F7 F8 F10 F9 J1_1__1_0_0 J1_1__1_0_1 J1_1__1_0 D11 J1_1__1_2 J1_2__1_0_0 J1_2__1_0_1 J1_2__1_0 D12 (D8).symm (D9).symm (D10).symm) ?_
    rintro _ w3 ⟨A5, cap5, fp5, rfl, F11, F12, F13, hap4, hc2⟩
    have hap5 := Rt.of hap4 hB.size hap3
    have D13 : Dj fp0 fp5 := Dj.ap D7 F4.low hap4
    have D14 : Dj fp1_0_0 fp5 := Dj.ap D8 F5.low hap4
    have D15 : Dj fp1_0_1 fp5 := Dj.ap D9 F6.low hap4
    have D16 : Dj [b1_0] fp5 := Dj.ap D10 (lt1 F7.lt) hap4
    have D17 : Dj [b1_1] fp5 := Dj.ap D11 (lt1 F8.lt) hap4
    have D18 : Dj [b1_2] fp5 := Dj.ap D12 (lt1 F9.lt) hap4
    replace F4 := F4.chg hc2 (Dj.app J0__1_1 (Dj.app J0__1_2 (Dj.app D7 Dj.nil)))
    replace F5 := F5.chg hc2 (Dj.app (J1_1__1_0_0).symm (Dj.app (J1_2__1_0_0).symm (Dj.app D8 Dj.nil)))
    replace F6 := F6.chg hc2 (Dj.app (J1_1__1_0_1).symm (Dj.app (J1_2__1_0_1).symm (Dj.app D9 Dj.nil)))
    replace F7 := F7.chg hc2 (dj1 (Dj.app (J1_1__1_0).symm (Dj.app (J1_2__1_0).symm (Dj.app D10 Dj.nil))))
    replace hB := hB.inS hc2 (inApp (inMem (fun x hx => (List.mem_append_right _ (List.mem_append_left _ hx)))) (inApp (inMem (fun x hx => (List.mem_append_right _ (List.mem_append_right _ (List.mem_append_left _ hx))))) (inApp (inRt hap3 (fun x hx => (List.mem_append_right _ (List.mem_append_right _ (List.mem_append_right _ (List.mem_append_left _ hx)))))) inNil)))
    clear F8
    clear F9
    refine ⟨.bool (y2.1), rfl, ?_⟩
    refine wP 1 [(29, .bool (!y2.1))] <| wN <| cC (!y2.1) (fun hb3 => ?_) (fun hb3 => ?_)
    ·have hm := condT hb3 hm
     refine sR <| wP 3 [(32, ii x8), (31, ii x3), (30, .slice A0 l3.length cap0)] ?_
     obtain ⟨x9, hx3, hm⟩ := bindE hm
     refine sI 33 A0 l3.length cap0 .i64 x3 sl24 ((F4.sl encI_ok).is hx3) <| wS_storeEl (x := x9) x8 (T := 2) (U := 2) (cap := cap0) (j := 0) (A := A0) (v := ii x8) (vs := [ii x8]) (m := x3) (by kernel_rfl) (by rfl) sz2 (by rfl) encI_ok F4 hx3 (bl rfl) (by rfl) ?_
     intro w4 F14 hc3
     replace F5 := F5.chg hc3 (J0__1_0_0).symm
     replace F6 := F6.chg hc3 (J0__1_0_1).symm
     replace F7 := F7.chg hc3 (dj1 (J0__1_0).symm)
     replace F11 := F11.chg hc3 (dj1 (J0__1_1).symm)
     replace F12 := F12.chg hc3 (dj1 (J0__1_2).symm)
     replace F13 := F13.chg hc3 (D13).symm
     replace hB := hB.inS hc3 (inMem (fun x hx => (List.mem_append_left _ hx)))
     clear F4
     have hl2 := (show (l3.set (Int.toNat x3) x8).length = l3.length from List.length_set ..).trans hl1
     rewrite [show l3.length = (l3.set (Int.toNat x3) x8).length from (List.length_set ..).symm]
     refine wN <| cW_region <| wP 3 [(5, ii (wr (x3 + 1))), (35, ii (wr (x3 + 1))), (34, ii x3)] <| wE ?_
     obtain rfl := someE (x := ((wr (x3 + 1), l3.set (Int.toNat x3) x8, y2.2.1, y2.2.2))) hm
     exact eX_J (fun hst => ⟨wr (x3 + 1), l3.set (Int.toNat x3) x8, y2.2.1, y2.2.2, A5, cap5, fp5, rfl, fO hst, F14, F5, F6, F7, F11, F12, F13, hl2, hap5, D13, D14, D15, D16, D17, D18, hB⟩)
    have hm := condF hb3 hm
    refine cW_skip ?_
    obtain rfl := someE (x := ((x3, l3, y2.2.1, y2.2.2))) hm
    exact eX_J (fun hst => ⟨x3, l3, y2.2.1, y2.2.2, A5, cap5, fp5, rfl, fO hst, F4, F5, F6, F7, F11, F12, F13, hl1, hap5, D13, D14, D15, D16, D17, D18, hB⟩)
   rintro a' w5 ⟨x6, l5, x7, l6, A4, cap4, fp4, hJ, hF2, F15, F16, F17, F18, F19, F20, F21, hl3, hap6, D19, D20, D21, D22, D23, D24, hB⟩
   subst hJ
   refine gX hF2 <| eX_block <| eX_then <| cW_region <| wP 3 [(6, ii (wr (x4 + 1))), (21, ii (wr (x4 + 1))), (20, ii x4)] <| wE ?_
   obtain rfl := someE (x := (Ctl.next ((x6, wr (x4 + 1), l5, x7, l6)))) hm
   exact eX_next hx1 (fun hst => ⟨x6, wr (x4 + 1), l5, x7, l6, A4, cap4, fp4, rfl, fO hst, F15, F16, F17, F18, F19, F20, F21, hl3, hap6, D19, D20, D21, D22, D23, D24, hB⟩)
  have hm := condF hb2 hm
  refine cW_exit <| eX_then_exit ?_
  obtain rfl := someE (x := (Ctl.out ((x3, l3, x5, l4)))) hm
  refine eX_outX hx1 (fun hr2 => ?_)
  replace hr2 := hr2.symm
  subst hr2
  refine eX_block_hit ?_
  exact eX_J (fun hst => ⟨x3, l3, x5, l4, A3, cap3, fp3, rfl, fO hst, F4, F8, F9, F10, hl1, hap3, D7, D11, D12, hB⟩)
 rintro a' w6 ⟨x1, l1, x2, l2, A2, cap2, fp2, hJ, hF3, F22, F23, F24, F25, hl4, hap7, D25, D26, D27, hB⟩
 subst hJ
 refine gX hF3 <| eX_then <| sR <| wP 2 [(37, ii x1), (36, .slice A0 l1.length cap0)] ?_
 obtain ⟨y3, hy3, hm⟩ := bindE hm
 refine wS_cutA (enc := encI) (l := l1) (d := 38) (T := 24) (A := A0) (cap := cap0) (vlo := some (ii x1)) (vhi := none) (lo := x1) (hi := (l1.length : Int)) (n := 0) (by kernel_rfl) sl24 (Or.inl rfl) (Or.inr ⟨rfl, rfl⟩) (F22.sl encI_ok) F22.cap_le hy3 ?_
 intro A6 cap6 hA1 F26 hcap1
 obtain rfl := slci_slc hy3
 have hcz1 := F22.cap_le
 refine wS_clear (A' := A6) (c' := cap6) (x0 := (0 : Int)) (l := l1) (l0 := l1) (T := 24) (A := A0) (cap := cap0) (lo := x1) (by kernel_rfl) el24 encI_ok (by rfl) (by kernel_rfl) F22 hA1 hy3 rfl ?_
 intro w7 F27 hlc1 hc4
 replace F23 := F23.chg hc4 (dj1 (J0__1_1).symm)
 replace F24 := F24.chg hc4 (dj1 (J0__1_2).symm)
 replace F25 := F25.chg hc4 (D25).symm
 replace hB := hB.inS hc4 (inMem (fun x hx => (List.mem_append_left _ hx)))
 clear F22
 have hl5 := hlc1.trans hl4
 rewrite [show l1.length = (clr (0 : Int) l1 x1).length from hlc1.symm]
 refine wN <| sR <| wP 2 [(40, ii x1), (39, .slice A0 (clr (0 : Int) l1 x1).length cap0)] ?_
 obtain ⟨y4, hy4, hm⟩ := bindE hm
 refine wS_prefix (k := 1) (enc := encI) (U := 2) (l := clr (0 : Int) l1 x1) (d := 41) (T := 24) (A := A0) (cap := cap0) (hi := x1) (by kernel_rfl) sl24 encI_ok F27 F27.cap_le hy4 ?_
 intro hpe F28
 subst hpe
 refine wP 1 [(4, .slice A0 ((clr (0 : Int) l1 x1).take (Int.toNat x1)).length cap0)] <| wN <| cW_ret ?_
 obtain rfl := someE (x := (((clr (0 : Int) l1 x1).take (Int.toNat x1), x2, l2))) hm
 refine rA (.slice A0 ((clr (0 : Int) l1 x1).take (Int.toNat x1)).length cap0) 4 ?_
 exact ⟨A2, cap2, fp2, rfl, F28, D25, F23, F24, F25, hap7, hB⟩

set_option maxRecDepth 100000 in
theorem c_iLeftE {w0 l0_0 A0_0 cap0_0 fp0_0 l0_1 A0_1 cap0_1 fp0_1} {r : (List (List Int)) × Bool} (hm : m_iLeftE l0_0 l0_1 = some r) (F0_0 : S1 w0 fp0_0 A0_0 l0_0) (K0_0 : l0_0.length ≤ cap0_0) (F0_1 : S1 w0 fp0_1 A0_1 l0_1) (K0_1 : l0_1.length ≤ cap0_1) :
  Calls Tryd.prog 13 #[.agg #[.slice A0_0 l0_0.length cap0_0, .slice A0_1 l0_1.length cap0_1]] w0 fun e w' => ∃ A1 cap100 fp100 fr100, e = .returned (.tuple #[.slice A1 r.1.length cap100, .bool (r.2)]) ∧ OwR 1 encI 24 2 w' fp100 fr100 A1 cap100 r.1 ∧ (∀ x ∈ fp100 ++ fr100, w0.heap.size ≤ x) ∧ Chg [] w0 w' := by
 have L0_0 := F0_0.low
 have L0_1 := F0_1.low
 have hB : Chg [] w0 w0 := Chg.refl _ _
 unfold m_iLeftE at hm
 refine enterE (N := 35) Tryd.func13 (by rfl) Tryd.ntmps13 (by simp) [(0, .agg #[.slice A0_0 l0_0.length cap0_0, .slice A0_1 l0_1.length cap0_1])] (by rfl) (by kernel_rfl) (fun a => ?_)
 refine sR <| wS_box (d := 1) (T := 26) (x := .agg #[.slice A0_0 l0_0.length cap0_0, .slice A0_1 l0_1.length cap0_1]) (by kernel_rfl) ?_
 intro b1 w1 G1 F1 hc1
 replace F1 : Cl w1 b1 26 [.slice A0_0 l0_0.length cap0_0, .slice A0_1 l0_1.length cap0_1] := F1
 replace F0_0 := F0_0.c hc1
 replace F0_1 := F0_1.c hc1
 replace G1 := Nat.le_trans hB.size G1
 replace hB := hB.q hc1
 refine wP 2 [(3, .bool (false)), (2, .slice none 0 0)] <| wN <| cW_seq <| sR <| wS_loadA (d := 8) (T := 26) (ad := ⟨b1, 0, none⟩) (vs := [.slice A0_0 l0_0.length cap0_0, .slice A0_1 l0_1.length cap0_1]) (by kernel_rfl) vt26 (fun i u hu => box_cells F1 0 hu (by rfl)) ?_
 obtain ⟨y1, hy1, hm⟩ := bindE hm
 refine sC 9 [.agg #[.slice A0_0 l0_0.length cap0_0, .slice A0_1 l0_1.length cap0_1]] ent36 (c_iValid hy1 F0_0 K0_0 F0_1 K0_1) ?_
 rintro _ w2 ⟨rfl, hc2⟩
 replace F0_0 := F0_0.c hc2
 replace F0_1 := F0_1.c hc2
 replace F1 := F1.c hc2
 replace hB := hB.q hc2
 refine ⟨.bool (y1), rfl, ?_⟩
 refine wP 2 [(11, .bool (!y1)), (10, .bool (!y1))] <| wS_bool (!y1) (fun hb1 => ?_) (fun hb1 => ?_)
 ·have hm := condT hb1 hm
  rewrite [hb1]
  refine wP 4 [(15, .bool (true)), (14, undef), (13, undef), (12, undef)] <| wN <| cCt <| sR <| wP 2 [(3, .bool (false)), (2, .slice none 0 0)] <| wN <| cW_ret <| eX_then_ret ?_
  obtain rfl := someE (x := (([], false))) hm
  refine rB (.slice none 0 0) (.bool (false)) 2 3 ?_
  exact ⟨none, 0, [], [], rfl, OwR.nil _, (lowApp lowNil lowNil), hB⟩
 have hm := condF hb1 hm
 rewrite [hb1]
 obtain ⟨y2, hy2, hm⟩ := bindE hm
 refine sC 12 [pt b1] ent47 (c_iChannAbove1 hy2 F0_0 F0_1 F1) ?_
 rintro _ w3 ⟨b2, rfl, F2, G2, hc3⟩
 have D1 := Dj.of (lt1 F1.lt) G2
 replace F0_0 := F0_0.c hc3
 replace F0_1 := F0_1.c hc3
 replace F1 := F1.c hc3
 replace G2 := low_le hB.size G2
 replace hB := hB.q hc3
 refine ⟨.map (some b2), rfl, ?_⟩
 refine wS_mlen (d := 13) (T := 69) (by kernel_rfl) mp69 F2 <| wP 2 [(15, .bool (decide (((y2.length : Int)) > 0))), (14, .bool (decide (((y2.length : Int)) > 0)))] <| wN <| cC (decide (((y2.length : Int)) > 0)) (fun hb2 => ?_) (fun hb2 => ?_)
 ·have hm := condT hb2 hm
  refine sR <| wP 2 [(3, .bool (false)), (2, .slice none 0 0)] <| wN <| cW_ret <| eX_then_ret ?_
  obtain rfl := someE (x := (([], false))) hm
  refine rB (.slice none 0 0) (.bool (false)) 2 3 ?_
  exact ⟨none, 0, [], [], rfl, OwR.nil _, (lowApp lowNil lowNil), hB⟩
 have hm := condF hb2 hm
 refine cW_skip <| eX_then <| sR ?_
 obtain ⟨y3, hy3, hm⟩ := bindE hm
 refine sC 16 [pt b1] ent39 (c_iChannNets hy3 F0_0 F0_1 F1) ?_
 rintro _ w4 ⟨A3, cap1, fp1, rfl, F3, G3, hc4⟩
 have D2 := Dj.of (lt1 F1.lt) G3
 have D3 := Dj.of F2.low G3
 replace F0_0 := F0_0.c hc4
 replace F0_1 := F0_1.c hc4
 replace F1 := F1.c hc4
 replace F2 := F2.c hc4
 replace G3 := low_le hB.size G3
 replace hB := hB.q hc4
 refine ⟨.slice A3 y3.length cap1, rfl, ?_⟩
 refine wP 1 [(4, .slice A3 y3.length cap1)] <| wN <| sR <| wP 2 [(18, .func (.func 49) #[] #[pt b1]), (17, .slice A3 y3.length cap1)] ?_
 obtain ⟨y4, hy4, hm⟩ := bindE hm
 refine sC 19 [.slice A3 y3.length cap1, .func (.func 49) #[] #[pt b1]] ent48 (c_sSortSLeftE hy4 F3 F0_0 F0_1 F1 (Dj.of L0_0 G3).symm (Dj.of L0_1 G3).symm (D2).symm) ?_
 rintro _ w5 ⟨rfl, F4, hl1, hc5⟩
 replace F0_0 := F0_0.chg hc5 (Dj.app (Dj.of L0_0 G3) Dj.nil)
 replace F0_1 := F0_1.chg hc5 (Dj.app (Dj.of L0_1 G3) Dj.nil)
 replace F1 := F1.chg hc5 (dj1 (Dj.app D2 Dj.nil))
 replace F2 := F2.chg hc5 (Dj.app D3 Dj.nil)
 replace hB := hB.inS hc5 (inApp (inLow G3) inNil)
 clear F3
 refine ⟨.tuple #[], rfl, ?_⟩
 rewrite [(show y3.length = y4.length from hl1.symm)]
 try rewrite [(show y3.length = y4.length from hl1.symm)] at F1
 refine wN <| sR <| wS_rows0 (k := 1) (enc := encI) (d := 20) (t := 28) (T := 24) (T2 := 2) (by kernel_rfl) el28 ?_
 intro b3 w6 G4 F5 hc6
 have D4 := Dj.of (lt1 F1.lt) (lowApp (low1 G4) lowNil)
 have D5 := Dj.of F2.low (lowApp (low1 G4) lowNil)
 have D6 := Dj.of F4.low (lowApp (low1 G4) lowNil)
 replace F0_0 := F0_0.c hc6
 replace F0_1 := F0_1.c hc6
 replace F1 := F1.c hc6
 replace F2 := F2.c hc6
 replace F4 := F4.c hc6
 replace G4 := Nat.le_trans hB.size G4
 replace G4 := low1 G4
 replace hB := hB.q hc6
 replace G4 := lowApp G4 lowNil
 refine wP 1 [(5, .slice (ad b3) (([] : List (List Int))).length 0)] <| wN <| cW_seq ?_
 obtain ⟨r1, hr1, hm⟩ := bindE hm
 have hm1 := hm
 refine cW_cut (fun a' w' => ∃ l1 : List (List Int), ∃ A4 : Option Addr, ∃ cap3 : Nat, ∃ fp2 : List Nat, ∃ fr1 : List Nat, l1 = r1 ∧ Fr 35 [(5, .slice A4 l1.length cap3)] a' ∧ OwR 1 encI 24 2 w' fp2 fr1 A4 cap3 l1 ∧ (∀ x ∈ (fp2 ++ fr1), w0.heap.size ≤ x) ∧ Chg [] w0 w') ?_ ?_
 ·refine cW_block ?_
  refine cW_loop _ (fun (s1 : (List (List Int)) × (List Int)) a' w' => ∃ l2 : List (List Int), ∃ A5 : Option Addr, ∃ cap4 : Nat, ∃ fp3 : List Nat, ∃ fr2 : List Nat, ∃ l3 : List Int, (l2, l3) = s1 ∧ Fr 35 [(1, pt b1), (4, .slice A3 l3.length cap1), (5, .slice A5 l2.length cap4)] a' ∧ S1 w' fp0_0 A0_0 l0_0 ∧ S1 w' fp0_1 A0_1 l0_1 ∧ Cl w' b1 26 [.slice A0_0 l0_0.length cap0_0, .slice A0_1 l0_1.length cap0_1] ∧ O1 2 w' fp1 A3 cap1 l3 ∧ OwR 1 encI 24 2 w' fp3 fr2 A5 cap4 l2 ∧ (∀ x ∈ (fp3 ++ fr2), w0.heap.size ≤ x) ∧ Dj [b1] (fp3 ++ fr2) ∧ Dj fp1 (fp3 ++ fr2) ∧ Chg [] w0 w') hr1 (fun hst => ⟨([] : List (List Int)), (ad b3), 0, [b3], [], y4, rfl, fO hst, F0_0, F0_1, F1, F4, F5, G4, D4, D6, hB⟩) ?_
  rintro _ c1 a' w7 ⟨l2, A5, cap4, fp3, fr2, l3, rfl, hF1, F6, F7, F8, F9, F10, G5, D7, D8, hB⟩ hx1
  refine gO hF1 ?_
  have hm := hx1
  unfold m_iLeftE_s1 at hm
  refine cW_seq <| sR <| wP 3 [(23, .bool (decide (((l3.length : Int)) > 0))), (22, ii (l3.length : Int)), (21, .slice A3 l3.length cap1)] <| wN <| cC (decide (((l3.length : Int)) > 0)) (fun hb3 => ?_) (fun hb3 => ?_)
  ·have hm := condT hb3 hm
   refine cW_skip <| eX_then <| cW_block <| sR <| wS_bs0 (α := Int) (enc := encI) (d := 24) (t := 24) (T := 2) (by kernel_rfl) el24 ?_
   intro b4 w8 G6 F11 hc7
   have D9 := Dj.of (lt1 F8.lt) (low1 G6)
   have D10 := Dj.of F9.low (low1 G6)
   have D11 := Dj.of F10.low (low1 G6)
   replace F6 := F6.c hc7
   replace F7 := F7.c hc7
   replace F8 := F8.c hc7
   replace F9 := F9.c hc7
   replace F10 := F10.c hc7
   replace G6 := Nat.le_trans hB.size G6
   replace G6 := low1 G6
   replace hB := hB.q hc7
   refine wS_alloc (d := 6) (T := 24) (z := .slice none 0 0) (by kernel_rfl) (by kernel_rfl) ?_
   intro b5 w9 G7 F12 hc8
   replace F12 : Cl w9 b5 24 [.slice none 0 0] := F12
   have D12 := Dj.of (lt1 F8.lt) (low1 G7)
   have D13 := Dj.of F9.low (low1 G7)
   have D14 := Dj.of F10.low (low1 G7)
   have D15 := Dj.of F11.low (low1 G7)
   replace F6 := F6.c hc8
   replace F7 := F7.c hc8
   replace F8 := F8.c hc8
   replace F9 := F9.c hc8
   replace F10 := F10.c hc8
   replace F11 := F11.c hc8
   replace G7 := Nat.le_trans hB.size G7
   replace hB := hB.q hc8
   refine wS_alloc (d := 7) (T := 2) (z := ii 0) (by kernel_rfl) (by kernel_rfl) ?_
   intro b6 w10 G8 F13 hc9
   replace F13 : Cl w10 b6 2 [ii 0] := F13
   have D16 := Dj.of (lt1 F8.lt) (low1 G8)
   have D17 := Dj.of F9.low (low1 G8)
   have D18 := Dj.of F10.low (low1 G8)
   have D19 := Dj.of F11.low (low1 G8)
   have D20 := Dj.of (lt1 F12.lt) (low1 G8)
   replace F6 := F6.c hc9
   replace F7 := F7.c hc9
   replace F8 := F8.c hc9
   replace F9 := F9.c hc9
   replace F10 := F10.c hc9
   replace F11 := F11.c hc9
   replace F12 := F12.c hc9
   replace G8 := Nat.le_trans hB.size G8
   replace hB := hB.q hc9
   refine wS_store (T := 24) (g := b5) (o := 0) (ad := ⟨b5, 0, none⟩) (v := .slice (ad b4) (([] : List Int)).length 0) (vs := [.slice (ad b4) (([] : List Int)).length 0]) (by kernel_rfl) (by rfl) sz24 (by rfl) (by rfl) F12 (bl rfl) ?_
   intro w11 F14 hc10
   replace F6 := F6.chg hc10 (Dj.of L0_0 (low1 G7))
   replace F7 := F7.chg hc10 (Dj.of L0_1 (low1 G7))
   replace F8 := F8.chg hc10 (dj1 D12)
   replace F9 := F9.chg hc10 D13
   replace F10 := F10.chg hc10 D14
   replace F11 := F11.chg hc10 D15
   replace F13 := F13.chg hc10 (dj1 (D20).symm)
   replace hB := hB.inS hc10 (inLow (low1 G7))
   replace F14 : Cl w11 b5 24 [.slice (ad b4) (([] : List Int)).length 0] := F14
   clear F12
   refine wS_store (T := 2) (g := b6) (o := 0) (ad := ⟨b6, 0, none⟩) (v := ii ((-1))) (vs := [ii ((-1))]) (by kernel_rfl) (by rfl) sz2 (by rfl) (by rfl) F13 (bl rfl) ?_
   intro w12 F15 hc11
   replace F6 := F6.chg hc11 (Dj.of L0_0 (low1 G8))
   replace F7 := F7.chg hc11 (Dj.of L0_1 (low1 G8))
   replace F8 := F8.chg hc11 (dj1 D16)
   replace F9 := F9.chg hc11 D17
   replace F10 := F10.chg hc11 D18
   replace F11 := F11.chg hc11 D19
   replace F14 := F14.chg hc11 (dj1 D20)
   replace hB := hB.inS hc11 (inLow (low1 G8))
   replace F15 : Cl w12 b6 2 [ii ((-1))] := F15
   clear F13
   refine wN <| sR <| wP 2 [(26, .func (.func 53) #[] #[pt b1, pt b6, pt b5]), (25, .slice A3 l3.length cap1)] ?_
   obtain ⟨y5, hy5, hm⟩ := bindE hm
   refine sC 27 [.slice A3 l3.length cap1, .func (.func 53) #[] #[pt b1, pt b6, pt b5]] ent52 (c_sDeletLeftE hy5 F9 F9.cap_le F6 F7 F8 F15 F11 F14 (Dj.of L0_0 G3).symm (Dj.of L0_1 G3).symm (D2).symm D17 D10 D13 (Dj.of L0_0 (low1 G8)).symm (Dj.of L0_1 (low1 G8)).symm (D16).symm (D19).symm (D20).symm (Dj.of L0_0 (low1 G7)).symm (Dj.of L0_1 (low1 G7)).symm (D12).symm (D15).symm (Dj.of L0_0 G6).symm (Dj.of L0_1 G6).symm (D9).symm) ?_
   rintro _ w13 ⟨A6, cap5, fp4, rfl, F16, D21, F17, F18, F19, hap1, hc12⟩
   have G9 := Rt.lowof hap1 hB.size G6
   have D22 : Dj [b1] fp4 := Dj.ap D9 (lt1 F8.lt) hap1
   have D23 : Dj fp1 fp4 := Dj.ap D10 F9.low hap1
   have D24 : Dj (fp3 ++ fr2) fp4 := Dj.ap D11 F10.low hap1
   have D25 : Dj [b5] fp4 := Dj.ap (D15).symm (lt1 F14.lt) hap1
   have D26 : Dj [b6] fp4 := Dj.ap (D19).symm (lt1 F15.lt) hap1
   replace F6 := F6.chg hc12 (Dj.app (Dj.of L0_0 G3) (Dj.app (Dj.of L0_0 (low1 G8)) (Dj.app (Dj.of L0_0 (low1 G7)) (Dj.app (Dj.of L0_0 G6) Dj.nil))))
   replace F7 := F7.chg hc12 (Dj.app (Dj.of L0_1 G3) (Dj.app (Dj.of L0_1 (low1 G8)) (Dj.app (Dj.of L0_1 (low1 G7)) (Dj.app (Dj.of L0_1 G6) Dj.nil))))
   replace F8 := F8.chg hc12 (dj1 (Dj.app D2 (Dj.app D16 (Dj.app D12 (Dj.app D9 Dj.nil)))))
   replace F10 := F10.chg hc12 (Dj.app (D8).symm (Dj.app D18 (Dj.app D14 (Dj.app D11 Dj.nil))))
   clear F9
   replace hB := hB.inS hc12 (inApp (inLow G3) (inApp (inLow (low1 G8)) (inApp (inLow (low1 G7)) (inApp (inLow G6) inNil))))
   clear F15
   clear F14
   refine ⟨.slice A3 y5.1.length cap1, rfl, ?_⟩
   refine wP 1 [(4, .slice A3 y5.1.length cap1)] <| wN <| sR <| sL 28 ⟨b5, 0, none⟩ (.slice A6 y5.2.2.length cap5) vt24 ((F18).cell 0) ?_
   obtain ⟨y6, hy6, hm⟩ := bindE hm
   refine sC 29 [.slice A6 y5.2.2.length cap5] ent54 (c_sSort hy6 F19) ?_
   rintro _ w14 ⟨rfl, F20, hl2, hc13⟩
   replace F6 := F6.chg hc13 (Dj.app (Dj.of L0_0 G9) Dj.nil)
   replace F7 := F7.chg hc13 (Dj.app (Dj.of L0_1 G9) Dj.nil)
   replace F8 := F8.chg hc13 (dj1 (Dj.app D22 Dj.nil))
   replace F16 := F16.chg hc13 (Dj.app D21 Dj.nil)
   replace F10 := F10.chg hc13 (Dj.app D24 Dj.nil)
   replace F18 := F18.chg hc13 (dj1 (Dj.app D25 Dj.nil))
   replace F17 := F17.chg hc13 (dj1 (Dj.app D26 Dj.nil))
   replace hB := hB.inS hc13 (inApp (inLow G9) inNil)
   clear F19
   refine ⟨.tuple #[], rfl, ?_⟩
   rewrite [(show y5.2.2.length = y6.length from hl2.symm)]
   try rewrite [(show y5.2.2.length = y6.length from hl2.symm)] at F8
   try rewrite [(show y5.2.2.length = y6.length from hl2.symm)] at F18
   refine wN <| cW_region <| wP 1 [(30, .slice A5 l2.length cap4)] <| sL 31 ⟨b5, 0, none⟩ (.slice A6 y6.length cap5) vt24 ((F18).cell 0) <| wS_row1 (k := 1) (enc := encI) (l := y6) (d := 32) (t := 28) (T := 24) (B := A6) (c := cap5) (by kernel_rfl) el28 F20 ?_
   intro b7 w15 G10 F21 hc14
   have D27 : Dj [b1] ([b7] ++ fp4) := Dj.app (Dj.of (lt1 F8.lt) (low1 G10)) D22
   have D28 : Dj fp1 ([b7] ++ fp4) := Dj.app (Dj.of F16.low (low1 G10)) D21
   have D29 : Dj (fp3 ++ fr2) ([b7] ++ fp4) := Dj.app (Dj.of F10.low (low1 G10)) D24
   have D30 : Dj [b5] ([b7] ++ fp4) := Dj.app (Dj.of (lt1 F18.lt) (low1 G10)) D25
   have D31 : Dj [b6] ([b7] ++ fp4) := Dj.app (Dj.of (lt1 F17.lt) (low1 G10)) D26
   replace F6 := F6.c hc14
   replace F7 := F7.c hc14
   replace F8 := F8.c hc14
   replace F16 := F16.c hc14
   replace F10 := F10.c hc14
   replace F18 := F18.c hc14
   replace F17 := F17.c hc14
   replace F20 := F20.c hc14
   replace G10 := Nat.le_trans hB.size G10
   replace G10 := lowApp (low1 G10) G9
   replace hB := hB.q hc14
   replace F20 := (F20.sl encI_ok)
   obtain ⟨_, hk1, hm⟩ := bindE hm
   replace hk1 := apE hk1
   refine wS_appendR (k := 1) (enc := encI) (ll := (l2 : List (List Int))) (ll2 := (([y6] : List (List Int)) : List (List Int))) (d := 33) (t := 28) (T := 24) (A := A5) (A2 := (ad b7)) (cap := cap4) (cap2 := 1) (by kernel_rfl) el28 F10 F21 (by rfl) D29 hk1 ?_
   intro w16 fp5 A7 cap6 F22 hc15 hp1
   have G11 := lowApp (low_ap (low_inl G5) hB.size hp1) (lowApp (low_inr G5) (low_inr G10))
   have D32 : Dj [b1] (fp5 ++ (fr2 ++ fp4)) := Dj.app (Dj.ap (Dj.inl D7) (lt1 F8.lt) hp1) (Dj.app (Dj.inr D7) (Dj.inr D27))
   have D33 : Dj fp1 (fp5 ++ (fr2 ++ fp4)) := Dj.app (Dj.ap (Dj.inl D8) F16.low hp1) (Dj.app (Dj.inr D8) (Dj.inr D28))
   have D34 : Dj [b5] (fp5 ++ (fr2 ++ fp4)) := Dj.app (Dj.ap (Dj.inl (D14).symm) (lt1 F18.lt) hp1) (Dj.app (Dj.inr (D14).symm) (Dj.inr D30))
   have D35 : Dj [b6] (fp5 ++ (fr2 ++ fp4)) := Dj.app (Dj.ap (Dj.inl (D18).symm) (lt1 F17.lt) hp1) (Dj.app (Dj.inr (D18).symm) (Dj.inr D31))
   replace F6 := F6.chg hc15 (Dj.inl (Dj.of L0_0 G5))
   replace F7 := F7.chg hc15 (Dj.inl (Dj.of L0_1 G5))
   replace F8 := F8.chg hc15 (dj1 (Dj.inl D7))
   replace F16 := F16.chg hc15 (Dj.inl D8)
   replace F18 := F18.chg hc15 (dj1 (Dj.inl (D14).symm))
   replace F17 := F17.chg hc15 (dj1 (Dj.inl (D18).symm))
   replace hB := hB.inS hc15 (memS_inl (inLow G5))
   refine wP 1 [(5, .slice A7 (l2 ++ (([y6] : List (List Int)))).length cap6)] <| wE <| eX_block ?_
   obtain rfl := someE (x := (Ctl.next ((l2 ++ (([y6] : List (List Int))), y5.1)))) hm
   exact eX_next hx1 (fun hst => ⟨l2 ++ (([y6] : List (List Int))), A7, cap6, fp5, (fr2 ++ fp4), y5.1, rfl, fO hst, F6, F7, F8, F16, F22, G11, D32, D33, hB⟩)
  have hm := condF hb3 hm
  refine cW_exit <| eX_then_exit ?_
  obtain rfl := someE (x := Ctl.out l2) hm
  refine eX_outX hx1 (fun hr2 => ?_)
  replace hr2 := hr2.symm
  subst hr2
  refine eX_block_hit ?_
  exact eX_J (fun hst => ⟨l2, A5, cap4, fp3, fr2, rfl, fO hst, F10, G5, hB⟩)
 rintro a' w17 ⟨l1, A4, cap3, fp2, fr1, hJ, hF2, F23, G12, hB⟩
 subst hJ
 refine gX hF2 <| eX_then <| sR <| wP 3 [(3, .bool (true)), (2, .slice A4 l1.length cap3), (34, .slice A4 l1.length cap3)] <| wN <| cW_ret ?_
 obtain rfl := someE (x := ((l1, true))) hm
 refine rB (.slice A4 l1.length cap3) (.bool (true)) 2 3 ?_
 exact ⟨A4, cap3, fp2, fr1, rfl, F23, G12, hB⟩

set_option maxRecDepth 100000 in
theorem c_impl_NetsOf {w0 l0_0 A0_0 cap0_0 fp0_0 l0_1 A0_1 cap0_1 fp0_1} {r : (List Int) × Bool} (hm : m_impl_NetsOf l0_0 l0_1 = some r) (F0_0 : S1 w0 fp0_0 A0_0 l0_0) (K0_0 : l0_0.length ≤ cap0_0) (F0_1 : S1 w0 fp0_1 A0_1 l0_1) (K0_1 : l0_1.length ≤ cap0_1) :
  Calls Tryd.prog 14 #[.agg #[.slice A0_0 l0_0.length cap0_0, .slice A0_1 l0_1.length cap0_1]] w0 fun e w' => ∃ A100 cap100 fp100, e = .returned (.tuple #[.slice A100 r.1.length cap100, .bool (r.2)]) ∧ O1 2 w' fp100 A100 cap100 r.1 ∧ (∀ x ∈ fp100, w0.heap.size ≤ x) ∧ Chg [] w0 w' := by
 have L0_0 := F0_0.low
 have L0_1 := F0_1.low
 have hB : Chg [] w0 w0 := Chg.refl _ _
 unfold m_impl_NetsOf at hm
 refine enterE (N := 8) Tryd.func14 (by rfl) Tryd.ntmps14 (by simp) [(0, .agg #[.slice A0_0 l0_0.length cap0_0, .slice A0_1 l0_1.length cap0_1])] (by rfl) (by kernel_rfl) (fun a => ?_)
 refine sR <| wS_box (d := 1) (T := 26) (x := .agg #[.slice A0_0 l0_0.length cap0_0, .slice A0_1 l0_1.length cap0_1]) (by kernel_rfl) ?_
 intro b1 w1 G1 F1 hc1
 replace F1 : Cl w1 b1 26 [.slice A0_0 l0_0.length cap0_0, .slice A0_1 l0_1.length cap0_1] := F1
 replace F0_0 := F0_0.c hc1
 replace F0_1 := F0_1.c hc1
 replace G1 := Nat.le_trans hB.size G1
 replace hB := hB.q hc1
 refine wP 2 [(3, .bool (false)), (2, .slice none 0 0)] <| wN <| cW_seq <| sR <| wS_loadA (d := 4) (T := 26) (ad := ⟨b1, 0, none⟩) (vs := [.slice A0_0 l0_0.length cap0_0, .slice A0_1 l0_1.length cap0_1]) (by kernel_rfl) vt26 (fun i u hu => box_cells F1 0 hu (by rfl)) ?_
 obtain ⟨y1, hy1, hm⟩ := bindE hm
 refine sC 5 [.agg #[.slice A0_0 l0_0.length cap0_0, .slice A0_1 l0_1.length cap0_1]] ent36 (c_iValid hy1 F0_0 K0_0 F0_1 K0_1) ?_
 rintro _ w2 ⟨rfl, hc2⟩
 replace F0_0 := F0_0.c hc2
 replace F0_1 := F0_1.c hc2
 replace F1 := F1.c hc2
 replace hB := hB.q hc2
 refine ⟨.bool (y1), rfl, ?_⟩
 refine wP 1 [(6, .bool (!y1))] <| wN <| cC (!y1) (fun hb1 => ?_) (fun hb1 => ?_)
 ·have hm := condT hb1 hm
  refine sR <| wP 2 [(3, .bool (false)), (2, .slice none 0 0)] <| wN <| cW_ret <| eX_then_ret ?_
  obtain rfl := someE (x := (([], false))) hm
  refine rB (.slice none 0 0) (.bool (false)) 2 3 ?_
  exact ⟨none, 0, [], rfl, Ow.nil _, lowNil, hB⟩
 have hm := condF hb1 hm
 refine cW_skip <| eX_then <| sR ?_
 obtain ⟨y2, hy2, hm⟩ := bindE hm
 refine sC 7 [pt b1] ent39 (c_iChannNets hy2 F0_0 F0_1 F1) ?_
 rintro _ w3 ⟨A1, cap1, fp1, rfl, F2, G2, hc3⟩
 have D1 := Dj.of (lt1 F1.lt) G2
 replace F0_0 := F0_0.c hc3
 replace F0_1 := F0_1.c hc3
 replace F1 := F1.c hc3
 replace G2 := low_le hB.size G2
 replace hB := hB.q hc3
 refine ⟨.slice A1 y2.length cap1, rfl, ?_⟩
 refine wP 2 [(3, .bool (true)), (2, .slice A1 y2.length cap1)] <| wN <| cW_ret ?_
 obtain rfl := someE (x := ((y2, true))) hm
 refine rB (.slice A1 y2.length cap1) (.bool (true)) 2 3 ?_
 exact ⟨A1, cap1, fp1, rfl, F2, G2, hB⟩

set_option maxRecDepth 100000 in
theorem c_iMustB {w0 l0_0 A0_0 cap0_0 fp0_0 l0_1 A0_1 cap0_1 fp0_1 p1 p2} {r : Bool} (hm : m_iMustB l0_0 l0_1 p1 p2 = some r) (F0_0 : S1 w0 fp0_0 A0_0 l0_0) (K0_0 : l0_0.length ≤ cap0_0) (F0_1 : S1 w0 fp0_1 A0_1 l0_1) (K0_1 : l0_1.length ≤ cap0_1) :
  Calls Tryd.prog 15 #[.agg #[.slice A0_0 l0_0.length cap0_0, .slice A0_1 l0_1.length cap0_1], ii p1, ii p2] w0 fun e w' => e = .returned (.bool (r)) ∧ Chg [] w0 w' := by
 have L0_0 := F0_0.low
 have L0_1 := F0_1.low
 have hB : Chg [] w0 w0 := Chg.refl _ _
 unfold m_iMustB at hm
 refine enterE (N := 16) Tryd.func15 (by rfl) Tryd.ntmps15 (by simp) [(0, .agg #[.slice A0_0 l0_0.length cap0_0, .slice A0_1 l0_1.length cap0_1]), (1, ii p1), (2, ii p2)] (by rfl) (by kernel_rfl) (fun a => ?_)
 refine sR <| wS_box (d := 3) (T := 26) (x := .agg #[.slice A0_0 l0_0.length cap0_0, .slice A0_1 l0_1.length cap0_1]) (by kernel_rfl) ?_
 intro b1 w1 G1 F1 hc1
 replace F1 : Cl w1 b1 26 [.slice A0_0 l0_0.length cap0_0, .slice A0_1 l0_1.length cap0_1] := F1
 replace F0_0 := F0_0.c hc1
 replace F0_1 := F0_1.c hc1
 replace G1 := Nat.le_trans hB.size G1
 replace hB := hB.q hc1
 refine wP 1 [(6, .bool (false))] <| wN <| sR <| wS_loadA (d := 7) (T := 26) (ad := ⟨b1, 0, none⟩) (vs := [.slice A0_0 l0_0.length cap0_0, .slice A0_1 l0_1.length cap0_1]) (by kernel_rfl) vt26 (fun i u hu => box_cells F1 0 hu (by rfl)) ?_
 obtain ⟨y1, hy1, hm⟩ := bindE hm
 refine sC 8 [.agg #[.slice A0_0 l0_0.length cap0_0, .slice A0_1 l0_1.length cap0_1]] ent36 (c_iValid hy1 F0_0 K0_0 F0_1 K0_1) ?_
 rintro _ w2 ⟨rfl, hc2⟩
 replace F0_0 := F0_0.c hc2
 replace F0_1 := F0_1.c hc2
 replace F1 := F1.c hc2
 replace hB := hB.q hc2
 refine ⟨.bool (y1), rfl, ?_⟩
 refine wP 1 [(9, .bool (y1))] <| wS_bool y1 (fun hb1 => ?_) (fun hb1 => ?_)
 ·have hm := condT hb1 hm
  rewrite [hb1]
  obtain ⟨y2, hy2, hm⟩ := bindE hm
  refine sC 10 [pt b1] ent47 (c_iChannAbove1 hy2 F0_0 F0_1 F1) ?_
  rintro _ w3 ⟨b2, rfl, F2, G2, hc3⟩
  have D1 := Dj.of (lt1 F1.lt) G2
  replace F0_0 := F0_0.c hc3
  replace F0_1 := F0_1.c hc3
  replace F1 := F1.c hc3
  replace G2 := low_le hB.size G2
  replace hB := hB.q hc3
  refine ⟨.map (some b2), rfl, ?_⟩
  refine wP 3 [(13, .agg #[ii p1, ii p2]), (12, ii p2), (11, ii p1)] ?_
  obtain ⟨y3, hy3, hm⟩ := bindE hm
  refine wS_look (k := (p1, p2)) (d := 14) (T := 69) (by kernel_rfl) mk69 mp69 F2 hy3 <| wP 2 [(6, .bool (y3)), (15, .bool (y3))] <| wN <| cW_ret ?_
  obtain rfl := someE (x := y3) hm
  refine rA (.bool (y3)) 6 ?_
  exact ⟨rfl, hB⟩
 have hm := condF hb1 hm
 rewrite [hb1]
 refine wP 7 [(6, .bool (false)), (15, .bool (false)), (14, undef), (13, undef), (12, undef), (11, undef), (10, undef)] <| wN <| cW_ret ?_
 obtain rfl := someE (x := false) hm
 refine rA (.bool (false)) 6 ?_
 exact ⟨rfl, hB⟩

set_option maxRecDepth 100000 in
theorem c_laws_b10Has {w0 l0 A0 cap0 fp0 p1} {r : Bool} (hm : m_laws_b10Has l0 p1 = some r) (F0 : S1 w0 fp0 A0 l0) :
  Calls Tryd.prog 16 #[.slice A0 l0.length cap0, ii p1] w0 fun e w' => e = .returned (.bool (r)) ∧ Chg [] w0 w' := by
 have L0 := F0.low
 have hB : Chg [] w0 w0 := Chg.refl _ _
 unfold m_laws_b10Has at hm
 refine enterE (N := 18) Tryd.func16 (by rfl) Tryd.ntmps16 (by simp) [(0, .slice A0 l0.length cap0), (1, ii p1)] (by rfl) (by kernel_rfl) (fun a => ?_)
 refine sR <| wP 1 [(4, .bool (false))] <| wN <| cW_seq <| sR <| wP 1 [(5, ii 0)] <| wN ?_
 obtain ⟨r1, hr1, hm⟩ := bindE hm
 have hm1 := hm
 refine cW_cut (fun a' w' => Sum.inl (()) = r1 ∧ Fr 18 [] a' ∧ Chg [] w0 w') ?_ ?_
 ·refine cW_block ?_
  refine cW_loop _ (fun (s1 : Int) a' w' => ∃ x1 : Int, x1 = s1 ∧ Fr 18 [(0, .slice A0 l0.length cap0), (1, ii p1), (5, ii x1)] a' ∧ S1 w' fp0 A0 l0 ∧ Chg [] w0 w') hr1 (fun hst => ⟨0, rfl, fO hst, F0, hB⟩) ?_
  rintro _ c1 a' w1 ⟨x1, rfl, hF1, F1, hB⟩ hx1
  refine gO hF1 ?_
  have hm := hx1
  unfold m_laws_b10Has_s1 at hm
  refine cW_seq <| sR <| wP 4 [(9, .bool (decide (x1 < ((l0.length : Int))))), (8, ii (l0.length : Int)), (7, .slice A0 l0.length cap0), (6, ii x1)] <| wN <| cC (decide (x1 < ((l0.length : Int)))) (fun hb1 => ?_) (fun hb1 => ?_)
  ·have hm := condT hb1 hm
   refine cW_skip <| eX_then <| cW_seq <| cW_block <| sR <| wP 2 [(13, ii x1), (12, .slice A0 l0.length cap0)] ?_
   obtain ⟨x2, hx2, hm⟩ := bindE hm
   refine sI 14 A0 l0.length cap0 .i64 x1 sl24 (F1.is hx2) <| sL 15 (elA A0 1 (x1) 0) (ii x2) vt2 (Sl.cell F1 hx2 0 (by rfl)) <| wP 2 [(17, .bool (x2 == p1)), (16, ii p1)] <| wN <| cC (x2 == p1) (fun hb2 => ?_) (fun hb2 => ?_)
   ·have hm := condT hb2 hm
    refine sR <| wP 1 [(4, .bool (true))] <| wN <| cW_ret <| eX_block_ret <| eX_then_ret ?_
    obtain rfl := someE (x := Ctl.out (Sum.inr true)) hm
    refine eX_outR hx1 (fun hr => ?_)
    subst hr
    refine eX_block_ret <| eX_then_ret <| eX_then_ret ?_
    obtain rfl := someE (x := true) hm1
    refine rA (.bool (true)) 4 ?_
    exact ⟨rfl, hB⟩
   have hm := condF hb2 hm
   refine cW_skip <| eX_block <| eX_then <| cW_region <| wP 3 [(5, ii (wr (x1 + 1))), (11, ii (wr (x1 + 1))), (10, ii x1)] <| wE ?_
   obtain rfl := someE (x := Ctl.next (wr (x1 + 1))) hm
   exact eX_next hx1 (fun hst => ⟨wr (x1 + 1), rfl, fO hst, F1, hB⟩)
  have hm := condF hb1 hm
  refine cW_exit <| eX_then_exit ?_
  obtain rfl := someE (x := Ctl.out (Sum.inl (()))) hm
  refine eX_outX hx1 (fun hr2 => ?_)
  replace hr2 := hr2.symm
  subst hr2
  refine eX_block_hit ?_
  exact eX_J (fun hst => ⟨rfl, fO hst, hB⟩)
 rintro a' w2 ⟨hJ, hF2, hB⟩
 subst hJ
 refine gX hF2 <| eX_then <| sR <| wP 1 [(4, .bool (false))] <| wN <| cW_ret ?_
 obtain rfl := someE (x := false) hm
 refine rA (.bool (false)) 4 ?_
 exact ⟨rfl, hB⟩

set_option maxRecDepth 100000 in
theorem c_spec_l00Put {w0 l0 A0 cap0 fp0 p1} {r : (List Int)} (hm : m_spec_l00Put l0 p1 = some r) (F0 : S1 w0 fp0 A0 l0) :
  Calls Tryd.prog 57 #[.slice A0 l0.length cap0, ii p1] w0 fun e w' => ∃ A100 cap100 fp100, e = .returned (.slice A100 r.length cap100) ∧ O1 2 w' fp100 A100 cap100 r ∧ (∀ x ∈ fp100, w0.heap.size ≤ x) ∧ Chg [] w0 w' := by
 have L0 := F0.low
 have hB : Chg [] w0 w0 := Chg.refl _ _
 unfold m_spec_l00Put at hm
 refine enterE (N := 49) Tryd.func57 (by rfl) Tryd.ntmps57 (by simp) [(0, .slice A0 l0.length cap0), (1, ii p1)] (by rfl) (by kernel_rfl) (fun a => ?_)
 refine sR <| wP 1 [(4, .slice none 0 0)] <| wN <| sR <| wS_bs0 (α := Int) (enc := encI) (d := 8) (t := 24) (T := 2) (by kernel_rfl) el24 ?_
 intro b1 w1 G1 F1 hc1
 replace F0 := F0.c hc1
 replace G1 := Nat.le_trans hB.size G1
 replace G1 := low1 G1
 replace hB := hB.q hc1
 refine wP 1 [(5, .slice (ad b1) (([] : List Int)).length 0)] <| wN <| sR <| wP 1 [(6, .bool (false))] <| wN <| cW_seq <| sR <| wP 1 [(7, ii 0)] <| wN ?_
 obtain ⟨r1, hr1, hm⟩ := bindE hm
 have hm1 := hm
 refine cW_cut (fun a' w' => ∃ l1 : List Int, ∃ A1 : Option Addr, ∃ cap1 : Nat, ∃ fp1 : List Nat, ∃ x1 : Bool, (l1, x1) = r1 ∧ Fr 49 [(1, ii p1), (5, .slice A1 l1.length cap1), (6, .bool (x1))] a' ∧ O1 2 w' fp1 A1 cap1 l1 ∧ (∀ x ∈ fp1, w0.heap.size ≤ x) ∧ Chg [] w0 w') ?_ ?_
 ·refine cW_block ?_
  refine cW_loop _ (fun (s1 : (List Int) × Bool × Int) a' w' => ∃ l3 : List Int, ∃ A3 : Option Addr, ∃ cap3 : Nat, ∃ fp2 : List Nat, ∃ x2 : Bool, ∃ x3 : Int, (l3, x2, x3) = s1 ∧ Fr 49 [(0, .slice A0 l0.length cap0), (1, ii p1), (5, .slice A3 l3.length cap3), (6, .bool (x2)), (7, ii x3)] a' ∧ S1 w' fp0 A0 l0 ∧ O1 2 w' fp2 A3 cap3 l3 ∧ (∀ x ∈ fp2, w0.heap.size ≤ x) ∧ Chg [] w0 w') hr1 (fun hst => ⟨([] : List Int), (ad b1), 0, [b1], false, 0, rfl, fO hst, F0, F1, G1, hB⟩) ?_
  rintro _ c1 a' w2 ⟨l3, A3, cap3, fp2, x2, x3, rfl, hF1, F2, F3, G2, hB⟩ hx1
  refine gO hF1 ?_
  have hm := hx1
  unfold m_spec_l00Put_s1 at hm
  refine cW_seq <| sR <| wP 4 [(12, .bool (decide (x3 < ((l0.length : Int))))), (11, ii (l0.length : Int)), (10, .slice A0 l0.length cap0), (9, ii x3)] <| wN <| cC (decide (x3 < ((l0.length : Int)))) (fun hb1 => ?_) (fun hb1 => ?_)
  ·have hm := condT hb1 hm
   refine cW_skip <| eX_then <| cW_seq <| cW_block ?_
   obtain ⟨s2, hs1, hm⟩ := bindE hm
   refine cW_cut (fun a' w' => ∃ l4 : List Int, ∃ A4 : Option Addr, ∃ cap4 : Nat, ∃ fp3 : List Nat, ∃ x4 : Bool, (l4, x4) = s2 ∧ Fr 49 [(0, .slice A0 l0.length cap0), (1, ii p1), (5, .slice A4 l4.length cap4), (6, .bool (x4)), (7, ii x3)] a' ∧ S1 w' fp0 A0 l0 ∧ O1 2 w' fp3 A4 cap4 l4 ∧ (∀ x ∈ fp3, w0.heap.size ≤ x) ∧ Chg [] w0 w') ?_ ?_
   ·have hm := hs1
    refine cW_seq ?_
    obtain ⟨s3, hs2, hm⟩ := bindE hm
    refine cW_cut (fun a' w' => ∃ l5 : List Int, ∃ A5 : Option Addr, ∃ cap5 : Nat, ∃ fp4 : List Nat, ∃ x5 : Bool, (l5, x5) = s3 ∧ Fr 49 [(0, .slice A0 l0.length cap0), (1, ii p1), (5, .slice A5 l5.length cap5), (6, .bool (x5)), (7, ii x3)] a' ∧ S1 w' fp0 A0 l0 ∧ O1 2 w' fp4 A5 cap5 l5 ∧ (∀ x ∈ fp4, w0.heap.size ≤ x) ∧ Chg [] w0 w') ?_ ?_
    ·have hm := hs2
     refine sR <| wP 3 [(17, .bool (!x2)), (16, .bool (!x2)), (15, .bool (x2))] <| wS_bool (!x2) (fun hb2 => ?_) (fun hb2 => ?_)
     ·have hm := condT hb2 hm
      rewrite [hb2]
      refine wP 2 [(19, ii x3), (18, .slice A0 l0.length cap0)] ?_
      obtain ⟨x6, hx2, hm⟩ := bindE hm
      refine sI 20 A0 l0.length cap0 .i64 x3 sl24 (F2.is hx2) <| sL 21 (elA A0 1 (x3) 0) (ii x6) vt2 (Sl.cell F2 hx2 0 (by rfl)) <| wP 3 [(24, .bool (decide (x6 ≥ p1))), (23, .bool (decide (x6 ≥ p1))), (22, ii p1)] <| wN <| cC (decide (x6 ≥ p1)) (fun hb3 => ?_) (fun hb3 => ?_)
      ·have hm := condT hb3 hm
       refine sR <| wP 1 [(6, .bool (true))] <| wN <| sR <| wP 2 [(26, ii x3), (25, .slice A0 l0.length cap0)] ?_
       obtain ⟨x7, hx3, hm⟩ := bindE hm
       refine sI 27 A0 l0.length cap0 .i64 x3 sl24 (F2.is hx3) <| sL 28 (elA A0 1 (x3) 0) (ii x7) vt2 (Sl.cell F2 hx3 0 (by rfl)) <| wP 2 [(30, .bool (decide (x7 > p1))), (29, ii p1)] <| wN <| cP [(0, .slice A0 l0.length cap0), (1, ii p1), (5, .slice A3 l3.length cap3), (6, .bool (true)), (7, ii x3), (30, .bool (decide (x7 > p1)))] (fun a1 => ?_)
       refine cC (decide (x7 > p1)) (fun hb4 => ?_) (fun hb4 => ?_)
       ·have hm := condT hb4 hm
        refine cW_region <| wP 2 [(32, ii p1), (31, .slice A3 l3.length cap3)] <| wS_bs (enc := encI) ([p1] : List Int) [ii p1] (d := 33) (t := 24) (T := 2) (n := 1) (ps := [(0, ii p1)]) (by kernel_rfl) el24 encI_ok (by rfl) (by omega) (by omega) (by kernel_rfl) (by rfl) ?_
        intro b2 w3 G3 F4 hc2
        have D1 := Dj.of F3.low (low1 G3)
        replace F2 := F2.c hc2
        replace F3 := F3.c hc2
        replace G3 := Nat.le_trans hB.size G3
        replace G3 := low1 G3
        replace hB := hB.q hc2
        obtain ⟨_, hk1, hm⟩ := bindE hm
        replace hk1 := apE hk1
        refine wS_append (enc := encI) (l := (l3 : List Int)) (l2 := (([p1] : List Int) : List Int)) (d := 34) (t := 24) (T := 2) (A := A3) (A2 := (ad b2)) (cap := cap3) (cap2 := 1) (by kernel_rfl) el24 encI_ok F3 (F4.sl encI_ok) (by rfl) hk1 ?_
        intro w4 fp5 A6 cap6 F5 hc3 hp1
        have G4 := low_ap G2 hB.size hp1
        have D2 : Dj [b2] fp5 := Dj.ap (D1).symm F4.low hp1
        replace F2 := F2.chg hc3 (Dj.of L0 G2)
        replace F4 := F4.chg hc3 (D1).symm
        replace hB := hB.inS hc3 (inLow G2)
        refine wP 1 [(5, .slice A6 (l3 ++ (([p1] : List Int))).length cap6)] <| wE ?_
        obtain rfl := someE (x := ((l3 ++ (([p1] : List Int)), true))) hm
        exact eX_J (fun hst => ⟨l3 ++ (([p1] : List Int)), A6, cap6, fp5, true, rfl, fO hst, F2, F5, G4, hB⟩)
       have hm := condF hb4 hm
       refine cW_skip ?_
       obtain rfl := someE (x := ((l3, true))) hm
       exact eX_J (fun hst => ⟨l3, A3, cap3, fp2, true, rfl, fO hst, F2, F3, G2, hB⟩)
      have hm := condF hb3 hm
      refine cW_skip ?_
      obtain rfl := someE (x := ((l3, x2))) hm
      exact eX_J (fun hst => ⟨l3, A3, cap3, fp2, x2, rfl, fO hst, F2, F3, G2, hB⟩)
     have hm := condF hb2 hm
     rewrite [hb2]
     refine wP 7 [(24, .bool (false)), (23, undef), (22, undef), (21, undef), (20, undef), (19, undef), (18, undef)] <| wN <| cCf <| cW_skip ?_
     obtain rfl := someE (x := ((l3, x2))) hm
     exact eX_J (fun hst => ⟨l3, A3, cap3, fp2, x2, rfl, fO hst, F2, F3, G2, hB⟩)
    rintro a' w5 ⟨l5, A5, cap5, fp4, x5, hJ, hF2, F6, F7, G5, hB⟩
    subst hJ
    refine gX hF2 <| eX_then <| cW_region <| wP 3 [(37, ii x3), (36, .slice A0 l0.length cap0), (35, .slice A5 l5.length cap5)] ?_
    obtain ⟨x8, hx4, hm⟩ := bindE hm
    refine sI 38 A0 l0.length cap0 .i64 x3 sl24 (F6.is hx4) <| sL 39 (elA A0 1 (x3) 0) (ii x8) vt2 (Sl.cell F6 hx4 0 (by rfl)) <| wS_bs (enc := encI) ([x8] : List Int) [ii x8] (d := 40) (t := 24) (T := 2) (n := 1) (ps := [(0, ii x8)]) (by kernel_rfl) el24 encI_ok (by rfl) (by omega) (by omega) (by kernel_rfl) (by rfl) ?_
    intro b3 w6 G6 F8 hc4
    have D3 := Dj.of F7.low (low1 G6)
    replace F6 := F6.c hc4
    replace F7 := F7.c hc4
    replace G6 := Nat.le_trans hB.size G6
    replace G6 := low1 G6
    replace hB := hB.q hc4
    obtain ⟨_, hk2, hm⟩ := bindE hm
    replace hk2 := apE hk2
    refine wS_append (enc := encI) (l := (l5 : List Int)) (l2 := (([x8] : List Int) : List Int)) (d := 41) (t := 24) (T := 2) (A := A5) (A2 := (ad b3)) (cap := cap5) (cap2 := 1) (by kernel_rfl) el24 encI_ok F7 (F8.sl encI_ok) (by rfl) hk2 ?_
    intro w7 fp6 A7 cap7 F9 hc5 hp2
    have G7 := low_ap G5 hB.size hp2
    have D4 : Dj [b3] fp6 := Dj.ap (D3).symm F8.low hp2
    replace F6 := F6.chg hc5 (Dj.of L0 G5)
    replace F8 := F8.chg hc5 (D3).symm
    replace hB := hB.inS hc5 (inLow G5)
    refine wP 1 [(5, .slice A7 (l5 ++ (([x8] : List Int))).length cap7)] <| wE ?_
    obtain rfl := someE (x := ((l5 ++ (([x8] : List Int)), x5))) hm
    exact eX_J (fun hst => ⟨l5 ++ (([x8] : List Int)), A7, cap7, fp6, x5, rfl, fO hst, F6, F9, G7, hB⟩)
   rintro a' w8 ⟨l4, A4, cap4, fp3, x4, hJ, hF3, F10, F11, G8, hB⟩
   subst hJ
   refine gX hF3 <| eX_block <| eX_then <| cW_region <| wP 3 [(7, ii (wr (x3 + 1))), (14, ii (wr (x3 + 1))), (13, ii x3)] <| wE ?_
   obtain rfl := someE (x := (Ctl.next ((l4, x4, wr (x3 + 1))))) hm
   exact eX_next hx1 (fun hst => ⟨l4, A4, cap4, fp3, x4, wr (x3 + 1), rfl, fO hst, F10, F11, G8, hB⟩)
  have hm := condF hb1 hm
  refine cW_exit <| eX_then_exit ?_
  obtain rfl := someE (x := (Ctl.out ((l3, x2)))) hm
  refine eX_outX hx1 (fun hr2 => ?_)
  replace hr2 := hr2.symm
  subst hr2
  refine eX_block_hit ?_
  exact eX_J (fun hst => ⟨l3, A3, cap3, fp2, x2, rfl, fO hst, F3, G2, hB⟩)
 rintro a' w9 ⟨l1, A1, cap1, fp1, x1, hJ, hF4, F12, G9, hB⟩
 subst hJ
 refine gX hF4 <| eX_then <| cW_seq ?_
 obtain ⟨s4, hs3, hm⟩ := bindE hm
 refine cW_cut (fun a' w' => ∃ l6 : List Int, ∃ A8 : Option Addr, ∃ cap8 : Nat, ∃ fp7 : List Nat, l6 = s4 ∧ Fr 49 [(5, .slice A8 l6.length cap8)] a' ∧ O1 2 w' fp7 A8 cap8 l6 ∧ (∀ x ∈ fp7, w0.heap.size ≤ x) ∧ Chg [] w0 w') ?_ ?_
 ·have hm := hs3
  refine sR <| wP 2 [(43, .bool (!x1)), (42, .bool (x1))] <| wN <| cC (!x1) (fun hb5 => ?_) (fun hb5 => ?_)
  ·have hm := condT hb5 hm
   refine cW_region <| wP 2 [(45, ii p1), (44, .slice A1 l1.length cap1)] <| wS_bs (enc := encI) ([p1] : List Int) [ii p1] (d := 46) (t := 24) (T := 2) (n := 1) (ps := [(0, ii p1)]) (by kernel_rfl) el24 encI_ok (by rfl) (by omega) (by omega) (by kernel_rfl) (by rfl) ?_
   intro b4 w10 G10 F13 hc6
   have D5 := Dj.of F12.low (low1 G10)
   replace F12 := F12.c hc6
   replace G10 := Nat.le_trans hB.size G10
   replace G10 := low1 G10
   replace hB := hB.q hc6
   obtain ⟨_, hk3, hm⟩ := bindE hm
   replace hk3 := apE hk3
   refine wS_append (enc := encI) (l := (l1 : List Int)) (l2 := (([p1] : List Int) : List Int)) (d := 47) (t := 24) (T := 2) (A := A1) (A2 := (ad b4)) (cap := cap1) (cap2 := 1) (by kernel_rfl) el24 encI_ok F12 (F13.sl encI_ok) (by rfl) hk3 ?_
   intro w11 fp8 A9 cap9 F14 hc7 hp3
   have G11 := low_ap G9 hB.size hp3
   have D6 : Dj [b4] fp8 := Dj.ap (D5).symm F13.low hp3
   replace F13 := F13.chg hc7 (D5).symm
   replace hB := hB.inS hc7 (inLow G9)
   refine wP 1 [(5, .slice A9 (l1 ++ (([p1] : List Int))).length cap9)] <| wE ?_
   obtain rfl := someE (x := (l1 ++ (([p1] : List Int)))) hm
   exact eX_J (fun hst => ⟨l1 ++ (([p1] : List Int)), A9, cap9, fp8, rfl, fO hst, F14, G11, hB⟩)
  have hm := condF hb5 hm
  refine cW_skip ?_
  obtain rfl := someE (x := l1) hm
  exact eX_J (fun hst => ⟨l1, A1, cap1, fp1, rfl, fO hst, F12, G9, hB⟩)
 rintro a' w12 ⟨l6, A8, cap8, fp7, hJ, hF5, F15, G12, hB⟩
 subst hJ
 refine gX hF5 <| eX_then <| sR <| wP 2 [(4, .slice A8 l6.length cap8), (48, .slice A8 l6.length cap8)] <| wN <| cW_ret ?_
 obtain rfl := someE (x := l6) hm
 refine rA (.slice A8 l6.length cap8) 4 ?_
 exact ⟨A8, cap8, fp7, rfl, F15, G12, hB⟩

set_option maxRecDepth 100000 in
theorem c_sL03Sp {w0 l0_0 A0_0 cap0_0 fp0_0 l0_1 A0_1 cap0_1 fp0_1 b0 p1} {r : (Int) × (Int) × Bool} (hm : m_sL03Sp l0_0 l0_1 p1 = some r) (F0_0 : S1 w0 fp0_0 A0_0 l0_0) (F0_1 : S1 w0 fp0_1 A0_1 l0_1) (F0 : Cl w0 b0 26 [.slice A0_0 l0_0.length cap0_0, .slice A0_1 l0_1.length cap0_1]) :
  Calls Tryd.prog 92 #[pt b0, ii p1] w0 fun e w' => e = .returned (.tuple #[ii r.1, ii r.2.1, .bool (r.2.2)]) ∧ Chg [] w0 w' := by
 have L0_0 := F0_0.low
 have L0_1 := F0_1.low
 have L0 := lt1 F0.lt
 have hB : Chg [] w0 w0 := Chg.refl _ _
 unfold m_sL03Sp at hm
 refine enterE (N := 47) Tryd.func92 (by rfl) Tryd.ntmps92 (by simp) [(0, pt b0), (1, ii p1)] (by rfl) (by kernel_rfl) (fun a => ?_)
 refine sR <| wP 3 [(6, .bool (false)), (5, ii 0), (4, ii 0)] <| wN <| sR <| wP 1 [(7, ii ((-1)))] <| wN <| sR <| wP 1 [(8, ii ((-1)))] <| wN <| cW_seq <| sR <| wP 1 [(9, ii 0)] <| wN ?_
 obtain ⟨r1, hr1, hm⟩ := bindE hm
 have hm1 := hm
 refine cW_cut (fun a' w' => ∃ x1 : Int, ∃ x2 : Int, (x1, x2) = r1 ∧ Fr 47 [(7, ii x1), (8, ii x2)] a' ∧ Chg [] w0 w') ?_ ?_
 ·refine cW_block ?_
  refine cW_loop _ (fun (s1 : Int × Int × Int) a' w' => ∃ x3 : Int, ∃ x4 : Int, ∃ x5 : Int, (x3, x4, x5) = s1 ∧ Fr 47 [(0, pt b0), (1, ii p1), (7, ii x3), (8, ii x4), (9, ii x5)] a' ∧ S1 w' fp0_0 A0_0 l0_0 ∧ S1 w' fp0_1 A0_1 l0_1 ∧ Cl w' b0 26 [.slice A0_0 l0_0.length cap0_0, .slice A0_1 l0_1.length cap0_1] ∧ Chg [] w0 w') hr1 (fun hst => ⟨(-1), (-1), 0, rfl, fO hst, F0_0, F0_1, F0, hB⟩) ?_
  rintro _ c1 a' w1 ⟨x3, x4, x5, rfl, hF1, F1, F2, F3, hB⟩ hx1
  refine gO hF1 ?_
  have hm := hx1
  unfold m_sL03Sp_s1 at hm
  refine cW_seq <| sR <| wP 4 [(13, pt b0), (12, pt b0), (11, pt b0), (10, ii x5)] <| sL 14 ⟨b0, 0, none⟩ (.slice A0_0 l0_0.length cap0_0) vt24 ((F3).cell 0) <| wP 2 [(16, .bool (decide (x5 < ((l0_0.length : Int))))), (15, ii (l0_0.length : Int))] <| wN <| cC (decide (x5 < ((l0_0.length : Int)))) (fun hb1 => ?_) (fun hb1 => ?_)
  ·have hm := condT hb1 hm
   refine cW_skip <| eX_then <| cW_seq <| cW_block ?_
   obtain ⟨s2, hs1, hm⟩ := bindE hm
   refine cW_cut (fun a' w' => ∃ x6 : Int, ∃ x7 : Int, (x6, x7) = s2 ∧ Fr 47 [(0, pt b0), (1, ii p1), (7, ii x6), (8, ii x7), (9, ii x5)] a' ∧ S1 w' fp0_0 A0_0 l0_0 ∧ S1 w' fp0_1 A0_1 l0_1 ∧ Cl w' b0 26 [.slice A0_0 l0_0.length cap0_0, .slice A0_1 l0_1.length cap0_1] ∧ Chg [] w0 w') ?_ ?_
   ·have hm := hs1
    refine sR <| wP 3 [(21, pt b0), (20, pt b0), (19, pt b0)] <| sL 22 ⟨b0, 0, none⟩ (.slice A0_0 l0_0.length cap0_0) vt24 ((F3).cell 0) <| wP 1 [(23, ii x5)] ?_
    obtain ⟨x8, hx2, hm⟩ := bindE hm
    refine sI 24 A0_0 l0_0.length cap0_0 .i64 x5 sl24 (F1.is hx2) <| sL 25 (elA A0_0 1 (x5) 0) (ii x8) vt2 (Sl.cell F1 hx2 0 (by rfl)) <| wP 3 [(28, .bool (x8 == p1)), (27, .bool (x8 == p1)), (26, ii p1)] <| wS_bool (x8 == p1) (fun hb2 => ?_) (fun hb2 => ?_)
    ·have hm := condT hb2 hm
     rewrite [hb2]
     refine wP 10 [(38, .bool (true)), (37, undef), (36, undef), (35, undef), (34, undef), (33, undef), (32, undef), (31, undef), (30, undef), (29, undef)] <| wN <| cP [(0, pt b0), (1, ii p1), (7, ii x3), (8, ii x4), (9, ii x5), (38, .bool (true))] (fun a1 => ?_)
     refine cCt <| cW_seq ?_
     obtain ⟨s3, hs2, hm⟩ := bindE hm
     refine cW_cut (fun a' w' => ∃ x9 : Int, x9 = s3 ∧ Fr 47 [(0, pt b0), (1, ii p1), (7, ii x9), (9, ii x5)] a' ∧ S1 w' fp0_0 A0_0 l0_0 ∧ S1 w' fp0_1 A0_1 l0_1 ∧ Cl w' b0 26 [.slice A0_0 l0_0.length cap0_0, .slice A0_1 l0_1.length cap0_1] ∧ Chg [] w0 w') ?_ ?_
     ·have hm := hs2
      refine sR <| wP 2 [(40, .bool (decide (x3 < 0))), (39, ii x3)] <| wN <| cC (decide (x3 < 0)) (fun hb3 => ?_) (fun hb3 => ?_)
      ·have hm := condT hb3 hm
       refine cW_region <| wP 2 [(7, ii x5), (41, ii x5)] <| wE ?_
       obtain rfl := someE (x := x5) hm
       exact eX_J (fun hst => ⟨x5, rfl, fO hst, F1, F2, F3, hB⟩)
      have hm := condF hb3 hm
      refine cW_skip ?_
      obtain rfl := someE (x := x3) hm
      exact eX_J (fun hst => ⟨x3, rfl, fO hst, F1, F2, F3, hB⟩)
     rintro a' w2 ⟨x9, hJ, hF2, F4, F5, F6, hB⟩
     subst hJ
     refine gX hF2 <| eX_then <| cW_region <| wP 2 [(8, ii x5), (42, ii x5)] <| wE ?_
     obtain rfl := someE (x := ((x9, x5))) hm
     exact eX_J (fun hst => ⟨x9, x5, rfl, fO hst, F4, F5, F6, hB⟩)
    have hm := condF hb2 hm
    rewrite [hb2]
    refine wP 3 [(31, .pointer (some ⟨b0, 1, none⟩)), (30, pt b0), (29, pt b0)] <| sL 32 ⟨b0, 1, none⟩ (.slice A0_1 l0_1.length cap0_1) vt24 ((F3).cell 1) <| wP 1 [(33, ii x5)] ?_
    obtain ⟨x10, hx3, hm⟩ := bindE hm
    refine sI 34 A0_1 l0_1.length cap0_1 .i64 x5 sl24 (F2.is hx3) <| sL 35 (elA A0_1 1 (x5) 0) (ii x10) vt2 (Sl.cell F2 hx3 0 (by rfl)) <| wP 3 [(38, .bool (x10 == p1)), (37, .bool (x10 == p1)), (36, ii p1)] <| wN <| cP [(0, pt b0), (1, ii p1), (7, ii x3), (8, ii x4), (9, ii x5), (38, .bool (x10 == p1))] (fun a2 => ?_)
    refine cC (x10 == p1) (fun hb4 => ?_) (fun hb4 => ?_)
    ·have hm := condT hb4 hm
     refine cW_seq ?_
     obtain ⟨s4, hs3, hm⟩ := bindE hm
     refine cW_cut (fun a' w' => ∃ x11 : Int, x11 = s4 ∧ Fr 47 [(0, pt b0), (1, ii p1), (7, ii x11), (9, ii x5)] a' ∧ S1 w' fp0_0 A0_0 l0_0 ∧ S1 w' fp0_1 A0_1 l0_1 ∧ Cl w' b0 26 [.slice A0_0 l0_0.length cap0_0, .slice A0_1 l0_1.length cap0_1] ∧ Chg [] w0 w') ?_ ?_
     ·have hm := hs3
      refine sR <| wP 2 [(40, .bool (decide (x3 < 0))), (39, ii x3)] <| wN <| cC (decide (x3 < 0)) (fun hb5 => ?_) (fun hb5 => ?_)
      ·have hm := condT hb5 hm
       refine cW_region <| wP 2 [(7, ii x5), (41, ii x5)] <| wE ?_
       obtain rfl := someE (x := x5) hm
       exact eX_J (fun hst => ⟨x5, rfl, fO hst, F1, F2, F3, hB⟩)
      have hm := condF hb5 hm
      refine cW_skip ?_
      obtain rfl := someE (x := x3) hm
      exact eX_J (fun hst => ⟨x3, rfl, fO hst, F1, F2, F3, hB⟩)
     rintro a' w3 ⟨x11, hJ, hF3, F7, F8, F9, hB⟩
     subst hJ
     refine gX hF3 <| eX_then <| cW_region <| wP 2 [(8, ii x5), (42, ii x5)] <| wE ?_
     obtain rfl := someE (x := ((x11, x5))) hm
     exact eX_J (fun hst => ⟨x11, x5, rfl, fO hst, F7, F8, F9, hB⟩)
    have hm := condF hb4 hm
    refine cW_skip ?_
    obtain rfl := someE (x := ((x3, x4))) hm
    exact eX_J (fun hst => ⟨x3, x4, rfl, fO hst, F1, F2, F3, hB⟩)
   rintro a' w4 ⟨x6, x7, hJ, hF4, F10, F11, F12, hB⟩
   subst hJ
   refine gX hF4 <| eX_block <| eX_then <| cW_region <| wP 3 [(9, ii (wr (x5 + 1))), (18, ii (wr (x5 + 1))), (17, ii x5)] <| wE ?_
   obtain rfl := someE (x := (Ctl.next ((x6, x7, wr (x5 + 1))))) hm
   exact eX_next hx1 (fun hst => ⟨x6, x7, wr (x5 + 1), rfl, fO hst, F10, F11, F12, hB⟩)
  have hm := condF hb1 hm
  refine cW_exit <| eX_then_exit ?_
  obtain rfl := someE (x := (Ctl.out ((x3, x4)))) hm
  refine eX_outX hx1 (fun hr2 => ?_)
  replace hr2 := hr2.symm
  subst hr2
  refine eX_block_hit ?_
  exact eX_J (fun hst => ⟨x3, x4, rfl, fO hst, hB⟩)
 rintro a' w5 ⟨x1, x2, hJ, hF5, hB⟩
 subst hJ
 refine gX hF5 <| eX_then <| sR <| wP 7 [(6, .bool (decide (x1 ≥ 0))), (5, ii x2), (4, ii x1), (46, .bool (decide (x1 ≥ 0))), (45, ii x1), (44, ii x2), (43, ii x1)] <| wN <| cW_ret ?_
 obtain rfl := someE (x := ((x1, x2, decide (x1 ≥ 0)))) hm
 refine eX_ret (vs := [ii x1, ii x2, .bool (decide (x1 ≥ 0))]) [.tmp 4, .tmp 5, .tmp 6] (by rfl) ⟨by (show lkE _ _ _ = _); kernel_rfl, ⟨by (show lkE _ _ _ = _); kernel_rfl, ⟨by (show lkE _ _ _ = _); kernel_rfl, trivial⟩⟩⟩ ?_
 exact ⟨rfl, hB⟩

set_option maxRecDepth 100000 in
theorem c_sL03Ne {w0 l0_0 A0_0 cap0_0 fp0_0 l0_1 A0_1 cap0_1 fp0_1 b0} {r : (List Int)} (hm : m_sL03Ne l0_0 l0_1 = some r) (F0_0 : S1 w0 fp0_0 A0_0 l0_0) (F0_1 : S1 w0 fp0_1 A0_1 l0_1) (F0 : Cl w0 b0 26 [.slice A0_0 l0_0.length cap0_0, .slice A0_1 l0_1.length cap0_1]) :
  Calls Tryd.prog 55 #[pt b0] w0 fun e w' => ∃ A100 cap100 fp100, e = .returned (.slice A100 r.length cap100) ∧ O1 2 w' fp100 A100 cap100 r ∧ (∀ x ∈ fp100, w0.heap.size ≤ x) ∧ Chg [] w0 w' := by
 have L0_0 := F0_0.low
 have L0_1 := F0_1.low
 have L0 := lt1 F0.lt
 have hB : Chg [] w0 w0 := Chg.refl _ _
 unfold m_sL03Ne at hm
 refine enterE (N := 31) Tryd.func55 (by rfl) Tryd.ntmps55 (by simp) [(0, pt b0)] (by rfl) (by kernel_rfl) (fun a => ?_)
 refine sR <| wP 1 [(2, .slice none 0 0)] <| wN <| sR <| wS_bs0 (α := Int) (enc := encI) (d := 8) (t := 24) (T := 2) (by kernel_rfl) el24 ?_
 intro b1 w1 G1 F1 hc1
 replace F0_0 := F0_0.c hc1
 replace F0_1 := F0_1.c hc1
 replace F0 := F0.c hc1
 replace G1 := Nat.le_trans hB.size G1
 replace G1 := low1 G1
 replace hB := hB.q hc1
 refine wP 1 [(3, .slice (ad b1) (([] : List Int)).length 0)] <| wN <| cW_seq <| sR <| wP 1 [(4, ii 1)] <| wN ?_
 obtain ⟨r1, hr1, hm⟩ := bindE hm
 have hm1 := hm
 refine cW_cut (fun a' w' => ∃ l1 : List Int, ∃ A1 : Option Addr, ∃ cap1 : Nat, ∃ fp1 : List Nat, l1 = r1 ∧ Fr 31 [(3, .slice A1 l1.length cap1)] a' ∧ O1 2 w' fp1 A1 cap1 l1 ∧ (∀ x ∈ fp1, w0.heap.size ≤ x) ∧ Chg [] w0 w') ?_ ?_
 ·refine cW_block ?_
  refine cW_loop _ (fun (s1 : (List Int) × Int) a' w' => ∃ l3 : List Int, ∃ A3 : Option Addr, ∃ cap3 : Nat, ∃ fp2 : List Nat, ∃ x1 : Int, (l3, x1) = s1 ∧ Fr 31 [(0, pt b0), (3, .slice A3 l3.length cap3), (4, ii x1)] a' ∧ S1 w' fp0_0 A0_0 l0_0 ∧ S1 w' fp0_1 A0_1 l0_1 ∧ Cl w' b0 26 [.slice A0_0 l0_0.length cap0_0, .slice A0_1 l0_1.length cap0_1] ∧ O1 2 w' fp2 A3 cap3 l3 ∧ (∀ x ∈ fp2, w0.heap.size ≤ x) ∧ Chg [] w0 w') hr1 (fun hst => ⟨([] : List Int), (ad b1), 0, [b1], 1, rfl, fO hst, F0_0, F0_1, F0, F1, G1, hB⟩) ?_
  rintro _ c1 a' w2 ⟨l3, A3, cap3, fp2, x1, rfl, hF1, F2, F3, F4, F5, G2, hB⟩ hx1
  refine gO hF1 ?_
  have hm := hx1
  unfold m_sL03Ne_s1 at hm
  refine cW_seq <| sR <| wP 2 [(10, .bool (decide (x1 ≤ 12))), (9, ii x1)] <| wN <| cC (decide (x1 ≤ 12)) (fun hb1 => ?_) (fun hb1 => ?_)
  ·have hm := condT hb1 hm
   refine cW_skip <| eX_then <| cW_seq <| cW_block ?_
   obtain ⟨s2, hs1, hm⟩ := bindE hm
   refine cW_cut (fun a' w' => ∃ l4 : List Int, ∃ A4 : Option Addr, ∃ cap4 : Nat, ∃ fp3 : List Nat, l4 = s2 ∧ Fr 31 [(0, pt b0), (3, .slice A4 l4.length cap4), (4, ii x1)] a' ∧ S1 w' fp0_0 A0_0 l0_0 ∧ S1 w' fp0_1 A0_1 l0_1 ∧ Cl w' b0 26 [.slice A0_0 l0_0.length cap0_0, .slice A0_1 l0_1.length cap0_1] ∧ O1 2 w' fp3 A4 cap4 l4 ∧ (∀ x ∈ fp3, w0.heap.size ≤ x) ∧ Chg [] w0 w') ?_ ?_
   ·have hm := hs1
    refine sR <| wP 2 [(15, ii x1), (14, pt b0)] ?_
    obtain ⟨y1, hy1, hm⟩ := bindE hm
    refine sC 16 [pt b0, ii x1] ent92 (c_sL03Sp hy1 F2 F3 F4) ?_
    rintro _ w3 ⟨rfl, hc2⟩
    replace F2 := F2.c hc2
    replace F3 := F3.c hc2
    replace F4 := F4.c hc2
    replace F5 := F5.c hc2
    replace hB := hB.q hc2
    refine ⟨.tuple #[ii y1.1, ii y1.2.1, .bool (y1.2.2)], rfl, ?_⟩
    refine wP 7 [(7, .bool (y1.2.2)), (6, ii y1.2.1), (5, ii y1.1), (19, .bool (y1.2.2)), (18, ii y1.2.1), (17, ii y1.1), (13, .tuple #[ii y1.1, ii y1.2.1, .bool (y1.2.2)])] <| wN <| sR <| wP 2 [(21, .bool (y1.2.2)), (20, .bool (y1.2.2))] <| wS_bool y1.2.2 (fun hb2 => ?_) (fun hb2 => ?_)
    ·have hm := condT hb2 hm
     rewrite [hb2]
     refine wP 4 [(25, .bool (decide (y1.1 < y1.2.1))), (24, .bool (decide (y1.1 < y1.2.1))), (23, ii y1.2.1), (22, ii y1.1)] <| wN <| cC (decide (y1.1 < y1.2.1)) (fun hb3 => ?_) (fun hb3 => ?_)
     ·have hm := condT hb3 hm
      refine cW_region <| wP 2 [(27, ii x1), (26, .slice A3 l3.length cap3)] <| wS_bs (enc := encI) ([x1] : List Int) [ii x1] (d := 28) (t := 24) (T := 2) (n := 1) (ps := [(0, ii x1)]) (by kernel_rfl) el24 encI_ok (by rfl) (by omega) (by omega) (by kernel_rfl) (by rfl) ?_
      intro b2 w4 G3 F6 hc3
      have D1 := Dj.of F5.low (low1 G3)
      replace F2 := F2.c hc3
      replace F3 := F3.c hc3
      replace F4 := F4.c hc3
      replace F5 := F5.c hc3
      replace G3 := Nat.le_trans hB.size G3
      replace G3 := low1 G3
      replace hB := hB.q hc3
      obtain ⟨_, hk1, hm⟩ := bindE hm
      replace hk1 := apE hk1
      refine wS_append (enc := encI) (l := (l3 : List Int)) (l2 := (([x1] : List Int) : List Int)) (d := 29) (t := 24) (T := 2) (A := A3) (A2 := (ad b2)) (cap := cap3) (cap2 := 1) (by kernel_rfl) el24 encI_ok F5 (F6.sl encI_ok) (by rfl) hk1 ?_
      intro w5 fp4 A5 cap5 F7 hc4 hp1
      have G4 := low_ap G2 hB.size hp1
      have D2 : Dj [b2] fp4 := Dj.ap (D1).symm F6.low hp1
      replace F2 := F2.chg hc4 (Dj.of L0_0 G2)
      replace F3 := F3.chg hc4 (Dj.of L0_1 G2)
      replace F4 := F4.chg hc4 (dj1 (Dj.of L0 G2))
      replace F6 := F6.chg hc4 (D1).symm
      replace hB := hB.inS hc4 (inLow G2)
      refine wP 1 [(3, .slice A5 (l3 ++ (([x1] : List Int))).length cap5)] <| wE ?_
      obtain rfl := someE (x := (l3 ++ (([x1] : List Int)))) hm
      exact eX_J (fun hst => ⟨l3 ++ (([x1] : List Int)), A5, cap5, fp4, rfl, fO hst, F2, F3, F4, F7, G4, hB⟩)
     have hm := condF hb3 hm
     refine cW_skip ?_
     obtain rfl := someE (x := l3) hm
     exact eX_J (fun hst => ⟨l3, A3, cap3, fp2, rfl, fO hst, F2, F3, F4, F5, G2, hB⟩)
    have hm := condF hb2 hm
    rewrite [hb2]
    refine wP 4 [(25, .bool (false)), (24, undef), (23, undef), (22, undef)] <| wN <| cCf <| cW_skip ?_
    obtain rfl := someE (x := l3) hm
    exact eX_J (fun hst => ⟨l3, A3, cap3, fp2, rfl, fO hst, F2, F3, F4, F5, G2, hB⟩)
   rintro a' w6 ⟨l4, A4, cap4, fp3, hJ, hF2, F8, F9, F10, F11, G5, hB⟩
   subst hJ
   refine gX hF2 <| eX_block <| eX_then <| cW_region <| wP 3 [(4, ii (wr (x1 + 1))), (12, ii (wr (x1 + 1))), (11, ii x1)] <| wE ?_
   obtain rfl := someE (x := (Ctl.next ((l4, wr (x1 + 1))))) hm
   exact eX_next hx1 (fun hst => ⟨l4, A4, cap4, fp3, wr (x1 + 1), rfl, fO hst, F8, F9, F10, F11, G5, hB⟩)
  have hm := condF hb1 hm
  refine cW_exit <| eX_then_exit ?_
  obtain rfl := someE (x := Ctl.out l3) hm
  refine eX_outX hx1 (fun hr2 => ?_)
  replace hr2 := hr2.symm
  subst hr2
  refine eX_block_hit ?_
  exact eX_J (fun hst => ⟨l3, A3, cap3, fp2, rfl, fO hst, F5, G2, hB⟩)
 rintro a' w7 ⟨l1, A1, cap1, fp1, hJ, hF3, F12, G6, hB⟩
 subst hJ
 refine gX hF3 <| eX_then <| sR <| wP 2 [(2, .slice A1 l1.length cap1), (30, .slice A1 l1.length cap1)] <| wN <| cW_ret ?_
 obtain rfl := someE (x := l1) hm
 refine rA (.slice A1 l1.length cap1) 2 ?_
 exact ⟨A1, cap1, fp1, rfl, F12, G6, hB⟩

set_option maxRecDepth 100000 in
theorem c_sL00SrOne {w0 l0_0 A0_0 cap0_0 fp0_0 q0_1 q0_2 b0 p1} {r : Bool × (Int) × (Int)} (hm : m_sL00SrOne l0_0 q0_1 q0_2 p1 = some r) (F0_0 : Sl 1 encU w0 fp0_0 A0_0 l0_0) (F0 : Cl w0 b0 99 [.slice A0_0 l0_0.length cap0_0, ii q0_1, .int .u64 (q0_2)]) (J0__0_0 : Dj [b0] fp0_0) :
  Calls Tryd.prog 56 #[pt b0, ii p1] w0 fun e w' => e = .returned (.bool (r.1)) ∧ Cl w' b0 99 [.slice A0_0 l0_0.length cap0_0, ii r.2.1, .int .u64 (r.2.2)] ∧ Chg ([b0] ++ []) w0 w' := by
 have L0_0 := F0_0.low
 have L0 := lt1 F0.lt
 have hB : Chg ([b0] ++ []) w0 w0 := Chg.refl _ _
 unfold m_sL00SrOne at hm
 refine enterE (N := 9) Tryd.func56 (by rfl) Tryd.ntmps56 (by simp) [(0, pt b0), (1, ii p1)] (by rfl) (by kernel_rfl) (fun a => ?_)
 refine sR <| wP 1 [(4, .bool (false))] <| wN <| sR <| wP 2 [(6, ii p1), (5, pt b0)] ?_
 obtain ⟨y1, hy1, hm⟩ := bindE hm
 refine sC 7 [pt b0, ii p1] ent34 (c_sL00SrPick hy1 F0_0 F0 J0__0_0) ?_
 rintro _ w1 ⟨rfl, F1, hc1⟩
 replace F0_0 := F0_0.chg hc1 (Dj.app (J0__0_0).symm Dj.nil)
 replace hB := hB.inS hc1 (inApp (inMem (fun x hx => (List.mem_append_left _ hx))) inNil)
 clear F0
 refine ⟨ii y1.1, rfl, ?_⟩
 refine wP 2 [(4, .bool (y1.1 == 0)), (8, .bool (y1.1 == 0))] <| wN <| cW_ret ?_
 obtain rfl := someE (x := ((y1.1 == 0, y1.2.1, y1.2.2))) hm
 refine rA (.bool (y1.1 == 0)) 4 ?_
 exact ⟨rfl, F1, hB⟩

end Go.Proofs.YtbfjekmefcpkmaaDoor
