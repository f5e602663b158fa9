/- Printed walks: spec.l03Tracks, spec.IsRouting, laws.FnChannels. -/
import Derived.Test.YtbfjekmefcpkmaaDoorProg
import Derived.Test.YtbfjekmefcpkmaaDoorWCn05
set_option linter.unusedSimpArgs false
set_option linter.unusedVariables false
namespace Go.Proofs.YtbfjekmefcpkmaaDoor
open Go.RowKit
attribute [local irreducible] wS cW eX wH

theorem ent7 : Ent Tryd.prog 7 := fun _ => by kernel_rfl
theorem ent8 : Ent Tryd.prog 8 := fun _ => by kernel_rfl
theorem ent9 : Ent Tryd.prog 9 := fun _ => by kernel_rfl
theorem ent10 : Ent Tryd.prog 10 := fun _ => by kernel_rfl
theorem ent11 : Ent Tryd.prog 11 := fun _ => by kernel_rfl
theorem ent12 : Ent Tryd.prog 12 := fun _ => by kernel_rfl
theorem ent13 : Ent Tryd.prog 13 := fun _ => by kernel_rfl
theorem ent14 : Ent Tryd.prog 14 := fun _ => by kernel_rfl
theorem ent15 : Ent Tryd.prog 15 := fun _ => by kernel_rfl
theorem ent16 : Ent Tryd.prog 16 := fun _ => by kernel_rfl
theorem ent17 : Ent Tryd.prog 17 := fun _ => by kernel_rfl
theorem ent18 : Ent Tryd.prog 18 := fun _ => by kernel_rfl
theorem ent19 : Ent Tryd.prog 19 := fun _ => by kernel_rfl
theorem ent60 : Ent Tryd.prog 60 := fun _ => by kernel_rfl
theorem ent61 : Ent Tryd.prog 61 := fun _ => by kernel_rfl
theorem ent62 : Ent Tryd.prog 62 := fun _ => by kernel_rfl
theorem vt4 : VarTy Tryd.prog 4 1 false := ⟨by kernel_rfl, by kernel_rfl⟩
theorem vt120 : VarTy Tryd.prog 120 1 false := ⟨by kernel_rfl, by kernel_rfl⟩
theorem sl92 : SlTy Tryd.prog 92 120 1 := ⟨Tryd.underlying92, by kernel_rfl⟩

set_option maxRecDepth 100000 in
theorem c_sL03Tr {w0 l0_0 A0_0 cap0_0 fp0_0} {l0_1 : List (List Bool)} {A0_1 : Option Addr} {cap0_1 : Nat} {fp0_1 : List Nat} {l0_2 : List (List Bool)} {A0_2 : Option Addr} {cap0_2 : Nat} {fp0_2 : List Nat} {b0 : Nat} {l1 : List (List Int)} {A1 : Option Addr} {cap1 : Nat} {fp1 : List Nat} {r : Bool} (hm : m_sL03Tr l0_0 l0_1 l0_2 l1 = some r) (F0_0 : S1 w0 fp0_0 A0_0 l0_0) (F0_1 : SlR 1 encB w0 fp0_1 A0_1 l0_1) (F0_2 : SlR 1 encB w0 fp0_2 A0_2 l0_2) (F0 : Cl w0 b0 94 [.slice A0_0 l0_0.length cap0_0, .slice A0_1 l0_1.length cap0_1, .slice A0_2 l0_2.length cap0_2]) (F1 : SlR 1 encI w0 fp1 A1 l1) :
  Calls Tryd.prog 61 #[pt b0, .slice A1 l1.length cap1] w0 fun e w' => e = .returned (.bool (r)) ∧ Chg [] w0 w' := by
 have L0_0 := F0_0.low
 have L0_1 := F0_1.low
 have L0_2 := F0_2.low
 have L0 := lt1 F0.lt
 have L1 := F1.low
 have hB : Chg [] w0 w0 := Chg.refl _ _
 unfold m_sL03Tr at hm
 refine enterE (N := 175) Tryd.func61 (by rfl) Tryd.ntmps61 (by simp) [(0, pt b0), (1, .slice A1 l1.length cap1)] (by rfl) (by kernel_rfl) (fun a => ?_)
 refine sR <| wP 1 [(4, .bool (false))] <| wN <| sR <| wP 3 [(14, pt b0), (13, pt b0), (12, pt b0)] <| sL 15 ⟨b0, 0, none⟩ (.slice A0_0 l0_0.length cap0_0) vt24 ((F0).cell 0) <| wP 1 [(16, ii (l0_0.length : Int))] ?_
 obtain ⟨_, hk1, hm⟩ := bindE hm
 replace hk1 := mkE hk1
 refine wS_make (enc := encI) (x0 := (0 : Int)) (d := 17) (t := 56) (T := 3) (k1 := .i64) (k2 := .i64) (m := (l0_0.length : Int)) (by kernel_rfl) el56 encI_ok (by rfl) hk1.1 hk1.2 ?_
 intro b1 w1 G1 F2 hc1
 replace F0_0 := F0_0.c hc1
 replace F0_1 := F0_1.c hc1
 replace F0_2 := F0_2.c hc1
 replace F0 := F0.c hc1
 replace F1 := F1.c hc1
 replace G1 := Nat.le_trans hB.size G1
 replace G1 := low1 G1
 replace hB := hB.q hc1
 refine wP 1 [(5, .slice (ad b1) (List.replicate (Int.toNat ((l0_0.length : Int))) ((0 : Int))).length (Int.toNat ((l0_0.length : Int))))] <| wN <| sR <| wP 1 [(6, ii 0)] <| wN <| cW_seq <| sR <| wP 1 [(7, ii 0)] <| wN ?_
 obtain ⟨r1, hr1, hm⟩ := bindE hm
 have hm1 := hm
 refine cW_cut (fun a' w' => ∃ x1 : Int, ∃ l2 : List Int, Sum.inl ((x1, l2)) = r1 ∧ Fr 175 [(0, pt b0), (5, .slice (ad b1) l2.length (Int.toNat ((l0_0.length : Int)))), (6, ii x1)] a' ∧ S1 w' fp0_0 A0_0 l0_0 ∧ SlR 1 encB w' fp0_1 A0_1 l0_1 ∧ SlR 1 encB w' fp0_2 A0_2 l0_2 ∧ Cl w' b0 94 [.slice A0_0 l0_0.length cap0_0, .slice A0_1 l0_1.length cap0_1, .slice A0_2 l0_2.length cap0_2] ∧ O1 3 w' [b1] (ad b1) (Int.toNat ((l0_0.length : Int))) l2 ∧ Chg [] w0 w') ?_ ?_
 ·refine cW_block ?_
  refine cW_loop _ (fun (s1 : Int × Int × (List Int)) a' w' => ∃ x2 : Int, ∃ x3 : Int, ∃ l3 : List Int, (x2, x3, l3) = s1 ∧ Fr 175 [(0, pt b0), (1, .slice A1 l1.length cap1), (5, .slice (ad b1) l3.length (Int.toNat ((l0_0.length : Int)))), (6, ii x2), (7, ii x3)] a' ∧ S1 w' fp0_0 A0_0 l0_0 ∧ SlR 1 encB w' fp0_1 A0_1 l0_1 ∧ SlR 1 encB w' fp0_2 A0_2 l0_2 ∧ Cl w' b0 94 [.slice A0_0 l0_0.length cap0_0, .slice A0_1 l0_1.length cap0_1, .slice A0_2 l0_2.length cap0_2] ∧ SlR 1 encI w' fp1 A1 l1 ∧ O1 3 w' [b1] (ad b1) (Int.toNat ((l0_0.length : Int))) l3 ∧ Chg [] w0 w') hr1 (fun hst => ⟨0, 0, List.replicate (Int.toNat ((l0_0.length : Int))) ((0 : Int)), rfl, fO hst, F0_0, F0_1, F0_2, F0, F1, F2, hB⟩) ?_
  rintro _ c1 a' w2 ⟨x2, x3, l3, rfl, hF1, F3, F4, F5, F6, F7, F8, hB⟩ hx1
  refine gO hF1 ?_
  have hm := hx1
  unfold m_sL03Tr_s15 at hm
  refine cW_seq <| sR <| wP 4 [(21, .bool (decide (x3 < ((l1.length : Int))))), (20, ii (l1.length : Int)), (19, .slice A1 l1.length cap1), (18, ii x3)] <| wN <| cC (decide (x3 < ((l1.length : Int)))) (fun hb1 => ?_) (fun hb1 => ?_)
  ·have hm := condT hb1 hm
   refine cW_skip <| eX_then <| cW_seq <| cW_block <| cW_seq <| sR <| wP 2 [(25, ii x3), (24, .slice A1 l1.length cap1)] ?_
   obtain ⟨x4, hx2, hm⟩ := bindE hm
   refine sI 26 A1 l1.length cap1 .i64 x3 sl28 (F7.is hx2) ?_
   obtain ⟨A2, cap2, hc2, F9, K1⟩ := SlR.row F7 hx2
   refine sL 27 (elA A1 1 (x3) 0) (.slice A2 x4.length cap2) vt24 hc2 <| wP 2 [(29, .bool (((x4.length : Int)) == 0)), (28, ii (x4.length : Int))] <| wN <| cC (((x4.length : Int)) == 0) (fun hb2 => ?_) (fun hb2 => ?_)
   ·have hm := condT hb2 hm
    refine sR <| wP 1 [(4, .bool (false))] <| wN <| cW_ret <| eX_then_ret <| eX_block_ret <| eX_then_ret ?_
    obtain rfl := someE (x := Ctl.out (Sum.inr false)) hm
    refine eX_outR hx1 (fun hr => ?_)
    subst hr
    refine eX_block_ret <| eX_then_ret <| eX_then_ret ?_
    obtain rfl := someE (x := false) hm1
    refine rA (.bool (false)) 4 ?_
    exact ⟨rfl, hB⟩
   have hm := condF hb2 hm
   refine cW_skip <| eX_then <| sR <| wP 1 [(8, ii 0)] <| wN ?_
   obtain ⟨r2, hr2, hm⟩ := bindE hm
   have hm2 := hm
   refine cW_cut (fun a' w' => ∃ x5 : Int, ∃ l4 : List Int, Sum.inl ((x5, l4)) = r2 ∧ Fr 175 [(0, pt b0), (1, .slice A1 l1.length cap1), (5, .slice (ad b1) l4.length (Int.toNat ((l0_0.length : Int)))), (6, ii x5), (7, ii x3)] a' ∧ S1 w' fp0_0 A0_0 l0_0 ∧ SlR 1 encB w' fp0_1 A0_1 l0_1 ∧ SlR 1 encB w' fp0_2 A0_2 l0_2 ∧ Cl w' b0 94 [.slice A0_0 l0_0.length cap0_0, .slice A0_1 l0_1.length cap0_1, .slice A0_2 l0_2.length cap0_2] ∧ SlR 1 encI w' fp1 A1 l1 ∧ O1 3 w' [b1] (ad b1) (Int.toNat ((l0_0.length : Int))) l4 ∧ Chg [] w0 w') ?_ ?_
   ·refine cW_block ?_
    refine cW_loop _ (fun (s2 : Int × Int × (List Int)) a' w' => ∃ x6 : Int, ∃ x7 : Int, ∃ l5 : List Int, (x6, x7, l5) = s2 ∧ Fr 175 [(0, pt b0), (1, .slice A1 l1.length cap1), (5, .slice (ad b1) l5.length (Int.toNat ((l0_0.length : Int)))), (6, ii x6), (7, ii x3), (8, ii x7)] a' ∧ S1 w' fp0_0 A0_0 l0_0 ∧ SlR 1 encB w' fp0_1 A0_1 l0_1 ∧ SlR 1 encB w' fp0_2 A0_2 l0_2 ∧ Cl w' b0 94 [.slice A0_0 l0_0.length cap0_0, .slice A0_1 l0_1.length cap0_1, .slice A0_2 l0_2.length cap0_2] ∧ SlR 1 encI w' fp1 A1 l1 ∧ O1 3 w' [b1] (ad b1) (Int.toNat ((l0_0.length : Int))) l5 ∧ Chg [] w0 w') hr2 (fun hst => ⟨x2, 0, l3, rfl, fO hst, F3, F4, F5, F6, F7, F8, hB⟩) ?_
    rintro _ c2 a' w3 ⟨x6, x7, l5, rfl, hF2, F10, F11, F12, F13, F14, F15, hB⟩ hx3
    refine gO hF2 ?_
    have hm := hx3
    unfold m_sL03Tr_s20 at hm
    refine cW_seq <| sR <| wP 3 [(32, ii x3), (31, .slice A1 l1.length cap1), (30, ii x7)] ?_
    obtain ⟨x8, hx4, hm⟩ := bindE hm
    refine sI 33 A1 l1.length cap1 .i64 x3 sl28 (F14.is hx4) ?_
    obtain ⟨A3, cap3, hc3, F16, K2⟩ := SlR.row F14 hx4
    refine sL 34 (elA A1 1 (x3) 0) (.slice A3 x8.length cap3) vt24 hc3 <| wP 2 [(36, .bool (decide (x7 < ((x8.length : Int))))), (35, ii (x8.length : Int))] <| wN <| cC (decide (x7 < ((x8.length : Int)))) (fun hb3 => ?_) (fun hb3 => ?_)
    ·have hm := condT hb3 hm
     refine cW_skip <| eX_then <| cW_seq <| cW_block <| cW_seq <| cW_seq <| cW_drawnTail [] 18 (by kernel_rfl) (by kernel_rfl) (fun w4 hc4 => ?_)
     replace F10 := F10.c hc4
     replace F11 := F11.c hc4
     replace F12 := F12.c hc4
     replace F13 := F13.c hc4
     replace F14 := F14.c hc4
     replace F15 := F15.c hc4
     replace F16 := F16.c hc4
     replace hB := hB.q hc4
     have hS := Chg.refl [] w4
     have Z1 := F10
     have Z2 := F11
     have Z3 := F12
     have Z4 := F13
     have Z5 := F14
     have Z6 := F15
     have Z7 := F16
     refine hT [0, 1, 2] [(41, .bool (decide (x7 > 0))), (40, .bool (decide (x7 > 0))), (39, ii x7)] <| wH_bool (decide (x7 > 0)) (fun hb4 => ?_) (fun hb4 => ?_)
     ·have hm := condT hb4 hm
      rewrite [hb4]
      refine hT [3, 4] [(43, ii x3), (42, .slice A1 l1.length cap1)] ?_
      obtain ⟨x9, hx5, hm⟩ := bindE hm
      refine hI 5 44 A1 l1.length cap1 .i64 x3 sl28 (F14.is hx5) ?_
      obtain ⟨A4, cap4, hc5, F17, K3⟩ := SlR.row Z5 hx5
      refine hL 6 45 (elA A1 1 (x3) 0) (.slice A4 x9.length cap4) vt24 (fun W hW => hW.keep hc5) ?_
      refine hT [7, 8] [(47, ii (wr (x7 - 1))), (46, ii x7)] ?_
      obtain ⟨x10, hx6, hm⟩ := bindE hm
      refine hI 9 48 A4 x9.length cap4 .i64 (wr (x7 - 1)) sl24 (F17.is hx6) <| hL 10 49 (elA A4 1 (wr (x7 - 1)) 0) (ii x10) vt2 (fun W hW => Sl.cell (F17.c hW) hx6 0 (by rfl)) ?_
      refine hT [11, 12] [(51, ii x3), (50, .slice A1 l1.length cap1)] ?_
      obtain ⟨x11, hx7, hm⟩ := bindE hm
      refine hI 13 52 A1 l1.length cap1 .i64 x3 sl28 (F14.is hx7) ?_
      obtain ⟨A5, cap5, hc6, F18, K4⟩ := SlR.row Z5 hx7
      refine hL 14 53 (elA A1 1 (x3) 0) (.slice A5 x11.length cap5) vt24 (fun W hW => hW.keep hc6) ?_
      refine hT [15] [(54, ii x7)] ?_
      obtain ⟨x12, hx8, hm⟩ := bindE hm
      refine hI 16 55 A5 x11.length cap5 .i64 x7 sl24 (F18.is hx8) <| hL 17 56 (elA A5 1 (x7) 0) (ii x12) vt2 (fun W hW => Sl.cell (F18.c hW) hx8 0 (by rfl)) ?_
      refine wD <| eX_tail <| wP 2 [(58, .bool (decide (x10 ≥ x12))), (57, .bool (decide (x10 ≥ x12)))] <| wN <| cP [(0, pt b0), (1, .slice A1 l1.length cap1), (5, .slice (ad b1) l5.length (Int.toNat ((l0_0.length : Int)))), (6, ii x6), (7, ii x3), (8, ii x7), (58, .bool (decide (x10 ≥ x12)))] (fun a1 => ?_)
      refine cC (decide (x10 ≥ x12)) (fun hb5 => ?_) (fun hb5 => ?_)
      ·have hm := condT hb5 hm
       refine sR <| wP 1 [(4, .bool (false))] <| wN <| cW_ret <| eX_then_ret <| eX_block_ret <| eX_then_ret ?_
       obtain rfl := someE (x := Ctl.out (Sum.inr false)) hm
       refine eX_outR hx3 (fun hr => ?_)
       subst hr
       refine eX_block_ret <| eX_then_ret <| eX_block_ret <| eX_then_ret ?_
       obtain rfl := someE (x := Ctl.out (Sum.inr false)) hm2
       refine eX_outR hx1 (fun hr => ?_)
       subst hr
       refine eX_block_ret <| eX_then_ret <| eX_then_ret ?_
       obtain rfl := someE (x := false) hm1
       refine rA (.bool (false)) 4 ?_
       exact ⟨rfl, hB⟩
      have hm := condF hb5 hm
      refine cW_skip <| eX_then <| sR <| wP 1 [(9, ii 0)] <| wN <| cW_seq ?_
      obtain ⟨r3, hr3, hm⟩ := bindE hm
      have hm3 := hm
      refine cW_cut (fun a' w' => ∃ x13 : Int, x13 = r3 ∧ Fr 175 [(0, pt b0), (1, .slice A1 l1.length cap1), (5, .slice (ad b1) l5.length (Int.toNat ((l0_0.length : Int)))), (6, ii x6), (7, ii x3), (8, ii x7), (9, ii x13)] a' ∧ S1 w' fp0_0 A0_0 l0_0 ∧ SlR 1 encB w' fp0_1 A0_1 l0_1 ∧ SlR 1 encB w' fp0_2 A0_2 l0_2 ∧ Cl w' b0 94 [.slice A0_0 l0_0.length cap0_0, .slice A0_1 l0_1.length cap0_1, .slice A0_2 l0_2.length cap0_2] ∧ SlR 1 encI w' fp1 A1 l1 ∧ O1 3 w' [b1] (ad b1) (Int.toNat ((l0_0.length : Int))) l5 ∧ Chg [] w0 w') ?_ ?_
      ·refine cW_block ?_
       refine cW_loop _ (fun (s3 : Int) a' w' => ∃ x14 : Int, x14 = s3 ∧ Fr 175 [(0, pt b0), (1, .slice A1 l1.length cap1), (5, .slice (ad b1) l5.length (Int.toNat ((l0_0.length : Int)))), (6, ii x6), (7, ii x3), (8, ii x7), (9, ii x14)] a' ∧ S1 w' fp0_0 A0_0 l0_0 ∧ SlR 1 encB w' fp0_1 A0_1 l0_1 ∧ SlR 1 encB w' fp0_2 A0_2 l0_2 ∧ Cl w' b0 94 [.slice A0_0 l0_0.length cap0_0, .slice A0_1 l0_1.length cap0_1, .slice A0_2 l0_2.length cap0_2] ∧ SlR 1 encI w' fp1 A1 l1 ∧ O1 3 w' [b1] (ad b1) (Int.toNat ((l0_0.length : Int))) l5 ∧ Chg [] w0 w') hr3 (fun hst => ⟨0, rfl, fO hst, F10, F11, F12, F13, F14, F15, hB⟩) ?_
       rintro _ c3 a' w5 ⟨x14, rfl, hF3, F19, F20, F21, F22, F23, F24, hB⟩ hx9
       refine gO hF3 ?_
       have hm := hx9
       unfold m_sL03Tr_s21 at hm
       refine cW_seq <| cW_seq <| cW_drawnTail [] 22 (by kernel_rfl) (by kernel_rfl) (fun w6 hc7 => ?_)
       replace F19 := F19.c hc7
       replace F20 := F20.c hc7
       replace F21 := F21.c hc7
       replace F22 := F22.c hc7
       replace F23 := F23.c hc7
       replace F24 := F24.c hc7
       replace hB := hB.q hc7
       have hS := Chg.refl [] w6
       have Z8 := F19
       have Z9 := F20
       have Z10 := F21
       have Z11 := F22
       have Z12 := F23
       have Z13 := F24
       refine hT [0, 1, 2, 3] [(62, pt b0), (61, pt b0), (60, pt b0), (59, ii x14)] <| hL 4 63 ⟨b0, 0, none⟩ (.slice A0_0 l0_0.length cap0_0) vt24 (fun W hW => (Z11.c hW).cell 0) ?_
       refine hT [5, 6, 7] [(66, .bool (decide (x14 < ((l0_0.length : Int))))), (65, .bool (decide (x14 < ((l0_0.length : Int))))), (64, ii (l0_0.length : Int))] <| wH_bool (decide (x14 < ((l0_0.length : Int)))) (fun hb6 => ?_) (fun hb6 => ?_)
       ·have hm := condT hb6 hm
        rewrite [hb6]
        refine hT [8, 9, 10] [(69, pt b0), (68, pt b0), (67, pt b0)] <| hL 11 70 ⟨b0, 0, none⟩ (.slice A0_0 l0_0.length cap0_0) vt24 (fun W hW => (Z11.c hW).cell 0) ?_
        refine hT [12] [(71, ii x14)] ?_
        obtain ⟨x15, hx10, hm⟩ := bindE hm
        refine hI 13 72 A0_0 l0_0.length cap0_0 .i64 x14 sl24 (F19.is hx10) <| hL 14 73 (elA A0_0 1 (x14) 0) (ii x15) vt2 (fun W hW => Sl.cell (Z8.c hW) hx10 0 (by rfl)) ?_
        refine hT [15, 16] [(75, ii x3), (74, .slice A1 l1.length cap1)] ?_
        obtain ⟨x16, hx11, hm⟩ := bindE hm
        refine hI 17 76 A1 l1.length cap1 .i64 x3 sl28 (F23.is hx11) ?_
        obtain ⟨A6, cap6, hc8, F25, K5⟩ := SlR.row Z12 hx11
        refine hL 18 77 (elA A1 1 (x3) 0) (.slice A6 x16.length cap6) vt24 (fun W hW => hW.keep hc8) ?_
        refine hT [19] [(78, ii x7)] ?_
        obtain ⟨x17, hx12, hm⟩ := bindE hm
        refine hI 20 79 A6 x16.length cap6 .i64 x7 sl24 (F25.is hx12) <| hL 21 80 (elA A6 1 (x7) 0) (ii x17) vt2 (fun W hW => Sl.cell (F25.c hW) hx12 0 (by rfl)) ?_
        refine wD <| eX_tail <| wP 2 [(82, .bool (x15 != x17)), (81, .bool (x15 != x17))] <| wN <| cP [(0, pt b0), (1, .slice A1 l1.length cap1), (5, .slice (ad b1) l5.length (Int.toNat ((l0_0.length : Int)))), (6, ii x6), (7, ii x3), (8, ii x7), (9, ii x14), (82, .bool (x15 != x17))] (fun a2 => ?_)
        refine cC (x15 != x17) (fun hb7 => ?_) (fun hb7 => ?_)
        ·have hm := condT hb7 hm
         refine cW_skip <| eX_then <| cW_block <| cW_region <| wP 3 [(9, ii (wr (x14 + 1))), (84, ii (wr (x14 + 1))), (83, ii x14)] <| wE <| eX_block ?_
         obtain rfl := someE (x := Ctl.next (wr (x14 + 1))) hm
         exact eX_next hx9 (fun hst => ⟨wr (x14 + 1), rfl, fO hst, F19, F20, F21, F22, F23, F24, hB⟩)
        have hm := condF hb7 hm
        refine cW_exit <| eX_then_exit ?_
        obtain rfl := someE (x := Ctl.out x14) hm
        refine eX_outX hx9 (fun hr4 => ?_)
        replace hr4 := hr4.symm
        subst hr4
        refine eX_block_hit ?_
        exact eX_J (fun hst => ⟨x14, rfl, fO hst, F19, F20, F21, F22, F23, F24, hB⟩)
       have hm := condF hb6 hm
       rewrite [hb6]
       refine hT [8, 9, 10, 11, 12, 13, 14, 15, 16, 17, 18, 19, 20, 21] [(80, undef), (79, undef), (78, undef), (77, undef), (76, undef), (75, undef), (74, undef), (73, undef), (72, undef), (71, undef), (70, undef), (69, undef), (68, undef), (67, undef)] <| wD <| eX_tail <| wP 2 [(82, .bool (false)), (81, undef)] <| wN <| cP [(0, pt b0), (1, .slice A1 l1.length cap1), (5, .slice (ad b1) l5.length (Int.toNat ((l0_0.length : Int)))), (6, ii x6), (7, ii x3), (8, ii x7), (9, ii x14), (82, .bool (false))] (fun a3 => ?_)
       refine cCf <| cW_exit <| eX_then_exit ?_
       obtain rfl := someE (x := Ctl.out x14) hm
       refine eX_outX hx9 (fun hr5 => ?_)
       replace hr5 := hr5.symm
       subst hr5
       refine eX_block_hit ?_
       exact eX_J (fun hst => ⟨x14, rfl, fO hst, F19, F20, F21, F22, F23, F24, hB⟩)
      rintro a' w7 ⟨x13, hJ, hF4, F26, F27, F28, F29, F30, F31, hB⟩
      subst hJ
      refine gX hF4 <| eX_then <| cW_seq <| sR <| wP 4 [(88, pt b0), (87, pt b0), (86, pt b0), (85, ii x13)] <| sL 89 ⟨b0, 0, none⟩ (.slice A0_0 l0_0.length cap0_0) vt24 ((F29).cell 0) <| wP 3 [(92, .bool (x13 == ((l0_0.length : Int)))), (91, .bool (x13 == ((l0_0.length : Int)))), (90, ii (l0_0.length : Int))] <| wS_bool (x13 == ((l0_0.length : Int))) (fun hb8 => ?_) (fun hb8 => ?_)
      ·have hm := condT hb8 hm
       rewrite [hb8]
       refine wP 6 [(98, .bool (true)), (97, undef), (96, undef), (95, undef), (94, undef), (93, undef)] <| wN <| cCt <| sR <| wP 1 [(4, .bool (false))] <| wN <| cW_ret <| eX_then_ret <| eX_block_ret <| eX_then_ret ?_
       obtain rfl := someE (x := Ctl.out (Sum.inr false)) hm
       refine eX_outR hx3 (fun hr => ?_)
       subst hr
       refine eX_block_ret <| eX_then_ret <| eX_block_ret <| eX_then_ret ?_
       obtain rfl := someE (x := Ctl.out (Sum.inr false)) hm2
       refine eX_outR hx1 (fun hr => ?_)
       subst hr
       refine eX_block_ret <| eX_then_ret <| eX_then_ret ?_
       obtain rfl := someE (x := false) hm1
       refine rA (.bool (false)) 4 ?_
       exact ⟨rfl, hB⟩
      have hm := condF hb8 hm
      rewrite [hb8]
      refine wP 2 [(94, ii x13), (93, .slice (ad b1) l5.length (Int.toNat ((l0_0.length : Int))))] ?_
      obtain ⟨x18, hx13, hm⟩ := bindE hm
      refine sI 95 (ad b1) l5.length (Int.toNat ((l0_0.length : Int))) .i64 x13 sl56 ((F31.sl encI_ok).is hx13) <| sL 96 (elA (ad b1) 1 (x13) 0) (ii x18) vt3 (Sl.cell (F31.sl encI_ok) hx13 0 (by rfl)) <| wP 2 [(98, .bool (decide (x18 > 0))), (97, .bool (decide (x18 > 0)))] <| wN <| cC (decide (x18 > 0)) (fun hb9 => ?_) (fun hb9 => ?_)
      ·have hm := condT hb9 hm
       refine sR <| wP 1 [(4, .bool (false))] <| wN <| cW_ret <| eX_then_ret <| eX_block_ret <| eX_then_ret ?_
       obtain rfl := someE (x := Ctl.out (Sum.inr false)) hm
       refine eX_outR hx3 (fun hr => ?_)
       subst hr
       refine eX_block_ret <| eX_then_ret <| eX_block_ret <| eX_then_ret ?_
       obtain rfl := someE (x := Ctl.out (Sum.inr false)) hm2
       refine eX_outR hx1 (fun hr => ?_)
       subst hr
       refine eX_block_ret <| eX_then_ret <| eX_then_ret ?_
       obtain rfl := someE (x := false) hm1
       refine rA (.bool (false)) 4 ?_
       exact ⟨rfl, hB⟩
      have hm := condF hb9 hm
      refine cW_skip <| eX_then <| sR <| wP 4 [(102, ii (wr (x3 + 1))), (101, ii x3), (100, ii x13), (99, .slice (ad b1) l5.length (Int.toNat ((l0_0.length : Int))))] ?_
      obtain ⟨x19, hx14, hm⟩ := bindE hm
      refine sI 103 (ad b1) l5.length (Int.toNat ((l0_0.length : Int))) .i64 x13 sl56 ((F31.sl encI_ok).is hx14) <| wS_storeEl (x := x19) (wr (x3 + 1)) (T := 3) (U := 3) (cap := (Int.toNat ((l0_0.length : Int)))) (j := 0) (A := (ad b1)) (v := ii (wr (x3 + 1))) (vs := [ii (wr (x3 + 1))]) (m := x13) (by kernel_rfl) (by rfl) sz3 (by rfl) encI_ok F31 hx14 (bl rfl) (by rfl) ?_
      intro w8 F32 hc9
      replace F26 := F26.chg hc9 (Dj.of L0_0 G1)
      replace F27 := F27.chg hc9 (Dj.of L0_1 G1)
      replace F28 := F28.chg hc9 (Dj.of L0_2 G1)
      replace F29 := F29.chg hc9 (dj1 (Dj.of L0 G1))
      replace F30 := F30.chg hc9 (Dj.of L1 G1)
      replace hB := hB.inS hc9 (inLow G1)
      clear F31
      rewrite [show l5.length = (l5.set (Int.toNat x13) (wr (x3 + 1))).length from (List.length_set ..).symm]
      refine wN <| cP [(0, pt b0), (1, .slice A1 l1.length cap1), (5, .slice (ad b1) (l5.set (Int.toNat x13) (wr (x3 + 1))).length (Int.toNat ((l0_0.length : Int)))), (6, ii x6), (7, ii x3), (8, ii x7)] (fun a4 => ?_)
      refine cW_region <| wP 3 [(6, ii (wr (x6 + 1))), (105, ii (wr (x6 + 1))), (104, ii x6)] <| wE <| eX_block <| eX_then <| cW_region <| wP 3 [(8, ii (wr (x7 + 1))), (38, ii (wr (x7 + 1))), (37, ii x7)] <| wE ?_
      obtain rfl := someE (x := (Ctl.next ((wr (x6 + 1), wr (x7 + 1), l5.set (Int.toNat x13) (wr (x3 + 1)))))) hm
      exact eX_next hx3 (fun hst => ⟨wr (x6 + 1), wr (x7 + 1), l5.set (Int.toNat x13) (wr (x3 + 1)), rfl, fO hst, F26, F27, F28, F29, F30, F32, hB⟩)
     have hm := condF hb4 hm
     rewrite [hb4]
     refine hT [3, 4, 5, 6, 7, 8, 9, 10, 11, 12, 13, 14, 15, 16, 17] [(56, undef), (55, undef), (54, undef), (53, undef), (52, undef), (51, undef), (50, undef), (49, undef), (48, undef), (47, undef), (46, undef), (45, undef), (44, undef), (43, undef), (42, undef)] <| wD <| eX_tail <| wP 2 [(58, .bool (false)), (57, undef)] <| wN <| cP [(0, pt b0), (1, .slice A1 l1.length cap1), (5, .slice (ad b1) l5.length (Int.toNat ((l0_0.length : Int)))), (6, ii x6), (7, ii x3), (8, ii x7), (58, .bool (false))] (fun a5 => ?_)
     refine cCf <| cW_skip <| eX_then <| sR <| wP 1 [(9, ii 0)] <| wN <| cW_seq ?_
     obtain ⟨r4, hr6, hm⟩ := bindE hm
     have hm4 := hm
     refine cW_cut (fun a' w' => ∃ x20 : Int, x20 = r4 ∧ Fr 175 [(0, pt b0), (1, .slice A1 l1.length cap1), (5, .slice (ad b1) l5.length (Int.toNat ((l0_0.length : Int)))), (6, ii x6), (7, ii x3), (8, ii x7), (9, ii x20)] a' ∧ S1 w' fp0_0 A0_0 l0_0 ∧ SlR 1 encB w' fp0_1 A0_1 l0_1 ∧ SlR 1 encB w' fp0_2 A0_2 l0_2 ∧ Cl w' b0 94 [.slice A0_0 l0_0.length cap0_0, .slice A0_1 l0_1.length cap0_1, .slice A0_2 l0_2.length cap0_2] ∧ SlR 1 encI w' fp1 A1 l1 ∧ O1 3 w' [b1] (ad b1) (Int.toNat ((l0_0.length : Int))) l5 ∧ Chg [] w0 w') ?_ ?_
     ·refine cW_block ?_
      refine cW_loop _ (fun (s4 : Int) a' w' => ∃ x21 : Int, x21 = s4 ∧ Fr 175 [(0, pt b0), (1, .slice A1 l1.length cap1), (5, .slice (ad b1) l5.length (Int.toNat ((l0_0.length : Int)))), (6, ii x6), (7, ii x3), (8, ii x7), (9, ii x21)] a' ∧ S1 w' fp0_0 A0_0 l0_0 ∧ SlR 1 encB w' fp0_1 A0_1 l0_1 ∧ SlR 1 encB w' fp0_2 A0_2 l0_2 ∧ Cl w' b0 94 [.slice A0_0 l0_0.length cap0_0, .slice A0_1 l0_1.length cap0_1, .slice A0_2 l0_2.length cap0_2] ∧ SlR 1 encI w' fp1 A1 l1 ∧ O1 3 w' [b1] (ad b1) (Int.toNat ((l0_0.length : Int))) l5 ∧ Chg [] w0 w') hr6 (fun hst => ⟨0, rfl, fO hst, F10, F11, F12, F13, F14, F15, hB⟩) ?_
      rintro _ c4 a' w9 ⟨x21, rfl, hF5, F33, F34, F35, F36, F37, F38, hB⟩ hx15
      refine gO hF5 ?_
      have hm := hx15
      unfold m_sL03Tr_s22 at hm
      refine cW_seq <| cW_seq <| cW_drawnTail [] 22 (by kernel_rfl) (by kernel_rfl) (fun w10 hc10 => ?_)
      replace F33 := F33.c hc10
      replace F34 := F34.c hc10
      replace F35 := F35.c hc10
      replace F36 := F36.c hc10
      replace F37 := F37.c hc10
      replace F38 := F38.c hc10
      replace hB := hB.q hc10
      have hS := Chg.refl [] w10
      have Z14 := F33
      have Z15 := F34
      have Z16 := F35
      have Z17 := F36
      have Z18 := F37
      have Z19 := F38
      refine hT [0, 1, 2, 3] [(62, pt b0), (61, pt b0), (60, pt b0), (59, ii x21)] <| hL 4 63 ⟨b0, 0, none⟩ (.slice A0_0 l0_0.length cap0_0) vt24 (fun W hW => (Z17.c hW).cell 0) ?_
      refine hT [5, 6, 7] [(66, .bool (decide (x21 < ((l0_0.length : Int))))), (65, .bool (decide (x21 < ((l0_0.length : Int))))), (64, ii (l0_0.length : Int))] <| wH_bool (decide (x21 < ((l0_0.length : Int)))) (fun hb10 => ?_) (fun hb10 => ?_)
      ·have hm := condT hb10 hm
       rewrite [hb10]
       refine hT [8, 9, 10] [(69, pt b0), (68, pt b0), (67, pt b0)] <| hL 11 70 ⟨b0, 0, none⟩ (.slice A0_0 l0_0.length cap0_0) vt24 (fun W hW => (Z17.c hW).cell 0) ?_
       refine hT [12] [(71, ii x21)] ?_
       obtain ⟨x22, hx16, hm⟩ := bindE hm
       refine hI 13 72 A0_0 l0_0.length cap0_0 .i64 x21 sl24 (F33.is hx16) <| hL 14 73 (elA A0_0 1 (x21) 0) (ii x22) vt2 (fun W hW => Sl.cell (Z14.c hW) hx16 0 (by rfl)) ?_
       refine hT [15, 16] [(75, ii x3), (74, .slice A1 l1.length cap1)] ?_
       obtain ⟨x23, hx17, hm⟩ := bindE hm
       refine hI 17 76 A1 l1.length cap1 .i64 x3 sl28 (F37.is hx17) ?_
       obtain ⟨A7, cap7, hc11, F39, K6⟩ := SlR.row Z18 hx17
       refine hL 18 77 (elA A1 1 (x3) 0) (.slice A7 x23.length cap7) vt24 (fun W hW => hW.keep hc11) ?_
       refine hT [19] [(78, ii x7)] ?_
       obtain ⟨x24, hx18, hm⟩ := bindE hm
       refine hI 20 79 A7 x23.length cap7 .i64 x7 sl24 (F39.is hx18) <| hL 21 80 (elA A7 1 (x7) 0) (ii x24) vt2 (fun W hW => Sl.cell (F39.c hW) hx18 0 (by rfl)) ?_
       refine wD <| eX_tail <| wP 2 [(82, .bool (x22 != x24)), (81, .bool (x22 != x24))] <| wN <| cP [(0, pt b0), (1, .slice A1 l1.length cap1), (5, .slice (ad b1) l5.length (Int.toNat ((l0_0.length : Int)))), (6, ii x6), (7, ii x3), (8, ii x7), (9, ii x21), (82, .bool (x22 != x24))] (fun a6 => ?_)
       refine cC (x22 != x24) (fun hb11 => ?_) (fun hb11 => ?_)
       ·have hm := condT hb11 hm
        refine cW_skip <| eX_then <| cW_block <| cW_region <| wP 3 [(9, ii (wr (x21 + 1))), (84, ii (wr (x21 + 1))), (83, ii x21)] <| wE <| eX_block ?_
        obtain rfl := someE (x := Ctl.next (wr (x21 + 1))) hm
        exact eX_next hx15 (fun hst => ⟨wr (x21 + 1), rfl, fO hst, F33, F34, F35, F36, F37, F38, hB⟩)
       have hm := condF hb11 hm
       refine cW_exit <| eX_then_exit ?_
       obtain rfl := someE (x := Ctl.out x21) hm
       refine eX_outX hx15 (fun hr7 => ?_)
       replace hr7 := hr7.symm
       subst hr7
       refine eX_block_hit ?_
       exact eX_J (fun hst => ⟨x21, rfl, fO hst, F33, F34, F35, F36, F37, F38, hB⟩)
      have hm := condF hb10 hm
      rewrite [hb10]
      refine hT [8, 9, 10, 11, 12, 13, 14, 15, 16, 17, 18, 19, 20, 21] [(80, undef), (79, undef), (78, undef), (77, undef), (76, undef), (75, undef), (74, undef), (73, undef), (72, undef), (71, undef), (70, undef), (69, undef), (68, undef), (67, undef)] <| wD <| eX_tail <| wP 2 [(82, .bool (false)), (81, undef)] <| wN <| cP [(0, pt b0), (1, .slice A1 l1.length cap1), (5, .slice (ad b1) l5.length (Int.toNat ((l0_0.length : Int)))), (6, ii x6), (7, ii x3), (8, ii x7), (9, ii x21), (82, .bool (false))] (fun a7 => ?_)
      refine cCf <| cW_exit <| eX_then_exit ?_
      obtain rfl := someE (x := Ctl.out x21) hm
      refine eX_outX hx15 (fun hr8 => ?_)
      replace hr8 := hr8.symm
      subst hr8
      refine eX_block_hit ?_
      exact eX_J (fun hst => ⟨x21, rfl, fO hst, F33, F34, F35, F36, F37, F38, hB⟩)
     rintro a' w11 ⟨x20, hJ, hF6, F40, F41, F42, F43, F44, F45, hB⟩
     subst hJ
     refine gX hF6 <| eX_then <| cW_seq <| sR <| wP 4 [(88, pt b0), (87, pt b0), (86, pt b0), (85, ii x20)] <| sL 89 ⟨b0, 0, none⟩ (.slice A0_0 l0_0.length cap0_0) vt24 ((F43).cell 0) <| wP 3 [(92, .bool (x20 == ((l0_0.length : Int)))), (91, .bool (x20 == ((l0_0.length : Int)))), (90, ii (l0_0.length : Int))] <| wS_bool (x20 == ((l0_0.length : Int))) (fun hb12 => ?_) (fun hb12 => ?_)
     ·have hm := condT hb12 hm
      rewrite [hb12]
      refine wP 6 [(98, .bool (true)), (97, undef), (96, undef), (95, undef), (94, undef), (93, undef)] <| wN <| cCt <| sR <| wP 1 [(4, .bool (false))] <| wN <| cW_ret <| eX_then_ret <| eX_block_ret <| eX_then_ret ?_
      obtain rfl := someE (x := Ctl.out (Sum.inr false)) hm
      refine eX_outR hx3 (fun hr => ?_)
      subst hr
      refine eX_block_ret <| eX_then_ret <| eX_block_ret <| eX_then_ret ?_
      obtain rfl := someE (x := Ctl.out (Sum.inr false)) hm2
      refine eX_outR hx1 (fun hr => ?_)
      subst hr
      refine eX_block_ret <| eX_then_ret <| eX_then_ret ?_
      obtain rfl := someE (x := false) hm1
      refine rA (.bool (false)) 4 ?_
      exact ⟨rfl, hB⟩
     have hm := condF hb12 hm
     rewrite [hb12]
     refine wP 2 [(94, ii x20), (93, .slice (ad b1) l5.length (Int.toNat ((l0_0.length : Int))))] ?_
     obtain ⟨x25, hx19, hm⟩ := bindE hm
     refine sI 95 (ad b1) l5.length (Int.toNat ((l0_0.length : Int))) .i64 x20 sl56 ((F45.sl encI_ok).is hx19) <| sL 96 (elA (ad b1) 1 (x20) 0) (ii x25) vt3 (Sl.cell (F45.sl encI_ok) hx19 0 (by rfl)) <| wP 2 [(98, .bool (decide (x25 > 0))), (97, .bool (decide (x25 > 0)))] <| wN <| cC (decide (x25 > 0)) (fun hb13 => ?_) (fun hb13 => ?_)
     ·have hm := condT hb13 hm
      refine sR <| wP 1 [(4, .bool (false))] <| wN <| cW_ret <| eX_then_ret <| eX_block_ret <| eX_then_ret ?_
      obtain rfl := someE (x := Ctl.out (Sum.inr false)) hm
      refine eX_outR hx3 (fun hr => ?_)
      subst hr
      refine eX_block_ret <| eX_then_ret <| eX_block_ret <| eX_then_ret ?_
      obtain rfl := someE (x := Ctl.out (Sum.inr false)) hm2
      refine eX_outR hx1 (fun hr => ?_)
      subst hr
      refine eX_block_ret <| eX_then_ret <| eX_then_ret ?_
      obtain rfl := someE (x := false) hm1
      refine rA (.bool (false)) 4 ?_
      exact ⟨rfl, hB⟩
     have hm := condF hb13 hm
     refine cW_skip <| eX_then <| sR <| wP 4 [(102, ii (wr (x3 + 1))), (101, ii x3), (100, ii x20), (99, .slice (ad b1) l5.length (Int.toNat ((l0_0.length : Int))))] ?_
     obtain ⟨x26, hx20, hm⟩ := bindE hm
     refine sI 103 (ad b1) l5.length (Int.toNat ((l0_0.length : Int))) .i64 x20 sl56 ((F45.sl encI_ok).is hx20) <| wS_storeEl (x := x26) (wr (x3 + 1)) (T := 3) (U := 3) (cap := (Int.toNat ((l0_0.length : Int)))) (j := 0) (A := (ad b1)) (v := ii (wr (x3 + 1))) (vs := [ii (wr (x3 + 1))]) (m := x20) (by kernel_rfl) (by rfl) sz3 (by rfl) encI_ok F45 hx20 (bl rfl) (by rfl) ?_
     intro w12 F46 hc12
     replace F40 := F40.chg hc12 (Dj.of L0_0 G1)
     replace F41 := F41.chg hc12 (Dj.of L0_1 G1)
     replace F42 := F42.chg hc12 (Dj.of L0_2 G1)
     replace F43 := F43.chg hc12 (dj1 (Dj.of L0 G1))
     replace F44 := F44.chg hc12 (Dj.of L1 G1)
     replace hB := hB.inS hc12 (inLow G1)
     clear F45
     rewrite [show l5.length = (l5.set (Int.toNat x20) (wr (x3 + 1))).length from (List.length_set ..).symm]
     refine wN <| cP [(0, pt b0), (1, .slice A1 l1.length cap1), (5, .slice (ad b1) (l5.set (Int.toNat x20) (wr (x3 + 1))).length (Int.toNat ((l0_0.length : Int)))), (6, ii x6), (7, ii x3), (8, ii x7)] (fun a8 => ?_)
     refine cW_region <| wP 3 [(6, ii (wr (x6 + 1))), (105, ii (wr (x6 + 1))), (104, ii x6)] <| wE <| eX_block <| eX_then <| cW_region <| wP 3 [(8, ii (wr (x7 + 1))), (38, ii (wr (x7 + 1))), (37, ii x7)] <| wE ?_
     obtain rfl := someE (x := (Ctl.next ((wr (x6 + 1), wr (x7 + 1), l5.set (Int.toNat x20) (wr (x3 + 1)))))) hm
     exact eX_next hx3 (fun hst => ⟨wr (x6 + 1), wr (x7 + 1), l5.set (Int.toNat x20) (wr (x3 + 1)), rfl, fO hst, F40, F41, F42, F43, F44, F46, hB⟩)
    have hm := condF hb3 hm
    refine cW_exit <| eX_then_exit ?_
    obtain rfl := someE (x := (Ctl.out (Sum.inl ((x6, l5))))) hm
    refine eX_outX hx3 (fun hr9 => ?_)
    replace hr9 := hr9.symm
    subst hr9
    refine eX_block_hit ?_
    exact eX_J (fun hst => ⟨x6, l5, rfl, fO hst, F10, F11, F12, F13, F14, F15, hB⟩)
   rintro a' w13 ⟨x5, l4, hJ, hF7, F47, F48, F49, F50, F51, F52, hB⟩
   subst hJ
   refine gX hF7 <| eX_block <| eX_then <| cW_region <| wP 3 [(7, ii (wr (x3 + 1))), (23, ii (wr (x3 + 1))), (22, ii x3)] <| wE ?_
   obtain rfl := someE (x := (Ctl.next ((x5, wr (x3 + 1), l4)))) hm
   exact eX_next hx1 (fun hst => ⟨x5, wr (x3 + 1), l4, rfl, fO hst, F47, F48, F49, F50, F51, F52, hB⟩)
  have hm := condF hb1 hm
  refine cW_exit <| eX_then_exit ?_
  obtain rfl := someE (x := (Ctl.out (Sum.inl ((x2, l3))))) hm
  refine eX_outX hx1 (fun hr10 => ?_)
  replace hr10 := hr10.symm
  subst hr10
  refine eX_block_hit ?_
  exact eX_J (fun hst => ⟨x2, l3, rfl, fO hst, F3, F4, F5, F6, F8, hB⟩)
 rintro a' w14 ⟨x1, l2, hJ, hF8, F53, F54, F55, F56, F57, hB⟩
 subst hJ
 refine gX hF8 <| eX_then <| cW_seq <| sR <| wP 1 [(10, ii 0)] <| wN ?_
 obtain ⟨r5, hr11, hm⟩ := bindE hm
 have hm5 := hm
 refine cW_cut (fun a' w' => Sum.inl (()) = r5 ∧ Fr 175 [(0, pt b0), (6, ii x1)] a' ∧ S1 w' fp0_0 A0_0 l0_0 ∧ SlR 1 encB w' fp0_1 A0_1 l0_1 ∧ SlR 1 encB w' fp0_2 A0_2 l0_2 ∧ Cl w' b0 94 [.slice A0_0 l0_0.length cap0_0, .slice A0_1 l0_1.length cap0_1, .slice A0_2 l0_2.length cap0_2] ∧ Chg [] w0 w') ?_ ?_
 ·refine cW_block ?_
  refine cW_loop _ (fun (s5 : Int) a' w' => ∃ x27 : Int, x27 = s5 ∧ Fr 175 [(0, pt b0), (5, .slice (ad b1) l2.length (Int.toNat ((l0_0.length : Int)))), (6, ii x1), (10, ii x27)] a' ∧ S1 w' fp0_0 A0_0 l0_0 ∧ SlR 1 encB w' fp0_1 A0_1 l0_1 ∧ SlR 1 encB w' fp0_2 A0_2 l0_2 ∧ Cl w' b0 94 [.slice A0_0 l0_0.length cap0_0, .slice A0_1 l0_1.length cap0_1, .slice A0_2 l0_2.length cap0_2] ∧ O1 3 w' [b1] (ad b1) (Int.toNat ((l0_0.length : Int))) l2 ∧ Chg [] w0 w') hr11 (fun hst => ⟨0, rfl, fO hst, F53, F54, F55, F56, F57, hB⟩) ?_
  rintro _ c5 a' w15 ⟨x27, rfl, hF9, F58, F59, F60, F61, F62, hB⟩ hx21
  refine gO hF9 ?_
  have hm := hx21
  unfold m_sL03Tr_s25 at hm
  refine cW_seq <| sR <| wP 4 [(109, pt b0), (108, pt b0), (107, pt b0), (106, ii x27)] <| sL 110 ⟨b0, 0, none⟩ (.slice A0_0 l0_0.length cap0_0) vt24 ((F61).cell 0) <| wP 2 [(112, .bool (decide (x27 < ((l0_0.length : Int))))), (111, ii (l0_0.length : Int))] <| wN <| cC (decide (x27 < ((l0_0.length : Int)))) (fun hb14 => ?_) (fun hb14 => ?_)
  ·have hm := condT hb14 hm
   refine cW_skip <| eX_then <| cW_seq <| cW_block <| sR <| wP 1 [(11, ii 0)] <| wN ?_
   obtain ⟨r6, hr12, hm⟩ := bindE hm
   have hm6 := hm
   refine cW_cut (fun a' w' => Sum.inl (()) = r6 ∧ Fr 175 [(0, pt b0), (5, .slice (ad b1) l2.length (Int.toNat ((l0_0.length : Int)))), (6, ii x1), (10, ii x27)] a' ∧ S1 w' fp0_0 A0_0 l0_0 ∧ SlR 1 encB w' fp0_1 A0_1 l0_1 ∧ SlR 1 encB w' fp0_2 A0_2 l0_2 ∧ Cl w' b0 94 [.slice A0_0 l0_0.length cap0_0, .slice A0_1 l0_1.length cap0_1, .slice A0_2 l0_2.length cap0_2] ∧ O1 3 w' [b1] (ad b1) (Int.toNat ((l0_0.length : Int))) l2 ∧ Chg [] w0 w') ?_ ?_
   ·refine cW_block ?_
    refine cW_loop _ (fun (s6 : Int) a' w' => ∃ x28 : Int, x28 = s6 ∧ Fr 175 [(0, pt b0), (5, .slice (ad b1) l2.length (Int.toNat ((l0_0.length : Int)))), (6, ii x1), (10, ii x27), (11, ii x28)] a' ∧ S1 w' fp0_0 A0_0 l0_0 ∧ SlR 1 encB w' fp0_1 A0_1 l0_1 ∧ SlR 1 encB w' fp0_2 A0_2 l0_2 ∧ Cl w' b0 94 [.slice A0_0 l0_0.length cap0_0, .slice A0_1 l0_1.length cap0_1, .slice A0_2 l0_2.length cap0_2] ∧ O1 3 w' [b1] (ad b1) (Int.toNat ((l0_0.length : Int))) l2 ∧ Chg [] w0 w') hr12 (fun hst => ⟨0, rfl, fO hst, F58, F59, F60, F61, F62, hB⟩) ?_
    rintro _ c6 a' w16 ⟨x28, rfl, hF10, F63, F64, F65, F66, F67, hB⟩ hx22
    refine gO hF10 ?_
    have hm := hx22
    unfold m_sL03Tr_s26 at hm
    refine cW_seq <| sR <| wP 4 [(118, pt b0), (117, pt b0), (116, pt b0), (115, ii x28)] <| sL 119 ⟨b0, 0, none⟩ (.slice A0_0 l0_0.length cap0_0) vt24 ((F66).cell 0) <| wP 2 [(121, .bool (decide (x28 < ((l0_0.length : Int))))), (120, ii (l0_0.length : Int))] <| wN <| cC (decide (x28 < ((l0_0.length : Int)))) (fun hb15 => ?_) (fun hb15 => ?_)
    ·have hm := condT hb15 hm
     refine cW_skip <| eX_then <| cW_seq <| cW_block <| cW_seq <| cW_drawnTail [] 41 (by kernel_rfl) (by kernel_rfl) (fun w17 hc13 => ?_)
     replace F63 := F63.c hc13
     replace F64 := F64.c hc13
     replace F65 := F65.c hc13
     replace F66 := F66.c hc13
     replace F67 := F67.c hc13
     replace hB := hB.q hc13
     have hS := Chg.refl [] w17
     have Z20 := F63
     have Z21 := F64
     have Z22 := F65
     have Z23 := F66
     have Z24 := F67
     refine hT [0, 1, 2] [(126, .pointer (some ⟨b0, 1, none⟩)), (125, pt b0), (124, pt b0)] <| hL 3 127 ⟨b0, 1, none⟩ (.slice A0_1 l0_1.length cap0_1) vt92 (fun W hW => (Z23.c hW).cell 1) ?_
     refine hT [4] [(128, ii x27)] ?_
     obtain ⟨x29, hx23, hm⟩ := bindE hm
     refine hI 5 129 A0_1 l0_1.length cap0_1 .i64 x27 sl92 (F64.is hx23) ?_
     obtain ⟨A8, cap8, hc14, F68, K7⟩ := SlR.row Z21 hx23
     refine hL 6 130 (elA A0_1 1 (x27) 0) (.slice A8 x29.length cap8) vt120 (fun W hW => hW.keep hc14) ?_
     refine hT [7] [(131, ii x28)] ?_
     obtain ⟨x30, hx24, hm⟩ := bindE hm
     refine hI 8 132 A8 x29.length cap8 .i64 x28 sl120 (F68.is hx24) <| hL 9 133 (elA A8 1 (x28) 0) (.bool (x30)) vt4 (fun W hW => Sl.cell (F68.c hW) hx24 0 (by rfl)) ?_
     refine hT [10] [(134, .bool (x30))] <| wH_bool x30 (fun hb16 => ?_) (fun hb16 => ?_)
     ·have hm := condT hb16 hm
      subst hb16
      refine hT [11, 12] [(136, ii x27), (135, .slice (ad b1) l2.length (Int.toNat ((l0_0.length : Int))))] ?_
      obtain ⟨x31, hx25, hm⟩ := bindE hm
      refine hI 13 137 (ad b1) l2.length (Int.toNat ((l0_0.length : Int))) .i64 x27 sl56 ((F67.sl encI_ok).is hx25) <| hL 14 138 (elA (ad b1) 1 (x27) 0) (ii x31) vt3 (fun W hW => Sl.cell ((Z24.c hW).sl encI_ok) hx25 0 (by rfl)) ?_
      refine hT [15, 16] [(140, ii x28), (139, .slice (ad b1) l2.length (Int.toNat ((l0_0.length : Int))))] ?_
      obtain ⟨x32, hx26, hm⟩ := bindE hm
      refine hI 17 141 (ad b1) l2.length (Int.toNat ((l0_0.length : Int))) .i64 x28 sl56 ((F67.sl encI_ok).is hx26) <| hL 18 142 (elA (ad b1) 1 (x28) 0) (ii x32) vt3 (fun W hW => Sl.cell ((Z24.c hW).sl encI_ok) hx26 0 (by rfl)) ?_
      refine hT [19, 20, 21] [(145, .bool (x31 == x32)), (144, .bool (x31 == x32)), (143, .bool (x31 == x32))] <| wH_bool (x31 == x32) (fun hb17 => ?_) (fun hb17 => ?_)
      ·have hm := condT hb17 hm
       rewrite [hb17]
       refine hT [22, 23, 24, 25, 26, 27, 28, 29, 30, 31, 32, 33, 34, 35, 36, 37, 38, 39, 40] [(164, undef), (163, undef), (162, undef), (161, undef), (160, undef), (159, undef), (158, undef), (157, undef), (156, undef), (155, undef), (154, undef), (153, undef), (152, undef), (151, undef), (150, undef), (149, undef), (148, undef), (147, undef), (146, undef)] <| wD <| eX_tail <| wP 3 [(167, .bool (true)), (166, undef), (165, undef)] <| wN <| cP [(0, pt b0), (5, .slice (ad b1) l2.length (Int.toNat ((l0_0.length : Int)))), (6, ii x1), (10, ii x27), (11, ii x28), (167, .bool (true))] (fun a9 => ?_)
       refine cCt <| sR <| wP 1 [(4, .bool (false))] <| wN <| cW_ret <| eX_block_ret <| eX_then_ret ?_
       obtain rfl := someE (x := Ctl.out (Sum.inr false)) hm
       refine eX_outR hx22 (fun hr => ?_)
       subst hr
       refine eX_block_ret <| eX_then_ret <| eX_block_ret <| eX_then_ret ?_
       obtain rfl := someE (x := Ctl.out (Sum.inr false)) hm6
       refine eX_outR hx21 (fun hr => ?_)
       subst hr
       refine eX_block_ret <| eX_then_ret <| eX_then_ret ?_
       obtain rfl := someE (x := false) hm5
       refine rA (.bool (false)) 4 ?_
       exact ⟨rfl, hB⟩
      have hm := condF hb17 hm
      rewrite [hb17]
      refine hT [22, 23, 24] [(148, .pointer (some ⟨b0, 2, none⟩)), (147, pt b0), (146, pt b0)] <| hL 25 149 ⟨b0, 2, none⟩ (.slice A0_2 l0_2.length cap0_2) vt92 (fun W hW => (Z23.c hW).cell 2) ?_
      refine hT [26] [(150, ii x27)] ?_
      obtain ⟨x33, hx27, hm⟩ := bindE hm
      refine hI 27 151 A0_2 l0_2.length cap0_2 .i64 x27 sl92 (F65.is hx27) ?_
      obtain ⟨A9, cap9, hc15, F69, K8⟩ := SlR.row Z22 hx27
      refine hL 28 152 (elA A0_2 1 (x27) 0) (.slice A9 x33.length cap9) vt120 (fun W hW => hW.keep hc15) ?_
      refine hT [29] [(153, ii x28)] ?_
      obtain ⟨x34, hx28, hm⟩ := bindE hm
      refine hI 30 154 A9 x33.length cap9 .i64 x28 sl120 (F69.is hx28) <| hL 31 155 (elA A9 1 (x28) 0) (.bool (x34)) vt4 (fun W hW => Sl.cell (F69.c hW) hx28 0 (by rfl)) ?_
      refine hT [32] [(156, .bool (x34))] <| wH_bool x34 (fun hb18 => ?_) (fun hb18 => ?_)
      ·have hm := condT hb18 hm
       subst hb18
       refine hT [33, 34] [(158, ii x27), (157, .slice (ad b1) l2.length (Int.toNat ((l0_0.length : Int))))] ?_
       obtain ⟨x35, hx29, hm⟩ := bindE hm
       refine hI 35 159 (ad b1) l2.length (Int.toNat ((l0_0.length : Int))) .i64 x27 sl56 ((F67.sl encI_ok).is hx29) <| hL 36 160 (elA (ad b1) 1 (x27) 0) (ii x35) vt3 (fun W hW => Sl.cell ((Z24.c hW).sl encI_ok) hx29 0 (by rfl)) ?_
       refine hT [37, 38] [(162, ii x28), (161, .slice (ad b1) l2.length (Int.toNat ((l0_0.length : Int))))] ?_
       obtain ⟨x36, hx30, hm⟩ := bindE hm
       refine hI 39 163 (ad b1) l2.length (Int.toNat ((l0_0.length : Int))) .i64 x28 sl56 ((F67.sl encI_ok).is hx30) <| hL 40 164 (elA (ad b1) 1 (x28) 0) (ii x36) vt3 (fun W hW => Sl.cell ((Z24.c hW).sl encI_ok) hx30 0 (by rfl)) ?_
       refine wD <| eX_tail <| wP 3 [(167, .bool (decide (x35 ≥ x36))), (166, .bool (decide (x35 ≥ x36))), (165, .bool (decide (x35 ≥ x36)))] <| wN <| cP [(0, pt b0), (5, .slice (ad b1) l2.length (Int.toNat ((l0_0.length : Int)))), (6, ii x1), (10, ii x27), (11, ii x28), (167, .bool (decide (x35 ≥ x36)))] (fun a10 => ?_)
       refine cC (decide (x35 ≥ x36)) (fun hb19 => ?_) (fun hb19 => ?_)
       ·have hm := condT hb19 hm
        refine sR <| wP 1 [(4, .bool (false))] <| wN <| cW_ret <| eX_block_ret <| eX_then_ret ?_
        obtain rfl := someE (x := Ctl.out (Sum.inr false)) hm
        refine eX_outR hx22 (fun hr => ?_)
        subst hr
        refine eX_block_ret <| eX_then_ret <| eX_block_ret <| eX_then_ret ?_
        obtain rfl := someE (x := Ctl.out (Sum.inr false)) hm6
        refine eX_outR hx21 (fun hr => ?_)
        subst hr
        refine eX_block_ret <| eX_then_ret <| eX_then_ret ?_
        obtain rfl := someE (x := false) hm5
        refine rA (.bool (false)) 4 ?_
        exact ⟨rfl, hB⟩
       have hm := condF hb19 hm
       refine cW_skip <| eX_block <| eX_then <| cW_region <| wP 3 [(11, ii (wr (x28 + 1))), (123, ii (wr (x28 + 1))), (122, ii x28)] <| wE ?_
       obtain rfl := someE (x := Ctl.next (wr (x28 + 1))) hm
       exact eX_next hx22 (fun hst => ⟨wr (x28 + 1), rfl, fO hst, F63, F64, F65, F66, F67, hB⟩)
      have hm := condF hb18 hm
      subst hb18
      refine hT [33, 34, 35, 36, 37, 38, 39, 40] [(164, undef), (163, undef), (162, undef), (161, undef), (160, undef), (159, undef), (158, undef), (157, undef)] <| wD <| eX_tail <| wP 3 [(167, .bool (false)), (166, .bool (false)), (165, undef)] <| wN <| cP [(0, pt b0), (5, .slice (ad b1) l2.length (Int.toNat ((l0_0.length : Int)))), (6, ii x1), (10, ii x27), (11, ii x28), (167, .bool (false))] (fun a11 => ?_)
      refine cCf <| cW_skip <| eX_block <| eX_then <| cW_region <| wP 3 [(11, ii (wr (x28 + 1))), (123, ii (wr (x28 + 1))), (122, ii x28)] <| wE ?_
      obtain rfl := someE (x := Ctl.next (wr (x28 + 1))) hm
      exact eX_next hx22 (fun hst => ⟨wr (x28 + 1), rfl, fO hst, F63, F64, F65, F66, F67, hB⟩)
     have hm := condF hb16 hm
     subst hb16
     refine hT [11, 12, 13, 14, 15, 16, 17, 18, 19, 20, 21, 22, 23, 24] [(148, .pointer (some ⟨b0, 2, none⟩)), (147, pt b0), (146, pt b0), (145, .bool (false)), (144, .bool (false)), (143, undef), (142, undef), (141, undef), (140, undef), (139, undef), (138, undef), (137, undef), (136, undef), (135, undef)] <| hL 25 149 ⟨b0, 2, none⟩ (.slice A0_2 l0_2.length cap0_2) vt92 (fun W hW => (Z23.c hW).cell 2) ?_
     refine hT [26] [(150, ii x27)] ?_
     obtain ⟨x37, hx31, hm⟩ := bindE hm
     refine hI 27 151 A0_2 l0_2.length cap0_2 .i64 x27 sl92 (F65.is hx31) ?_
     obtain ⟨A10, cap10, hc16, F70, K9⟩ := SlR.row Z22 hx31
     refine hL 28 152 (elA A0_2 1 (x27) 0) (.slice A10 x37.length cap10) vt120 (fun W hW => hW.keep hc16) ?_
     refine hT [29] [(153, ii x28)] ?_
     obtain ⟨x38, hx32, hm⟩ := bindE hm
     refine hI 30 154 A10 x37.length cap10 .i64 x28 sl120 (F70.is hx32) <| hL 31 155 (elA A10 1 (x28) 0) (.bool (x38)) vt4 (fun W hW => Sl.cell (F70.c hW) hx32 0 (by rfl)) ?_
     refine hT [32] [(156, .bool (x38))] <| wH_bool x38 (fun hb20 => ?_) (fun hb20 => ?_)
     ·have hm := condT hb20 hm
      subst hb20
      refine hT [33, 34] [(158, ii x27), (157, .slice (ad b1) l2.length (Int.toNat ((l0_0.length : Int))))] ?_
      obtain ⟨x39, hx33, hm⟩ := bindE hm
      refine hI 35 159 (ad b1) l2.length (Int.toNat ((l0_0.length : Int))) .i64 x27 sl56 ((F67.sl encI_ok).is hx33) <| hL 36 160 (elA (ad b1) 1 (x27) 0) (ii x39) vt3 (fun W hW => Sl.cell ((Z24.c hW).sl encI_ok) hx33 0 (by rfl)) ?_
      refine hT [37, 38] [(162, ii x28), (161, .slice (ad b1) l2.length (Int.toNat ((l0_0.length : Int))))] ?_
      obtain ⟨x40, hx34, hm⟩ := bindE hm
      refine hI 39 163 (ad b1) l2.length (Int.toNat ((l0_0.length : Int))) .i64 x28 sl56 ((F67.sl encI_ok).is hx34) <| hL 40 164 (elA (ad b1) 1 (x28) 0) (ii x40) vt3 (fun W hW => Sl.cell ((Z24.c hW).sl encI_ok) hx34 0 (by rfl)) ?_
      refine wD <| eX_tail <| wP 3 [(167, .bool (decide (x39 ≥ x40))), (166, .bool (decide (x39 ≥ x40))), (165, .bool (decide (x39 ≥ x40)))] <| wN <| cP [(0, pt b0), (5, .slice (ad b1) l2.length (Int.toNat ((l0_0.length : Int)))), (6, ii x1), (10, ii x27), (11, ii x28), (167, .bool (decide (x39 ≥ x40)))] (fun a12 => ?_)
      refine cC (decide (x39 ≥ x40)) (fun hb21 => ?_) (fun hb21 => ?_)
      ·have hm := condT hb21 hm
       refine sR <| wP 1 [(4, .bool (false))] <| wN <| cW_ret <| eX_block_ret <| eX_then_ret ?_
       obtain rfl := someE (x := Ctl.out (Sum.inr false)) hm
       refine eX_outR hx22 (fun hr => ?_)
       subst hr
       refine eX_block_ret <| eX_then_ret <| eX_block_ret <| eX_then_ret ?_
       obtain rfl := someE (x := Ctl.out (Sum.inr false)) hm6
       refine eX_outR hx21 (fun hr => ?_)
       subst hr
       refine eX_block_ret <| eX_then_ret <| eX_then_ret ?_
       obtain rfl := someE (x := false) hm5
       refine rA (.bool (false)) 4 ?_
       exact ⟨rfl, hB⟩
      have hm := condF hb21 hm
      refine cW_skip <| eX_block <| eX_then <| cW_region <| wP 3 [(11, ii (wr (x28 + 1))), (123, ii (wr (x28 + 1))), (122, ii x28)] <| wE ?_
      obtain rfl := someE (x := Ctl.next (wr (x28 + 1))) hm
      exact eX_next hx22 (fun hst => ⟨wr (x28 + 1), rfl, fO hst, F63, F64, F65, F66, F67, hB⟩)
     have hm := condF hb20 hm
     subst hb20
     refine hT [33, 34, 35, 36, 37, 38, 39, 40] [(164, undef), (163, undef), (162, undef), (161, undef), (160, undef), (159, undef), (158, undef), (157, undef)] <| wD <| eX_tail <| wP 3 [(167, .bool (false)), (166, .bool (false)), (165, undef)] <| wN <| cP [(0, pt b0), (5, .slice (ad b1) l2.length (Int.toNat ((l0_0.length : Int)))), (6, ii x1), (10, ii x27), (11, ii x28), (167, .bool (false))] (fun a13 => ?_)
     refine cCf <| cW_skip <| eX_block <| eX_then <| cW_region <| wP 3 [(11, ii (wr (x28 + 1))), (123, ii (wr (x28 + 1))), (122, ii x28)] <| wE ?_
     obtain rfl := someE (x := Ctl.next (wr (x28 + 1))) hm
     exact eX_next hx22 (fun hst => ⟨wr (x28 + 1), rfl, fO hst, F63, F64, F65, F66, F67, hB⟩)
    have hm := condF hb15 hm
    refine cW_exit <| eX_then_exit ?_
    obtain rfl := someE (x := Ctl.out (Sum.inl (()))) hm
    refine eX_outX hx22 (fun hr13 => ?_)
    replace hr13 := hr13.symm
    subst hr13
    refine eX_block_hit ?_
    exact eX_J (fun hst => ⟨rfl, fO hst, F63, F64, F65, F66, F67, hB⟩)
   rintro a' w18 ⟨hJ, hF11, F71, F72, F73, F74, F75, hB⟩
   subst hJ
   refine gX hF11 <| eX_block <| eX_then <| cW_region <| wP 3 [(10, ii (wr (x27 + 1))), (114, ii (wr (x27 + 1))), (113, ii x27)] <| wE ?_
   obtain rfl := someE (x := Ctl.next (wr (x27 + 1))) hm
   exact eX_next hx21 (fun hst => ⟨wr (x27 + 1), rfl, fO hst, F71, F72, F73, F74, F75, hB⟩)
  have hm := condF hb14 hm
  refine cW_exit <| eX_then_exit ?_
  obtain rfl := someE (x := Ctl.out (Sum.inl (()))) hm
  refine eX_outX hx21 (fun hr14 => ?_)
  replace hr14 := hr14.symm
  subst hr14
  refine eX_block_hit ?_
  exact eX_J (fun hst => ⟨rfl, fO hst, F58, F59, F60, F61, hB⟩)
 rintro a' w19 ⟨hJ, hF12, F76, F77, F78, F79, hB⟩
 subst hJ
 refine gX hF12 <| eX_then <| sR <| wP 4 [(171, pt b0), (170, pt b0), (169, pt b0), (168, ii x1)] <| sL 172 ⟨b0, 0, none⟩ (.slice A0_0 l0_0.length cap0_0) vt24 ((F79).cell 0) <| wP 3 [(4, .bool (x1 == ((l0_0.length : Int)))), (174, .bool (x1 == ((l0_0.length : Int)))), (173, ii (l0_0.length : Int))] <| wN <| cW_ret ?_
 obtain rfl := someE (x := (x1 == ((l0_0.length : Int)))) hm
 refine rA (.bool (x1 == ((l0_0.length : Int)))) 4 ?_
 exact ⟨rfl, hB⟩

set_option maxRecDepth 100000 in
theorem c_sIsRou {w0 l0_0 A0_0 cap0_0 fp0_0 l0_1 A0_1 cap0_1 fp0_1} {l1 : List (List Int)} {A1 : Option Addr} {cap1 : Nat} {fp1 : List Nat} {r : Bool} (hm : m_sIsRou l0_0 l0_1 l1 = some r) (F0_0 : S1 w0 fp0_0 A0_0 l0_0) (F0_1 : S1 w0 fp0_1 A0_1 l0_1) (F1 : SlR 1 encI w0 fp1 A1 l1) :
  Calls Tryd.prog 19 #[.agg #[.slice A0_0 l0_0.length cap0_0, .slice A0_1 l0_1.length cap0_1], .slice A1 l1.length cap1] w0 fun e w' => e = .returned (.bool (r)) ∧ Chg [] w0 w' := by
 have L0_0 := F0_0.low
 have L0_1 := F0_1.low
 have L1 := F1.low
 have hB : Chg [] w0 w0 := Chg.refl _ _
 unfold m_sIsRou at hm
 refine enterE (N := 11) Tryd.func19 (by rfl) Tryd.ntmps19 (by simp) [(0, .agg #[.slice A0_0 l0_0.length cap0_0, .slice A0_1 l0_1.length cap0_1]), (1, .slice A1 l1.length cap1)] (by rfl) (by kernel_rfl) (fun a => ?_)
 refine sR <| wS_box (d := 2) (T := 26) (x := .agg #[.slice A0_0 l0_0.length cap0_0, .slice A0_1 l0_1.length cap0_1]) (by kernel_rfl) ?_
 intro b1 w1 G1 F2 hc1
 replace F2 : Cl w1 b1 26 [.slice A0_0 l0_0.length cap0_0, .slice A0_1 l0_1.length cap0_1] := F2
 replace F0_0 := F0_0.c hc1
 replace F0_1 := F0_1.c hc1
 replace F1 := F1.c hc1
 replace G1 := Nat.le_trans hB.size G1
 replace hB := hB.q hc1
 refine wP 1 [(4, .bool (false))] <| wN <| sR ?_
 obtain ⟨y1, hy1, hm⟩ := bindE hm
 refine sC 5 [pt b1] ent60 (c_sL03Is hy1 F0_0 F0_1 F2) ?_
 rintro _ w2 ⟨rfl, hc2⟩
 replace F0_0 := F0_0.c hc2
 replace F0_1 := F0_1.c hc2
 replace F1 := F1.c hc2
 replace F2 := F2.c hc2
 replace hB := hB.q hc2
 refine ⟨.bool (y1), rfl, ?_⟩
 refine wP 1 [(6, .bool (y1))] <| wS_bool y1 (fun hb1 => ?_) (fun hb1 => ?_)
 ·have hm := condT hb1 hm
  rewrite [hb1]
  obtain ⟨y2, hy2, hm⟩ := bindE hm
  refine sC 7 [pt b1] ent62 (c_sL03Of hy2 F0_0 F0_1 F2) ?_
  rintro _ w3 ⟨b2, A2, cap2, fp2, A3, cap3, fp3, fr1, A4, cap4, fp4, fr2, rfl, F3, G2, F4, G3, F5, G4, F6, G5, D1, D2, D3, D4, D5, D6, hc3⟩
  have D7 := Dj.of (lt1 F2.lt) (low1 G2)
  have D8 := Dj.of (lt1 F2.lt) G3
  have D9 := Dj.of (lt1 F2.lt) G4
  have D10 := Dj.of (lt1 F2.lt) G5
  replace F0_0 := F0_0.c hc3
  replace F0_1 := F0_1.c hc3
  replace F1 := F1.c hc3
  replace F2 := F2.c hc3
  replace G2 := Nat.le_trans hB.size G2
  replace G3 := low_le hB.size G3
  replace G4 := low_le hB.size G4
  replace G5 := low_le hB.size G5
  replace hB := hB.q hc3
  refine ⟨pt b2, rfl, ?_⟩
  refine wP 1 [(8, .slice A1 l1.length cap1)] ?_
  obtain ⟨y3, hy3, hm⟩ := bindE hm
  refine sC 9 [pt b2, .slice A1 l1.length cap1] ent61 (c_sL03Tr hy3 (F4.sl encI_ok) (F5.slr encB_ok) (F6.slr encB_ok) F3 F1) ?_
  rintro _ w4 ⟨rfl, hc4⟩
  replace F0_0 := F0_0.c hc4
  replace F0_1 := F0_1.c hc4
  replace F1 := F1.c hc4
  replace F2 := F2.c hc4
  replace F3 := F3.c hc4
  replace F4 := F4.c hc4
  replace F5 := F5.c hc4
  replace F6 := F6.c hc4
  replace hB := hB.q hc4
  refine ⟨.bool (y3), rfl, ?_⟩
  refine wP 2 [(4, .bool (y3)), (10, .bool (y3))] <| wN <| cW_ret ?_
  obtain rfl := someE (x := y3) hm
  refine rA (.bool (y3)) 4 ?_
  exact ⟨rfl, hB⟩
 have hm := condF hb1 hm
 rewrite [hb1]
 refine wP 5 [(4, .bool (false)), (10, .bool (false)), (9, undef), (8, undef), (7, undef)] <| wN <| cW_ret ?_
 obtain rfl := someE (x := false) hm
 refine rA (.bool (false)) 4 ?_
 exact ⟨rfl, hB⟩

set_option maxRecDepth 100000 in
theorem c_lFnCha {w0 l0 A0 cap0 fp0 l1 A1 cap1 fp1} {r : Bool} (hm : m_lFnCha l0 l1 = some r) (F0 : Sl 1 encU w0 fp0 A0 l0) (F1 : Sl 1 encU w0 fp1 A1 l1) (FG : Sl 1 encU w0 [1] (ad 1) tab64) :
  Calls Tryd.prog 3 #[.slice A0 l0.length cap0, .slice A1 l1.length cap1] w0 fun e w' => e = .returned (.bool (r)) ∧ Chg [] w0 w' := by
 have L0 := F0.low
 have L1 := F1.low
 have Lg := FG.low
 have hB : Chg [] w0 w0 := Chg.refl _ _
 unfold m_lFnCha at hm
 refine enterE (N := 182) Tryd.func3 (by rfl) Tryd.ntmps3 (by simp) [(0, .slice A0 l0.length cap0), (1, .slice A1 l1.length cap1)] (by rfl) (by kernel_rfl) (fun a => ?_)
 refine sR <| wP 1 [(4, .bool (false))] <| wN <| cW_seq <| sR <| wP 2 [(25, .slice A1 l1.length cap1), (24, .slice A0 l0.length cap0)] ?_
 obtain ⟨y1, hy1, hm⟩ := bindE hm
 refine sC 26 [.slice A0 l0.length cap0, .slice A1 l1.length cap1] ent7 (c_laws_b10Long hy1 F0 F1) ?_
 rintro _ w1 ⟨rfl, hc1⟩
 replace F0 := F0.c hc1
 replace F1 := F1.c hc1
 replace FG := FG.c hc1
 replace hB := hB.q hc1
 refine ⟨.bool (y1), rfl, ?_⟩
 refine wN <| cC y1 (fun hb1 => ?_) (fun hb1 => ?_)
 ·have hm := condT hb1 hm
  refine sR <| wP 1 [(4, .bool (true))] <| wN <| cW_ret <| eX_then_ret ?_
  obtain rfl := someE (x := true) hm
  refine rA (.bool (true)) 4 ?_
  exact ⟨rfl, hB⟩
 have hm := condF hb1 hm
 refine cW_skip <| eX_then <| sR <| wP 1 [(27, .slice A0 l0.length cap0)] ?_
 obtain ⟨y2, hy2, hm⟩ := bindE hm
 refine sC 28 [.slice A0 l0.length cap0] ent8 (c_sB10Ch hy2 F0) ?_
 rintro _ w2 ⟨A2, cap2, fp2, A3, cap3, fp3, rfl, F2, G1, F3, G2, D1, hc2⟩
 replace F0 := F0.c hc2
 replace F1 := F1.c hc2
 replace FG := FG.c hc2
 replace G1 := low_le hB.size G1
 replace G2 := low_le hB.size G2
 replace hB := hB.q hc2
 refine ⟨.agg #[.slice A2 y2.1.length cap2, .slice A3 y2.2.length cap3], rfl, ?_⟩
 refine wS_alloc (d := 5) (T := 26) (z := .agg #[.slice none 0 0, .slice none 0 0]) (by kernel_rfl) (by kernel_rfl) ?_
 intro b1 w3 G3 F4 hc3
 replace F4 : Cl w3 b1 26 [.slice none 0 0, .slice none 0 0] := F4
 have D2 := Dj.of F2.low (low1 G3)
 have D3 := Dj.of F3.low (low1 G3)
 replace F0 := F0.c hc3
 replace F1 := F1.c hc3
 replace FG := FG.c hc3
 replace F2 := F2.c hc3
 replace F3 := F3.c hc3
 replace G3 := Nat.le_trans hB.size G3
 replace hB := hB.q hc3
 refine wS_store (T := 26) (g := b1) (o := 0) (ad := ⟨b1, 0, none⟩) (v := .agg #[.slice A2 y2.1.length cap2, .slice A3 y2.2.length cap3]) (vs := [.slice A2 y2.1.length cap2, .slice A3 y2.2.length cap3]) (by kernel_rfl) (by rfl) sz26 (by rfl) (by rfl) F4 (bl rfl) ?_
 intro w4 F5 hc4
 replace F0 := F0.chg hc4 (Dj.of L0 (low1 G3))
 replace F1 := F1.chg hc4 (Dj.of L1 (low1 G3))
 replace FG := FG.chg hc4 (Dj.of Lg (low1 G3))
 replace F2 := F2.chg hc4 D2
 replace F3 := F3.chg hc4 D3
 replace hB := hB.inS hc4 (inLow (low1 G3))
 replace F5 : Cl w4 b1 26 [.slice A2 y2.1.length cap2, .slice A3 y2.2.length cap3] := F5
 clear F4
 refine wN <| sR <| wS_loadA (d := 30) (T := 26) (ad := ⟨b1, 0, none⟩) (vs := [.slice A2 y2.1.length cap2, .slice A3 y2.2.length cap3]) (by kernel_rfl) vt26 (fun i u hu => box_cells F5 0 hu (by rfl)) ?_
 obtain ⟨y3, hy3, hm⟩ := bindE hm
 refine sC 31 [.agg #[.slice A2 y2.1.length cap2, .slice A3 y2.2.length cap3]] ent9 (c_iFewes hy3 (F2.sl encI_ok) F2.cap_le (F3.sl encI_ok) F3.cap_le FG) ?_
 rintro _ w5 ⟨A4, cap4, fp4, fr1, rfl, F6, G4, hc5⟩
 have D4 := Dj.of F2.low G4
 have D5 := Dj.of F3.low G4
 have D6 := Dj.of (lt1 F5.lt) G4
 replace F0 := F0.c hc5
 replace F1 := F1.c hc5
 replace FG := FG.c hc5
 replace F2 := F2.c hc5
 replace F3 := F3.c hc5
 replace F5 := F5.c hc5
 replace G4 := low_le hB.size G4
 replace hB := hB.q hc5
 refine ⟨.tuple #[.slice A4 y3.1.length cap4, .bool (y3.2)], rfl, ?_⟩
 refine wP 5 [(7, .bool (y3.2)), (6, .slice A4 y3.1.length cap4), (33, .bool (y3.2)), (32, .slice A4 y3.1.length cap4), (29, .tuple #[.slice A4 y3.1.length cap4, .bool (y3.2)])] <| wN <| sR <| wS_loadA (d := 35) (T := 26) (ad := ⟨b1, 0, none⟩) (vs := [.slice A2 y2.1.length cap2, .slice A3 y2.2.length cap3]) (by kernel_rfl) vt26 (fun i u hu => box_cells F5 0 hu (by rfl)) ?_
 obtain ⟨y4, hy4, hm⟩ := bindE hm
 refine sC 36 [.agg #[.slice A2 y2.1.length cap2, .slice A3 y2.2.length cap3]] ent10 (c_impl_CycleOf hy4 (F2.sl encI_ok) F2.cap_le (F3.sl encI_ok) F3.cap_le) ?_
 rintro _ w6 ⟨A5, cap5, fp5, rfl, F7, G5, hc6⟩
 have D7 := Dj.of F2.low G5
 have D8 := Dj.of F3.low G5
 have D9 := Dj.of (lt1 F5.lt) G5
 have D10 := Dj.of F6.low G5
 replace F0 := F0.c hc6
 replace F1 := F1.c hc6
 replace FG := FG.c hc6
 replace F2 := F2.c hc6
 replace F3 := F3.c hc6
 replace F5 := F5.c hc6
 replace F6 := F6.c hc6
 replace G5 := low_le hB.size G5
 replace hB := hB.q hc6
 refine ⟨.tuple #[.slice A5 y4.1.length cap5, .bool (y4.2)], rfl, ?_⟩
 refine wP 5 [(9, .bool (y4.2)), (8, .slice A5 y4.1.length cap5), (38, .bool (y4.2)), (37, .slice A5 y4.1.length cap5), (34, .tuple #[.slice A5 y4.1.length cap5, .bool (y4.2)])] <| wN <| sR <| wS_loadA (d := 40) (T := 26) (ad := ⟨b1, 0, none⟩) (vs := [.slice A2 y2.1.length cap2, .slice A3 y2.2.length cap3]) (by kernel_rfl) vt26 (fun i u hu => box_cells F5 0 hu (by rfl)) ?_
 obtain ⟨y5, hy5, hm⟩ := bindE hm
 refine sC 41 [.agg #[.slice A2 y2.1.length cap2, .slice A3 y2.2.length cap3]] ent11 (c_iDensi hy5 (F2.sl encI_ok) F2.cap_le (F3.sl encI_ok) F3.cap_le) ?_
 rintro _ w7 ⟨rfl, hc7⟩
 replace F0 := F0.c hc7
 replace F1 := F1.c hc7
 replace FG := FG.c hc7
 replace F2 := F2.c hc7
 replace F3 := F3.c hc7
 replace F5 := F5.c hc7
 replace F6 := F6.c hc7
 replace F7 := F7.c hc7
 replace hB := hB.q hc7
 refine ⟨.tuple #[ii y5.1, .bool (y5.2)], rfl, ?_⟩
 refine wP 5 [(11, .bool (y5.2)), (10, ii y5.1), (43, .bool (y5.2)), (42, ii y5.1), (39, .tuple #[ii y5.1, .bool (y5.2)])] <| wN <| cP [(1, .slice A1 l1.length cap1), (5, pt b1), (6, .slice A4 y3.1.length cap4), (7, .bool (y3.2)), (8, .slice A5 y4.1.length cap5), (9, .bool (y4.2)), (10, ii y5.1), (11, .bool (y5.2))] (fun a1 => ?_)
 refine sR <| wS_loadA (d := 45) (T := 26) (ad := ⟨b1, 0, none⟩) (vs := [.slice A2 y2.1.length cap2, .slice A3 y2.2.length cap3]) (by kernel_rfl) vt26 (fun i u hu => box_cells F5 0 hu (by rfl)) ?_
 obtain ⟨y6, hy6, hm⟩ := bindE hm
 refine sC 46 [.agg #[.slice A2 y2.1.length cap2, .slice A3 y2.2.length cap3]] ent12 (c_iLonge hy6 (F2.sl encI_ok) F2.cap_le (F3.sl encI_ok) F3.cap_le) ?_
 rintro _ w8 ⟨rfl, hc8⟩
 replace F0 := F0.c hc8
 replace F1 := F1.c hc8
 replace FG := FG.c hc8
 replace F2 := F2.c hc8
 replace F3 := F3.c hc8
 replace F5 := F5.c hc8
 replace F6 := F6.c hc8
 replace F7 := F7.c hc8
 replace hB := hB.q hc8
 refine ⟨.tuple #[ii y6.1, .bool (y6.2)], rfl, ?_⟩
 refine wP 5 [(13, .bool (y6.2)), (12, ii y6.1), (48, .bool (y6.2)), (47, ii y6.1), (44, .tuple #[ii y6.1, .bool (y6.2)])] <| wN <| sR <| wS_loadA (d := 50) (T := 26) (ad := ⟨b1, 0, none⟩) (vs := [.slice A2 y2.1.length cap2, .slice A3 y2.2.length cap3]) (by kernel_rfl) vt26 (fun i u hu => box_cells F5 0 hu (by rfl)) ?_
 obtain ⟨y7, hy7, hm⟩ := bindE hm
 refine sC 51 [.agg #[.slice A2 y2.1.length cap2, .slice A3 y2.2.length cap3]] ent13 (c_iLeftE hy7 (F2.sl encI_ok) F2.cap_le (F3.sl encI_ok) F3.cap_le) ?_
 rintro _ w9 ⟨A6, cap6, fp6, fr2, rfl, F8, G6, hc9⟩
 have D11 := Dj.of F2.low G6
 have D12 := Dj.of F3.low G6
 have D13 := Dj.of (lt1 F5.lt) G6
 have D14 := Dj.of F6.low G6
 have D15 := Dj.of F7.low G6
 replace F0 := F0.c hc9
 replace F1 := F1.c hc9
 replace FG := FG.c hc9
 replace F2 := F2.c hc9
 replace F3 := F3.c hc9
 replace F5 := F5.c hc9
 replace F6 := F6.c hc9
 replace F7 := F7.c hc9
 replace G6 := low_le hB.size G6
 replace hB := hB.q hc9
 refine ⟨.tuple #[.slice A6 y7.1.length cap6, .bool (y7.2)], rfl, ?_⟩
 refine wP 5 [(15, .bool (y7.2)), (14, .slice A6 y7.1.length cap6), (53, .bool (y7.2)), (52, .slice A6 y7.1.length cap6), (49, .tuple #[.slice A6 y7.1.length cap6, .bool (y7.2)])] <| wN <| sR <| wS_loadA (d := 55) (T := 26) (ad := ⟨b1, 0, none⟩) (vs := [.slice A2 y2.1.length cap2, .slice A3 y2.2.length cap3]) (by kernel_rfl) vt26 (fun i u hu => box_cells F5 0 hu (by rfl)) ?_
 obtain ⟨y8, hy8, hm⟩ := bindE hm
 refine sC 56 [.agg #[.slice A2 y2.1.length cap2, .slice A3 y2.2.length cap3]] ent14 (c_impl_NetsOf hy8 (F2.sl encI_ok) F2.cap_le (F3.sl encI_ok) F3.cap_le) ?_
 rintro _ w10 ⟨A7, cap7, fp7, rfl, F9, G7, hc10⟩
 have D16 := Dj.of F2.low G7
 have D17 := Dj.of F3.low G7
 have D18 := Dj.of (lt1 F5.lt) G7
 have D19 := Dj.of F6.low G7
 have D20 := Dj.of F7.low G7
 have D21 := Dj.of F8.low G7
 replace F0 := F0.c hc10
 replace F1 := F1.c hc10
 replace FG := FG.c hc10
 replace F2 := F2.c hc10
 replace F3 := F3.c hc10
 replace F5 := F5.c hc10
 replace F6 := F6.c hc10
 replace F7 := F7.c hc10
 replace F8 := F8.c hc10
 replace G7 := low_le hB.size G7
 replace hB := hB.q hc10
 refine ⟨.tuple #[.slice A7 y8.1.length cap7, .bool (y8.2)], rfl, ?_⟩
 refine wP 5 [(17, .bool (y8.2)), (16, .slice A7 y8.1.length cap7), (58, .bool (y8.2)), (57, .slice A7 y8.1.length cap7), (54, .tuple #[.slice A7 y8.1.length cap7, .bool (y8.2)])] <| wN <| cP [(1, .slice A1 l1.length cap1), (5, pt b1), (6, .slice A4 y3.1.length cap4), (7, .bool (y3.2)), (8, .slice A5 y4.1.length cap5), (9, .bool (y4.2)), (10, ii y5.1), (11, .bool (y5.2)), (12, ii y6.1), (13, .bool (y6.2)), (14, .slice A6 y7.1.length cap6), (15, .bool (y7.2)), (16, .slice A7 y8.1.length cap7), (17, .bool (y8.2))] (fun a2 => ?_)
 refine cW_seq <| sR <| wP 3 [(61, .bool (!y5.2)), (60, .bool (!y5.2)), (59, .bool (y5.2))] <| wS_bool (!y5.2) (fun hb2 => ?_) (fun hb2 => ?_)
 ·have hm := condT hb2 hm
  rewrite [hb2]
  refine wP 13 [(74, .bool (true)), (73, undef), (72, undef), (71, undef), (70, .bool (true)), (69, .bool (true)), (68, undef), (67, undef), (66, undef), (65, .bool (true)), (64, .bool (true)), (63, undef), (62, undef)] <| wN <| cP [(1, .slice A1 l1.length cap1), (5, pt b1), (6, .slice A4 y3.1.length cap4), (8, .slice A5 y4.1.length cap5), (9, .bool (y4.2)), (10, ii y5.1), (12, ii y6.1), (14, .slice A6 y7.1.length cap6), (15, .bool (y7.2)), (16, .slice A7 y8.1.length cap7), (74, .bool (true))] (fun a3 => ?_)
  refine cCt <| sR <| wP 1 [(4, .bool (false))] <| wN <| cW_ret <| eX_then_ret ?_
  obtain rfl := someE (x := false) hm
  refine rA (.bool (false)) 4 ?_
  exact ⟨rfl, hB⟩
 have hm := condF hb2 hm
 rewrite [hb2]
 refine wP 4 [(65, .bool (!y8.2)), (64, .bool (!y8.2)), (63, .bool (!y8.2)), (62, .bool (y8.2))] <| wS_bool (!y8.2) (fun hb3 => ?_) (fun hb3 => ?_)
 ·have hm := condT hb3 hm
  rewrite [hb3]
  refine wP 9 [(74, .bool (true)), (73, undef), (72, undef), (71, undef), (70, .bool (true)), (69, .bool (true)), (68, undef), (67, undef), (66, undef)] <| wN <| cP [(1, .slice A1 l1.length cap1), (5, pt b1), (6, .slice A4 y3.1.length cap4), (8, .slice A5 y4.1.length cap5), (9, .bool (y4.2)), (10, ii y5.1), (12, ii y6.1), (14, .slice A6 y7.1.length cap6), (15, .bool (y7.2)), (16, .slice A7 y8.1.length cap7), (74, .bool (true))] (fun a4 => ?_)
  refine cCt <| sR <| wP 1 [(4, .bool (false))] <| wN <| cW_ret <| eX_then_ret ?_
  obtain rfl := someE (x := false) hm
  refine rA (.bool (false)) 4 ?_
  exact ⟨rfl, hB⟩
 have hm := condF hb3 hm
 rewrite [hb3]
 refine wP 5 [(70, .bool (y3.2 == y4.2)), (69, .bool (y3.2 == y4.2)), (68, .bool (y3.2 == y4.2)), (67, .bool (y4.2)), (66, .bool (y3.2))] <| wS_bool (y3.2 == y4.2) (fun hb4 => ?_) (fun hb4 => ?_)
 ·have hm := condT hb4 hm
  rewrite [hb4]
  refine wP 4 [(74, .bool (true)), (73, undef), (72, undef), (71, undef)] <| wN <| cP [(1, .slice A1 l1.length cap1), (5, pt b1), (6, .slice A4 y3.1.length cap4), (8, .slice A5 y4.1.length cap5), (9, .bool (y4.2)), (10, ii y5.1), (12, ii y6.1), (14, .slice A6 y7.1.length cap6), (15, .bool (y7.2)), (16, .slice A7 y8.1.length cap7), (74, .bool (true))] (fun a5 => ?_)
  refine cCt <| sR <| wP 1 [(4, .bool (false))] <| wN <| cW_ret <| eX_then_ret ?_
  obtain rfl := someE (x := false) hm
  refine rA (.bool (false)) 4 ?_
  exact ⟨rfl, hB⟩
 have hm := condF hb4 hm
 rewrite [hb4]
 refine wP 4 [(74, .bool (!(y6.2 == y3.2))), (73, .bool (!(y6.2 == y3.2))), (72, .bool (y3.2)), (71, .bool (y6.2))] <| wN <| cP [(1, .slice A1 l1.length cap1), (5, pt b1), (6, .slice A4 y3.1.length cap4), (8, .slice A5 y4.1.length cap5), (9, .bool (y4.2)), (10, ii y5.1), (12, ii y6.1), (14, .slice A6 y7.1.length cap6), (15, .bool (y7.2)), (16, .slice A7 y8.1.length cap7), (74, .bool (!(y6.2 == y3.2)))] (fun a6 => ?_)
 refine cC (!(y6.2 == y3.2)) (fun hb5 => ?_) (fun hb5 => ?_)
 ·have hm := condT hb5 hm
  refine sR <| wP 1 [(4, .bool (false))] <| wN <| cW_ret <| eX_then_ret ?_
  obtain rfl := someE (x := false) hm
  refine rA (.bool (false)) 4 ?_
  exact ⟨rfl, hB⟩
 have hm := condF hb5 hm
 refine cW_skip <| eX_then <| sR <| wP 1 [(18, .bool (true))] <| wN <| cW_seq <| sR <| wP 1 [(19, ii 0)] <| wN ?_
 obtain ⟨r1, hr1, hm⟩ := bindE hm
 have hm1 := hm
 refine cW_cut (fun a' w' => ∃ x1 : Bool, x1 = r1 ∧ Fr 182 [(1, .slice A1 l1.length cap1), (5, pt b1), (6, .slice A4 y3.1.length cap4), (8, .slice A5 y4.1.length cap5), (9, .bool (y4.2)), (10, ii y5.1), (12, ii y6.1), (14, .slice A6 y7.1.length cap6), (15, .bool (y7.2)), (18, .bool (x1))] a' ∧ Sl 1 encU w' fp1 A1 l1 ∧ Sl 1 encU w' [1] (ad 1) tab64 ∧ O1 2 w' fp2 A2 cap2 y2.1 ∧ O1 2 w' fp3 A3 cap3 y2.2 ∧ Cl w' b1 26 [.slice A2 y2.1.length cap2, .slice A3 y2.2.length cap3] ∧ OwR 1 encI 24 2 w' fp4 fr1 A4 cap4 y3.1 ∧ O1 2 w' fp5 A5 cap5 y4.1 ∧ OwR 1 encI 24 2 w' fp6 fr2 A6 cap6 y7.1 ∧ Chg [] w0 w') ?_ ?_
 ·refine cW_block ?_
  refine cW_loop _ (fun (s1 : Bool × Int) a' w' => ∃ x2 : Bool, ∃ x3 : Int, (x2, x3) = s1 ∧ Fr 182 [(1, .slice A1 l1.length cap1), (5, pt b1), (6, .slice A4 y3.1.length cap4), (8, .slice A5 y4.1.length cap5), (9, .bool (y4.2)), (10, ii y5.1), (12, ii y6.1), (14, .slice A6 y7.1.length cap6), (15, .bool (y7.2)), (16, .slice A7 y8.1.length cap7), (18, .bool (x2)), (19, ii x3)] a' ∧ Sl 1 encU w' fp1 A1 l1 ∧ Sl 1 encU w' [1] (ad 1) tab64 ∧ O1 2 w' fp2 A2 cap2 y2.1 ∧ O1 2 w' fp3 A3 cap3 y2.2 ∧ Cl w' b1 26 [.slice A2 y2.1.length cap2, .slice A3 y2.2.length cap3] ∧ OwR 1 encI 24 2 w' fp4 fr1 A4 cap4 y3.1 ∧ O1 2 w' fp5 A5 cap5 y4.1 ∧ OwR 1 encI 24 2 w' fp6 fr2 A6 cap6 y7.1 ∧ O1 2 w' fp7 A7 cap7 y8.1 ∧ Chg [] w0 w') hr1 (fun hst => ⟨true, 0, rfl, fO hst, F1, FG, F2, F3, F5, F6, F7, F8, F9, hB⟩) ?_
  rintro _ c1 a' w11 ⟨x2, x3, rfl, hF1, F10, F11, F12, F13, F14, F15, F16, F17, F18, hB⟩ hx1
  refine gO hF1 ?_
  have hm := hx1
  unfold m_lFnCha_s3 at hm
  refine cW_seq <| sR <| wP 4 [(78, .bool (decide (x3 < ((y8.1.length : Int))))), (77, ii (y8.1.length : Int)), (76, .slice A7 y8.1.length cap7), (75, ii x3)] <| wN <| cC (decide (x3 < ((y8.1.length : Int)))) (fun hb6 => ?_) (fun hb6 => ?_)
  ·have hm := condT hb6 hm
   refine cW_skip <| eX_then <| cW_seq <| cW_block <| sR <| wP 1 [(20, ii 0)] <| wN ?_
   obtain ⟨r2, hr2, hm⟩ := bindE hm
   have hm2 := hm
   refine cW_cut (fun a' w' => ∃ x4 : Bool, x4 = r2 ∧ Fr 182 [(1, .slice A1 l1.length cap1), (5, pt b1), (6, .slice A4 y3.1.length cap4), (8, .slice A5 y4.1.length cap5), (9, .bool (y4.2)), (10, ii y5.1), (12, ii y6.1), (14, .slice A6 y7.1.length cap6), (15, .bool (y7.2)), (16, .slice A7 y8.1.length cap7), (18, .bool (x4)), (19, ii x3)] a' ∧ Sl 1 encU w' fp1 A1 l1 ∧ Sl 1 encU w' [1] (ad 1) tab64 ∧ O1 2 w' fp2 A2 cap2 y2.1 ∧ O1 2 w' fp3 A3 cap3 y2.2 ∧ Cl w' b1 26 [.slice A2 y2.1.length cap2, .slice A3 y2.2.length cap3] ∧ OwR 1 encI 24 2 w' fp4 fr1 A4 cap4 y3.1 ∧ O1 2 w' fp5 A5 cap5 y4.1 ∧ OwR 1 encI 24 2 w' fp6 fr2 A6 cap6 y7.1 ∧ O1 2 w' fp7 A7 cap7 y8.1 ∧ Chg [] w0 w') ?_ ?_
   ·refine cW_block ?_
    refine cW_loop _ (fun (s2 : Bool × Int) a' w' => ∃ x5 : Bool, ∃ x6 : Int, (x5, x6) = s2 ∧ Fr 182 [(1, .slice A1 l1.length cap1), (5, pt b1), (6, .slice A4 y3.1.length cap4), (8, .slice A5 y4.1.length cap5), (9, .bool (y4.2)), (10, ii y5.1), (12, ii y6.1), (14, .slice A6 y7.1.length cap6), (15, .bool (y7.2)), (16, .slice A7 y8.1.length cap7), (18, .bool (x5)), (19, ii x3), (20, ii x6)] a' ∧ Sl 1 encU w' fp1 A1 l1 ∧ Sl 1 encU w' [1] (ad 1) tab64 ∧ O1 2 w' fp2 A2 cap2 y2.1 ∧ O1 2 w' fp3 A3 cap3 y2.2 ∧ Cl w' b1 26 [.slice A2 y2.1.length cap2, .slice A3 y2.2.length cap3] ∧ OwR 1 encI 24 2 w' fp4 fr1 A4 cap4 y3.1 ∧ O1 2 w' fp5 A5 cap5 y4.1 ∧ OwR 1 encI 24 2 w' fp6 fr2 A6 cap6 y7.1 ∧ O1 2 w' fp7 A7 cap7 y8.1 ∧ Chg [] w0 w') hr2 (fun hst => ⟨x2, 0, rfl, fO hst, F10, F11, F12, F13, F14, F15, F16, F17, F18, hB⟩) ?_
    rintro _ c2 a' w12 ⟨x5, x6, rfl, hF2, F19, F20, F21, F22, F23, F24, F25, F26, F27, hB⟩ hx2
    refine gO hF2 ?_
    have hm := hx2
    unfold m_lFnCha_s4 at hm
    refine cW_seq <| sR <| wP 4 [(84, .bool (decide (x6 < ((y8.1.length : Int))))), (83, ii (y8.1.length : Int)), (82, .slice A7 y8.1.length cap7), (81, ii x6)] <| wN <| cC (decide (x6 < ((y8.1.length : Int)))) (fun hb7 => ?_) (fun hb7 => ?_)
    ·have hm := condT hb7 hm
     refine cW_skip <| eX_then <| cW_seq <| cW_block <| cW_drawnTail [] 11 (by kernel_rfl) (by kernel_rfl) (fun w13 hc11 => ?_)
     replace F19 := F19.c hc11
     replace F20 := F20.c hc11
     replace F21 := F21.c hc11
     replace F22 := F22.c hc11
     replace F23 := F23.c hc11
     replace F24 := F24.c hc11
     replace F25 := F25.c hc11
     replace F26 := F26.c hc11
     replace F27 := F27.c hc11
     replace hB := hB.q hc11
     have hS := Chg.refl [] w13
     have Z1 := F19
     have Z2 := F20
     have Z3 := F21
     have Z4 := F22
     have Z5 := F23
     have Z6 := F24
     have Z7 := F25
     have Z8 := F26
     have Z9 := F27
     refine hT [0, 1] [(88, .bool (x5)), (87, .bool (x5))] <| wH_bool x5 (fun hb8 => ?_) (fun hb8 => ?_)
     ·have hm := condT hb8 hm
      subst hb8
      refine wH_loadA (i := 2) (d := 89) (T := 26) (ad := ⟨b1, 0, none⟩) (vs := [.slice A2 y2.1.length cap2, .slice A3 y2.2.length cap3]) (by kernel_rfl) (qT (qB (qT (qL (qB (qT (qB (qT (qL (qB (qT (qT qZ)))))))))))) (by kernel_rfl) (by kernel_rfl) vt26 (fun W hW i u hu => box_cells (Z5.c hW) 0 hu (by rfl)) ?_
      refine hT [3, 4] [(91, ii x3), (90, .slice A7 y8.1.length cap7)] ?_
      obtain ⟨x7, hx3, hm⟩ := bindE hm
      refine hI 5 92 A7 y8.1.length cap7 .i64 x3 sl24 ((F27.sl encI_ok).is hx3) <| hL 6 93 (elA A7 1 (x3) 0) (ii x7) vt2 (fun W hW => Sl.cell ((Z9.c hW).sl encI_ok) hx3 0 (by rfl)) ?_
      refine hT [7, 8] [(95, ii x6), (94, .slice A7 y8.1.length cap7)] ?_
      obtain ⟨x8, hx4, hm⟩ := bindE hm
      refine hI 9 96 A7 y8.1.length cap7 .i64 x6 sl24 ((F27.sl encI_ok).is hx4) <| hL 10 97 (elA A7 1 (x6) 0) (ii x8) vt2 (fun W hW => Sl.cell ((Z9.c hW).sl encI_ok) hx4 0 (by rfl)) ?_
      refine wD <| eX_tail ?_
      obtain ⟨y9, hy9, hm⟩ := bindE hm
      refine sC 98 [.agg #[.slice A2 y2.1.length cap2, .slice A3 y2.2.length cap3], ii x7, ii x8] ent15 (c_iMustB hy9 (F21.sl encI_ok) F21.cap_le (F22.sl encI_ok) F22.cap_le) ?_
      rintro _ w14 ⟨rfl, hc12⟩
      replace F19 := F19.c hc12
      replace F20 := F20.c hc12
      replace F21 := F21.c hc12
      replace F22 := F22.c hc12
      replace F23 := F23.c hc12
      replace F24 := F24.c hc12
      replace F25 := F25.c hc12
      replace F26 := F26.c hc12
      replace F27 := F27.c hc12
      replace hB := hB.q hc12
      refine ⟨.bool (y9), rfl, ?_⟩
      refine wP 3 [(18, .bool (!y9)), (100, .bool (!y9)), (99, .bool (!y9))] <| wE <| eX_block <| eX_then <| cP [(1, .slice A1 l1.length cap1), (5, pt b1), (6, .slice A4 y3.1.length cap4), (8, .slice A5 y4.1.length cap5), (9, .bool (y4.2)), (10, ii y5.1), (12, ii y6.1), (14, .slice A6 y7.1.length cap6), (15, .bool (y7.2)), (16, .slice A7 y8.1.length cap7), (18, .bool (!y9)), (19, ii x3), (20, ii x6)] (fun a7 => ?_)
      refine cW_region <| wP 3 [(20, ii (wr (x6 + 1))), (86, ii (wr (x6 + 1))), (85, ii x6)] <| wE ?_
      obtain rfl := someE (x := (Ctl.next ((!y9, wr (x6 + 1))))) hm
      exact eX_next hx2 (fun hst => ⟨!y9, wr (x6 + 1), rfl, fO hst, F19, F20, F21, F22, F23, F24, F25, F26, F27, hB⟩)
     have hm := condF hb8 hm
     subst hb8
     refine hT [2, 3, 4, 5, 6, 7, 8, 9, 10] [(97, undef), (96, undef), (95, undef), (94, undef), (93, undef), (92, undef), (91, undef), (90, undef), (89, undef)] <| wD <| eX_tail <| wP 4 [(18, .bool (false)), (100, .bool (false)), (99, undef), (98, undef)] <| wE <| eX_block <| eX_then <| cP [(1, .slice A1 l1.length cap1), (5, pt b1), (6, .slice A4 y3.1.length cap4), (8, .slice A5 y4.1.length cap5), (9, .bool (y4.2)), (10, ii y5.1), (12, ii y6.1), (14, .slice A6 y7.1.length cap6), (15, .bool (y7.2)), (16, .slice A7 y8.1.length cap7), (18, .bool (false)), (19, ii x3), (20, ii x6)] (fun a8 => ?_)
     refine cW_region <| wP 3 [(20, ii (wr (x6 + 1))), (86, ii (wr (x6 + 1))), (85, ii x6)] <| wE ?_
     obtain rfl := someE (x := (Ctl.next ((false, wr (x6 + 1))))) hm
     exact eX_next hx2 (fun hst => ⟨false, wr (x6 + 1), rfl, fO hst, F19, F20, F21, F22, F23, F24, F25, F26, F27, hB⟩)
    have hm := condF hb7 hm
    refine cW_exit <| eX_then_exit ?_
    obtain rfl := someE (x := Ctl.out x5) hm
    refine eX_outX hx2 (fun hr3 => ?_)
    replace hr3 := hr3.symm
    subst hr3
    refine eX_block_hit ?_
    exact eX_J (fun hst => ⟨x5, rfl, fO hst, F19, F20, F21, F22, F23, F24, F25, F26, F27, hB⟩)
   rintro a' w15 ⟨x4, hJ, hF3, F28, F29, F30, F31, F32, F33, F34, F35, F36, hB⟩
   subst hJ
   refine gX hF3 <| eX_block <| eX_then <| cW_region <| wP 3 [(19, ii (wr (x3 + 1))), (80, ii (wr (x3 + 1))), (79, ii x3)] <| wE ?_
   obtain rfl := someE (x := (Ctl.next ((x4, wr (x3 + 1))))) hm
   exact eX_next hx1 (fun hst => ⟨x4, wr (x3 + 1), rfl, fO hst, F28, F29, F30, F31, F32, F33, F34, F35, F36, hB⟩)
  have hm := condF hb6 hm
  refine cW_exit <| eX_then_exit ?_
  obtain rfl := someE (x := Ctl.out x2) hm
  refine eX_outX hx1 (fun hr4 => ?_)
  replace hr4 := hr4.symm
  subst hr4
  refine eX_block_hit ?_
  exact eX_J (fun hst => ⟨x2, rfl, fO hst, F10, F11, F12, F13, F14, F15, F16, F17, hB⟩)
 rintro a' w16 ⟨x1, hJ, hF4, F37, F38, F39, F40, F41, F42, F43, F44, hB⟩
 subst hJ
 refine gX hF4 <| eX_then <| cW_seq <| sR <| wP 3 [(103, .bool (!(x1 == y7.2))), (102, .bool (y7.2)), (101, .bool (x1))] <| wN <| cC (!(x1 == y7.2)) (fun hb9 => ?_) (fun hb9 => ?_)
 ·have hm := condT hb9 hm
  refine sR <| wP 1 [(4, .bool (false))] <| wN <| cW_ret <| eX_then_ret ?_
  obtain rfl := someE (x := false) hm
  refine rA (.bool (false)) 4 ?_
  exact ⟨rfl, hB⟩
 have hm := condF hb9 hm
 refine cW_skip <| eX_then <| cW_seq <| sR <| wP 1 [(104, .bool (y4.2))] <| wN <| cC y4.2 (fun hb10 => ?_) (fun hb10 => ?_)
 ·have hm := condT hb10 hm
  refine cW_seq <| sR <| wP 1 [(21, ii 0)] <| wN ?_
  obtain ⟨r3, hr5, hm⟩ := bindE hm
  have hm3 := hm
  refine cW_cut (fun a' w' => Sum.inl (()) = r3 ∧ Fr 182 [(8, .slice A5 y4.1.length cap5)] a' ∧ Sl 1 encU w' [1] (ad 1) tab64 ∧ O1 2 w' fp5 A5 cap5 y4.1 ∧ Chg [] w0 w') ?_ ?_
  ·refine cW_block ?_
   refine cW_loop _ (fun (s3 : Int) a' w' => ∃ x9 : Int, x9 = s3 ∧ Fr 182 [(5, pt b1), (8, .slice A5 y4.1.length cap5), (21, ii x9)] a' ∧ Sl 1 encU w' [1] (ad 1) tab64 ∧ O1 2 w' fp2 A2 cap2 y2.1 ∧ O1 2 w' fp3 A3 cap3 y2.2 ∧ Cl w' b1 26 [.slice A2 y2.1.length cap2, .slice A3 y2.2.length cap3] ∧ O1 2 w' fp5 A5 cap5 y4.1 ∧ Chg [] w0 w') hr5 (fun hst => ⟨0, rfl, fO hst, F38, F39, F40, F41, F43, hB⟩) ?_
   rintro _ c3 a' w17 ⟨x9, rfl, hF5, F45, F46, F47, F48, F49, hB⟩ hx5
   refine gO hF5 ?_
   have hm := hx5
   unfold m_lFnCha_s5 at hm
   refine cW_seq <| sR <| wP 4 [(108, .bool (decide (x9 < ((y4.1.length : Int))))), (107, ii (y4.1.length : Int)), (106, .slice A5 y4.1.length cap5), (105, ii x9)] <| wN <| cC (decide (x9 < ((y4.1.length : Int)))) (fun hb11 => ?_) (fun hb11 => ?_)
   ·have hm := condT hb11 hm
    refine cW_skip <| eX_then <| cW_seq <| cW_block <| cW_seq <| cW_drawnTail [] 23 (by kernel_rfl) (by kernel_rfl) (fun w18 hc13 => ?_)
    replace F45 := F45.c hc13
    replace F46 := F46.c hc13
    replace F47 := F47.c hc13
    replace F48 := F48.c hc13
    replace F49 := F49.c hc13
    replace hB := hB.q hc13
    have hS := Chg.refl [] w18
    have Z10 := F45
    have Z11 := F46
    have Z12 := F47
    have Z13 := F48
    have Z14 := F49
    refine wH_loadA (i := 0) (d := 111) (T := 26) (ad := ⟨b1, 0, none⟩) (vs := [.slice A2 y2.1.length cap2, .slice A3 y2.2.length cap3]) (by kernel_rfl) (qT (qT (qB (qT (qL (qB (qT (qT (qT qZ))))))))) (by kernel_rfl) (by kernel_rfl) vt26 (fun W hW i u hu => box_cells (Z13.c hW) 0 hu (by rfl)) ?_
    refine hT [1, 2] [(113, ii x9), (112, .slice A5 y4.1.length cap5)] ?_
    obtain ⟨x10, hx6, hm⟩ := bindE hm
    refine hI 3 114 A5 y4.1.length cap5 .i64 x9 sl24 ((F49.sl encI_ok).is hx6) <| hL 4 115 (elA A5 1 (x9) 0) (ii x10) vt2 (fun W hW => Sl.cell ((Z14.c hW).sl encI_ok) hx6 0 (by rfl)) ?_
    refine hT [5, 6, 7, 8, 9] [(120, ii (y4.1.length : Int)), (119, .slice A5 y4.1.length cap5), (118, ii (wr (x9 + 1))), (117, ii x9), (116, .slice A5 y4.1.length cap5)] ?_
    obtain ⟨u1, hu1, hm⟩ := bindE hm
    refine wH_rem (i := 10) (d := 121) (x := wr (x9 + 1)) (y := (y4.1.length : Int)) (by kernel_rfl) (qT (qT (qB (qT (qL (qB (qT (qT (qT qZ))))))))) (by kernel_rfl) (by kernel_rfl) (nzE hu1) ?_
    obtain ⟨x11, hx7, hm⟩ := bindE hm
    refine hI 11 122 A5 y4.1.length cap5 .i64 (Int.tmod (wr (x9 + 1)) ((y4.1.length : Int))) sl24 ((F49.sl encI_ok).is hx7) <| hL 12 123 (elA A5 1 (Int.tmod (wr (x9 + 1)) ((y4.1.length : Int))) 0) (ii x11) vt2 (fun W hW => Sl.cell ((Z14.c hW).sl encI_ok) hx7 0 (by rfl)) ?_
    refine wH_all [13] (by rfl) (by kernel_rfl) (by simp) ⟨⟨by kernel_rfl, ?_⟩, trivial⟩
    obtain ⟨y10, hy10, hm⟩ := bindE hm
    refine sC 124 [.agg #[.slice A2 y2.1.length cap2, .slice A3 y2.2.length cap3], ii x10, ii x11] ent15 (c_iMustB hy10 (F46.sl encI_ok) F46.cap_le (F47.sl encI_ok) F47.cap_le) ?_
    rintro _ w19 ⟨rfl, hc14⟩
    replace F45 := F45.c hc14
    replace F46 := F46.c hc14
    replace F47 := F47.c hc14
    replace F48 := F48.c hc14
    replace F49 := F49.c hc14
    have hSz := hS
    replace hS := hS.inS hc14 inNil
    replace hB := hB.q hc14
    refine ⟨.bool (y10), rfl, ?_⟩
    refine wS_end (by kernel_rfl) <| eX_KH hS <| hT [14, 15] [(126, .bool (!y10)), (125, .bool (!y10))] <| wH_bool (!y10) (fun hb12 => ?_) (fun hb12 => ?_)
    ·have hm := condT hb12 hm
     rewrite [hb12]
     refine hT [16, 17, 18, 19, 20, 21, 22] [(133, undef), (132, undef), (131, undef), (130, undef), (129, undef), (128, undef), (127, undef)] <| wD <| eX_tail <| wP 2 [(135, .bool (true)), (134, undef)] <| wN <| cP [(5, pt b1), (8, .slice A5 y4.1.length cap5), (21, ii x9), (135, .bool (true))] (fun a9 => ?_)
     refine cCt <| sR <| wP 1 [(4, .bool (false))] <| wN <| cW_ret <| eX_block_ret <| eX_then_ret ?_
     obtain rfl := someE (x := Ctl.out (Sum.inr false)) hm
     refine eX_outR hx5 (fun hr => ?_)
     subst hr
     refine eX_block_ret <| eX_then_ret <| eX_then_ret <| eX_then_ret ?_
     obtain rfl := someE (x := false) hm3
     refine rA (.bool (false)) 4 ?_
     exact ⟨rfl, hB⟩
    have hm := condF hb12 hm
    rewrite [hb12]
    refine hT [16, 17] [(128, ii x9), (127, .slice A5 y4.1.length cap5)] ?_
    obtain ⟨y11, hy11, hm⟩ := bindE hm
    refine wH_slice (k := 1) (enc := encI) (fp := fp5) (l := y4.1) (i := 18) (d := 129) (T := 24) (A := A5) (cap := cap5) (vlo := none) (vhi := some (ii x9)) (lo := 0) (hi := x9) (n := 0) (by kernel_rfl) (qT (qT (qB (qT (qL (qB (qT (qT (qT qZ))))))))) (by kernel_rfl) (by kernel_rfl) sl24 (Or.inr ⟨rfl, rfl⟩) (Or.inl rfl) F49.cap_le hy11 ?_
    intro A8 cap8 hcut1 hcap1
    have F50 := hcut1 _ (F49.sl encI_ok)
    have Fz1 := hcut1 _ (Z14.sl encI_ok)
    refine hT [19, 20] [(131, ii x9), (130, .slice A5 y4.1.length cap5)] ?_
    obtain ⟨x12, hx8, hm⟩ := bindE hm
    refine hI 21 132 A5 y4.1.length cap5 .i64 x9 sl24 ((F49.sl encI_ok).is hx8) <| hL 22 133 (elA A5 1 (x9) 0) (ii x12) vt2 (fun W hW => Sl.cell ((Z14.c hW).sl encI_ok) hx8 0 (by rfl)) ?_
    refine wD <| eX_tail ?_
    obtain ⟨y12, hy12, hm⟩ := bindE hm
    refine sC 134 [.slice A8 y11.length cap8, ii x12] ent16 (c_laws_b10Has hy12 F50) ?_
    rintro _ w20 ⟨rfl, hc15⟩
    replace F45 := F45.c hc15
    replace F46 := F46.c hc15
    replace F47 := F47.c hc15
    replace F48 := F48.c hc15
    replace F49 := F49.c hc15
    replace F50 := F50.c hc15
    replace hB := hB.q hc15
    refine ⟨.bool (y12), rfl, ?_⟩
    refine wP 1 [(135, .bool (y12))] <| wN <| cP [(5, pt b1), (8, .slice A5 y4.1.length cap5), (21, ii x9), (135, .bool (y12))] (fun a10 => ?_)
    refine cC y12 (fun hb13 => ?_) (fun hb13 => ?_)
    ·have hm := condT hb13 hm
     refine sR <| wP 1 [(4, .bool (false))] <| wN <| cW_ret <| eX_block_ret <| eX_then_ret ?_
     obtain rfl := someE (x := Ctl.out (Sum.inr false)) hm
     refine eX_outR hx5 (fun hr => ?_)
     subst hr
     refine eX_block_ret <| eX_then_ret <| eX_then_ret <| eX_then_ret ?_
     obtain rfl := someE (x := false) hm3
     refine rA (.bool (false)) 4 ?_
     exact ⟨rfl, hB⟩
    have hm := condF hb13 hm
    refine cW_skip <| eX_block <| eX_then <| cW_region <| wP 3 [(21, ii (wr (x9 + 1))), (110, ii (wr (x9 + 1))), (109, ii x9)] <| wE ?_
    obtain rfl := someE (x := Ctl.next (wr (x9 + 1))) hm
    exact eX_next hx5 (fun hst => ⟨wr (x9 + 1), rfl, fO hst, F45, F46, F47, F48, F49, hB⟩)
   have hm := condF hb11 hm
   refine cW_exit <| eX_then_exit ?_
   obtain rfl := someE (x := Ctl.out (Sum.inl (()))) hm
   refine eX_outX hx5 (fun hr6 => ?_)
   replace hr6 := hr6.symm
   subst hr6
   refine eX_block_hit ?_
   exact eX_J (fun hst => ⟨rfl, fO hst, F45, F49, hB⟩)
  rintro a' w21 ⟨hJ, hF6, F51, F52, hB⟩
  subst hJ
  refine gX hF6 <| eX_then <| sR <| wP 4 [(4, .bool (decide (((y4.1.length : Int)) ≥ 2))), (138, .bool (decide (((y4.1.length : Int)) ≥ 2))), (137, ii (y4.1.length : Int)), (136, .slice A5 y4.1.length cap5)] <| wN <| cW_ret <| eX_then_ret ?_
  obtain rfl := someE (x := (decide (((y4.1.length : Int)) ≥ 2))) hm
  refine rA (.bool (decide (((y4.1.length : Int)) ≥ 2))) 4 ?_
  exact ⟨rfl, hB⟩
 have hm := condF hb10 hm
 refine cW_skip <| eX_then <| sR <| wP 1 [(139, .slice A1 l1.length cap1)] <| wS_loadA (d := 140) (T := 26) (ad := ⟨b1, 0, none⟩) (vs := [.slice A2 y2.1.length cap2, .slice A3 y2.2.length cap3]) (by kernel_rfl) vt26 (fun i u hu => box_cells F41 0 hu (by rfl)) ?_
 obtain ⟨y13, hy13, hm⟩ := bindE hm
 refine sC 141 [.slice A1 l1.length cap1, .agg #[.slice A2 y2.1.length cap2, .slice A3 y2.2.length cap3]] ent17 (c_sB10Tr hy13 F37 (F39.sl encI_ok) (F40.sl encI_ok)) ?_
 rintro _ w22 ⟨A9, cap9, fp8, fr3, rfl, F53, G8, hc16⟩
 have D22 := Dj.of F39.low G8
 have D23 := Dj.of F40.low G8
 have D24 := Dj.of (lt1 F41.lt) G8
 have D25 := Dj.of F42.low G8
 have D26 := Dj.of F43.low G8
 have D27 := Dj.of F44.low G8
 replace F37 := F37.c hc16
 replace F38 := F38.c hc16
 replace F39 := F39.c hc16
 replace F40 := F40.c hc16
 replace F41 := F41.c hc16
 replace F42 := F42.c hc16
 replace F43 := F43.c hc16
 replace F44 := F44.c hc16
 replace G8 := low_le hB.size G8
 replace hB := hB.q hc16
 refine ⟨.slice A9 y13.length cap9, rfl, ?_⟩
 refine wP 1 [(22, .slice A9 y13.length cap9)] <| wN <| sR <| wP 3 [(23, ii (y3.1.length : Int)), (143, ii (y3.1.length : Int)), (142, .slice A4 y3.1.length cap4)] <| wN <| cW_seq <| sR <| wS_loadA (d := 144) (T := 26) (ad := ⟨b1, 0, none⟩) (vs := [.slice A2 y2.1.length cap2, .slice A3 y2.2.length cap3]) (by kernel_rfl) vt26 (fun i u hu => box_cells F41 0 hu (by rfl)) ?_
 refine wP 1 [(145, .slice A4 y3.1.length cap4)] ?_
 obtain ⟨y14, hy14, hm⟩ := bindE hm
 refine sC 146 [.agg #[.slice A2 y2.1.length cap2, .slice A3 y2.2.length cap3], .slice A4 y3.1.length cap4] ent18 (c_iIsRou hy14 (F39.sl encI_ok) F39.cap_le (F40.sl encI_ok) F40.cap_le (F42.slr encI_ok)) ?_
 rintro _ w23 ⟨rfl, hc17⟩
 replace F37 := F37.c hc17
 replace F38 := F38.c hc17
 replace F39 := F39.c hc17
 replace F40 := F40.c hc17
 replace F41 := F41.c hc17
 replace F42 := F42.c hc17
 replace F43 := F43.c hc17
 replace F44 := F44.c hc17
 replace F53 := F53.c hc17
 replace hB := hB.q hc17
 refine ⟨.bool (y14), rfl, ?_⟩
 refine wP 2 [(148, .bool (!y14)), (147, .bool (!y14))] <| wS_bool (!y14) (fun hb14 => ?_) (fun hb14 => ?_)
 ·have hm := condT hb14 hm
  rewrite [hb14]
  refine wP 20 [(168, .bool (true)), (167, undef), (166, undef), (165, undef), (164, undef), (163, undef), (162, undef), (161, undef), (160, undef), (159, undef), (158, .bool (true)), (157, .bool (true)), (156, undef), (155, undef), (154, undef), (153, .bool (true)), (152, .bool (true)), (151, undef), (150, undef), (149, undef)] <| wN <| cP [(5, pt b1), (10, ii y5.1), (14, .slice A6 y7.1.length cap6), (15, .bool (y7.2)), (168, .bool (true))] (fun a11 => ?_)
  refine cCt <| sR <| wP 1 [(4, .bool (false))] <| wN <| cW_ret <| eX_then_ret ?_
  obtain rfl := someE (x := false) hm
  refine rA (.bool (false)) 4 ?_
  exact ⟨rfl, hB⟩
 have hm := condF hb14 hm
 rewrite [hb14]
 refine wP 5 [(153, .bool (decide (((y3.1.length : Int)) < y5.1))), (152, .bool (decide (((y3.1.length : Int)) < y5.1))), (151, .bool (decide (((y3.1.length : Int)) < y5.1))), (150, ii y5.1), (149, ii (y3.1.length : Int))] <| wS_bool (decide (((y3.1.length : Int)) < y5.1)) (fun hb15 => ?_) (fun hb15 => ?_)
 ·have hm := condT hb15 hm
  rewrite [hb15]
  refine wP 15 [(168, .bool (true)), (167, undef), (166, undef), (165, undef), (164, undef), (163, undef), (162, undef), (161, undef), (160, undef), (159, undef), (158, .bool (true)), (157, .bool (true)), (156, undef), (155, undef), (154, undef)] <| wN <| cP [(5, pt b1), (10, ii y5.1), (14, .slice A6 y7.1.length cap6), (15, .bool (y7.2)), (168, .bool (true))] (fun a12 => ?_)
  refine cCt <| sR <| wP 1 [(4, .bool (false))] <| wN <| cW_ret <| eX_then_ret ?_
  obtain rfl := someE (x := false) hm
  refine rA (.bool (false)) 4 ?_
  exact ⟨rfl, hB⟩
 have hm := condF hb15 hm
 rewrite [hb15]
 refine wP 5 [(158, .bool (decide (((y3.1.length : Int)) < y6.1))), (157, .bool (decide (((y3.1.length : Int)) < y6.1))), (156, .bool (decide (((y3.1.length : Int)) < y6.1))), (155, ii y6.1), (154, ii (y3.1.length : Int))] <| wS_bool (decide (((y3.1.length : Int)) < y6.1)) (fun hb16 => ?_) (fun hb16 => ?_)
 ·have hm := condT hb16 hm
  rewrite [hb16]
  refine wP 10 [(168, .bool (true)), (167, undef), (166, undef), (165, undef), (164, undef), (163, undef), (162, undef), (161, undef), (160, undef), (159, undef)] <| wN <| cP [(5, pt b1), (10, ii y5.1), (14, .slice A6 y7.1.length cap6), (15, .bool (y7.2)), (168, .bool (true))] (fun a13 => ?_)
  refine cCt <| sR <| wP 1 [(4, .bool (false))] <| wN <| cW_ret <| eX_then_ret ?_
  obtain rfl := someE (x := false) hm
  refine rA (.bool (false)) 4 ?_
  exact ⟨rfl, hB⟩
 have hm := condF hb16 hm
 rewrite [hb16]
 refine wS_loadA (d := 159) (T := 26) (ad := ⟨b1, 0, none⟩) (vs := [.slice A2 y2.1.length cap2, .slice A3 y2.2.length cap3]) (by kernel_rfl) vt26 (fun i u hu => box_cells F41 0 hu (by rfl)) ?_
 refine wP 1 [(160, .slice A9 y13.length cap9)] ?_
 obtain ⟨y15, hy15, hm⟩ := bindE hm
 refine sC 161 [.agg #[.slice A2 y2.1.length cap2, .slice A3 y2.2.length cap3], .slice A9 y13.length cap9] ent19 (c_sIsRou hy15 (F39.sl encI_ok) (F40.sl encI_ok) (F53.slr encI_ok)) ?_
 rintro _ w24 ⟨rfl, hc18⟩
 replace F37 := F37.c hc18
 replace F38 := F38.c hc18
 replace F39 := F39.c hc18
 replace F40 := F40.c hc18
 replace F41 := F41.c hc18
 replace F42 := F42.c hc18
 replace F43 := F43.c hc18
 replace F44 := F44.c hc18
 replace F53 := F53.c hc18
 replace hB := hB.q hc18
 refine ⟨.bool (y15), rfl, ?_⟩
 refine wP 1 [(162, .bool (y15))] <| wS_bool y15 (fun hb17 => ?_) (fun hb17 => ?_)
 ·have hm := condT hb17 hm
  rewrite [hb17]
  refine wP 6 [(168, .bool (decide (((y13.length : Int)) < ((y3.1.length : Int))))), (167, .bool (decide (((y13.length : Int)) < ((y3.1.length : Int))))), (166, .bool (decide (((y13.length : Int)) < ((y3.1.length : Int))))), (165, ii (y3.1.length : Int)), (164, ii (y13.length : Int)), (163, .slice A9 y13.length cap9)] <| wN <| cP [(5, pt b1), (10, ii y5.1), (14, .slice A6 y7.1.length cap6), (15, .bool (y7.2)), (168, .bool (decide (((y13.length : Int)) < ((y3.1.length : Int)))))] (fun a14 => ?_)
  refine cC (decide (((y13.length : Int)) < ((y3.1.length : Int)))) (fun hb18 => ?_) (fun hb18 => ?_)
  ·have hm := condT hb18 hm
   refine sR <| wP 1 [(4, .bool (false))] <| wN <| cW_ret <| eX_then_ret ?_
   obtain rfl := someE (x := false) hm
   refine rA (.bool (false)) 4 ?_
   exact ⟨rfl, hB⟩
  have hm := condF hb18 hm
  refine cW_skip <| eX_then <| sR <| wP 3 [(171, .bool (!y7.2)), (170, .bool (!y7.2)), (169, .bool (y7.2))] <| wS_bool (!y7.2) (fun hb19 => ?_) (fun hb19 => ?_)
  ·have hm := condT hb19 hm
   rewrite [hb19]
   refine wP 11 [(4, .bool (true)), (181, .bool (true)), (180, undef), (179, undef), (178, undef), (177, undef), (176, undef), (175, undef), (174, undef), (173, undef), (172, undef)] <| wN <| cW_ret ?_
   obtain rfl := someE (x := true) hm
   refine rA (.bool (true)) 4 ?_
   exact ⟨rfl, hB⟩
  have hm := condF hb19 hm
  rewrite [hb19]
  refine wP 5 [(176, .bool (((y7.1.length : Int)) == y5.1)), (175, .bool (((y7.1.length : Int)) == y5.1)), (174, ii y5.1), (173, ii (y7.1.length : Int)), (172, .slice A6 y7.1.length cap6)] <| wS_bool (((y7.1.length : Int)) == y5.1) (fun hb20 => ?_) (fun hb20 => ?_)
  ·have hm := condT hb20 hm
   rewrite [hb20]
   refine wS_loadA (d := 177) (T := 26) (ad := ⟨b1, 0, none⟩) (vs := [.slice A2 y2.1.length cap2, .slice A3 y2.2.length cap3]) (by kernel_rfl) vt26 (fun i u hu => box_cells F41 0 hu (by rfl)) ?_
   refine wP 1 [(178, .slice A6 y7.1.length cap6)] ?_
   obtain ⟨y16, hy16, hm⟩ := bindE hm
   refine sC 179 [.agg #[.slice A2 y2.1.length cap2, .slice A3 y2.2.length cap3], .slice A6 y7.1.length cap6] ent18 (c_iIsRou hy16 (F39.sl encI_ok) F39.cap_le (F40.sl encI_ok) F40.cap_le (F44.slr encI_ok)) ?_
   rintro _ w25 ⟨rfl, hc19⟩
   replace F37 := F37.c hc19
   replace F38 := F38.c hc19
   replace F39 := F39.c hc19
   replace F40 := F40.c hc19
   replace F41 := F41.c hc19
   replace F42 := F42.c hc19
   replace F43 := F43.c hc19
   replace F44 := F44.c hc19
   replace F53 := F53.c hc19
   replace hB := hB.q hc19
   refine ⟨.bool (y16), rfl, ?_⟩
   refine wP 3 [(4, .bool (y16)), (181, .bool (y16)), (180, .bool (y16))] <| wN <| cW_ret ?_
   obtain rfl := someE (x := y16) hm
   refine rA (.bool (y16)) 4 ?_
   exact ⟨rfl, hB⟩
  have hm := condF hb20 hm
  rewrite [hb20]
  refine wP 6 [(4, .bool (false)), (181, .bool (false)), (180, .bool (false)), (179, undef), (178, undef), (177, undef)] <| wN <| cW_ret ?_
  obtain rfl := someE (x := false) hm
  refine rA (.bool (false)) 4 ?_
  exact ⟨rfl, hB⟩
 have hm := condF hb17 hm
 rewrite [hb17]
 refine wP 6 [(168, .bool (false)), (167, .bool (false)), (166, undef), (165, undef), (164, undef), (163, undef)] <| wN <| cP [(5, pt b1), (10, ii y5.1), (14, .slice A6 y7.1.length cap6), (15, .bool (y7.2)), (168, .bool (false))] (fun a15 => ?_)
 refine cCf <| cW_skip <| eX_then <| sR <| wP 3 [(171, .bool (!y7.2)), (170, .bool (!y7.2)), (169, .bool (y7.2))] <| wS_bool (!y7.2) (fun hb21 => ?_) (fun hb21 => ?_)
 ·have hm := condT hb21 hm
  rewrite [hb21]
  refine wP 11 [(4, .bool (true)), (181, .bool (true)), (180, undef), (179, undef), (178, undef), (177, undef), (176, undef), (175, undef), (174, undef), (173, undef), (172, undef)] <| wN <| cW_ret ?_
  obtain rfl := someE (x := true) hm
  refine rA (.bool (true)) 4 ?_
  exact ⟨rfl, hB⟩
 have hm := condF hb21 hm
 rewrite [hb21]
 refine wP 5 [(176, .bool (((y7.1.length : Int)) == y5.1)), (175, .bool (((y7.1.length : Int)) == y5.1)), (174, ii y5.1), (173, ii (y7.1.length : Int)), (172, .slice A6 y7.1.length cap6)] <| wS_bool (((y7.1.length : Int)) == y5.1) (fun hb22 => ?_) (fun hb22 => ?_)
 ·have hm := condT hb22 hm
  rewrite [hb22]
  refine wS_loadA (d := 177) (T := 26) (ad := ⟨b1, 0, none⟩) (vs := [.slice A2 y2.1.length cap2, .slice A3 y2.2.length cap3]) (by kernel_rfl) vt26 (fun i u hu => box_cells F41 0 hu (by rfl)) ?_
  refine wP 1 [(178, .slice A6 y7.1.length cap6)] ?_
  obtain ⟨y17, hy17, hm⟩ := bindE hm
  refine sC 179 [.agg #[.slice A2 y2.1.length cap2, .slice A3 y2.2.length cap3], .slice A6 y7.1.length cap6] ent18 (c_iIsRou hy17 (F39.sl encI_ok) F39.cap_le (F40.sl encI_ok) F40.cap_le (F44.slr encI_ok)) ?_
  rintro _ w26 ⟨rfl, hc20⟩
  replace F37 := F37.c hc20
  replace F38 := F38.c hc20
  replace F39 := F39.c hc20
  replace F40 := F40.c hc20
  replace F41 := F41.c hc20
  replace F42 := F42.c hc20
  replace F43 := F43.c hc20
  replace F44 := F44.c hc20
  replace F53 := F53.c hc20
  replace hB := hB.q hc20
  refine ⟨.bool (y17), rfl, ?_⟩
  refine wP 3 [(4, .bool (y17)), (181, .bool (y17)), (180, .bool (y17))] <| wN <| cW_ret ?_
  obtain rfl := someE (x := y17) hm
  refine rA (.bool (y17)) 4 ?_
  exact ⟨rfl, hB⟩
 have hm := condF hb22 hm
 rewrite [hb22]
 refine wP 6 [(4, .bool (false)), (181, .bool (false)), (180, .bool (false)), (179, undef), (178, undef), (177, undef)] <| wN <| cW_ret ?_
 obtain rfl := someE (x := false) hm
 refine rA (.bool (false)) 4 ?_
 exact ⟨rfl, hB⟩

end Go.Proofs.YtbfjekmefcpkmaaDoor
