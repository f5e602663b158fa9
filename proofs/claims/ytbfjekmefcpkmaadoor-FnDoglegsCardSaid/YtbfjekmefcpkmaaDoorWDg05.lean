/- Printed walks: (*impl.Channel).pieceOrder, impl.toldTracks, impl.FewestWithDoglegs, impl.PiecesOf, impl.SpanOf, impl.IsPieceRouting, laws.FnDoglegs. -/
import Derived.Test.YtbfjekmefcpkmaaDoorProg
import Derived.Test.YtbfjekmefcpkmaaDoorWDg04
set_option linter.unusedSimpArgs false
set_option linter.unusedVariables false
namespace Go.Proofs.YtbfjekmefcpkmaaDoor
open Go.RowKit
attribute [local irreducible] wS cW eX wH

theorem ent7 : Ent Tryd.prog 7 := fun _ => by kernel_rfl
theorem ent8 : Ent Tryd.prog 8 := fun _ => by kernel_rfl
theorem ent9 : Ent Tryd.prog 9 := fun _ => by kernel_rfl
theorem ent14 : Ent Tryd.prog 14 := fun _ => by kernel_rfl
theorem ent28 : Ent Tryd.prog 28 := fun _ => by kernel_rfl
theorem ent29 : Ent Tryd.prog 29 := fun _ => by kernel_rfl
theorem ent30 : Ent Tryd.prog 30 := fun _ => by kernel_rfl
theorem ent31 : Ent Tryd.prog 31 := fun _ => by kernel_rfl
theorem ent32 : Ent Tryd.prog 32 := fun _ => by kernel_rfl
theorem ent58 : Ent Tryd.prog 58 := fun _ => by kernel_rfl
theorem ent59 : Ent Tryd.prog 59 := fun _ => by kernel_rfl
theorem ent70 : Ent Tryd.prog 70 := fun _ => by kernel_rfl
theorem ent71 : Ent Tryd.prog 71 := fun _ => by kernel_rfl
theorem ent72 : Ent Tryd.prog 72 := fun _ => by kernel_rfl

set_option maxRecDepth 100000 in
/-- impl.Channel).pieceOrder -/
theorem c_impl_Channel_pieceOrder_bimplChannel {w0 : World} {l0_0 : List Int} {A0_0 : Option Addr} {cap0_0 : Nat} {fp0_0 : List Nat} {l0_1 : List Int} {A0_1 : Option Addr} {cap0_1 : Nat} {fp0_1 : List Nat} {b0 : Nat} {r : ((List Int) × (List Int))} (hm : m_impl_Channel_pieceOrder_bimplChannel l0_0 l0_1 = some r) (F0_0 : Sl 1 encI w0 fp0_0 A0_0 l0_0) (F0_1 : Sl 1 encI w0 fp0_1 A0_1 l0_1) (F0 : Cl w0 b0 26 [.slice A0_0 l0_0.length cap0_0, .slice A0_1 l0_1.length cap0_1]) :
  Calls Tryd.prog 71 #[pt b0] w0 fun e w' => ∃ A100_0 cap100_0 fp100_0, ∃ A100_1 cap100_1 fp100_1, e = .returned (.agg #[.slice A100_0 r.1.length cap100_0, .slice A100_1 r.2.length cap100_1]) ∧ Ow 1 encI 3 w' fp100_0 A100_0 cap100_0 r.1 ∧ (∀ x ∈ fp100_0, w0.heap.size ≤ x) ∧ Ow 1 encI 3 w' fp100_1 A100_1 cap100_1 r.2 ∧ (∀ x ∈ fp100_1, w0.heap.size ≤ x) ∧ Dj fp100_0 fp100_1 ∧ Chg [] w0 w' := by
 have L0_0 := F0_0.low
 have L0_1 := F0_1.low
 have L0 := lt1 F0.lt
 have hB : Chg [] w0 w0 := Chg.refl _ _
 have hZ := Nat.le_refl w0.heap.size
 unfold m_impl_Channel_pieceOrder_bimplChannel at hm
 refine enterE (N := 167) Tryd.func71 (by rfl) Tryd.ntmps71 (by simp) [(0, pt b0)] (by rfl) (by kernel_rfl) (fun a => ?_)
 refine sR <| wS_alloc (d := 2) (T := 58) (z := .agg #[.slice none 0 0, .slice none 0 0]) (by kernel_rfl) (by kernel_rfl) ?_
 intro b1 w1 G1 F1 hc1
 replace F1 : Cl w1 b1 58 [.slice none 0 0, .slice none 0 0] := F1
 replace F0_0 := F0_0.c hc1
 replace F0_1 := F0_1.c hc1
 replace F0 := F0.c hc1
 replace hB := hB.q hc1
 replace G1 := Nat.le_trans hZ G1
 replace hZ := hc1.z hZ
 refine wN <| sR <| wP 1 [(18, pt b0)] ?_
 obtain ⟨y1, hy1, hm⟩ := bindE hm
 refine sC 19 [pt b0] ent70 (c_impl_Channel_pieces_bimplChannel hy1 F0_0 F0_1 F0) ?_
 rintro _ w2 ⟨A1, cap1, fp1, fr1, rfl, F2, G2, hc2⟩
 have D1 : Dj [b1] (fp1 ++ fr1) := Dj.of (lt1 F1.lt) G2
 replace F0_0 := F0_0.c hc2
 replace F0_1 := F0_1.c hc2
 replace F0 := F0.c hc2
 replace F1 := F1.c hc2
 replace hB := hB.q hc2
 replace G2 := low_le hZ G2
 replace hZ := hc2.z hZ
 refine ⟨.slice A1 y1.length cap1, rfl, ?_⟩
 refine wP 1 [(20, pt b0)] ?_
 obtain ⟨y2, hy2, hm⟩ := bindE hm
 refine sC 21 [pt b0] ent39 (c_impl_Channel_nets_bimplChannel hy2 F0_0 F0_1 F0) ?_
 rintro _ w3 ⟨A2, cap2, fp2, rfl, F3, G3, hc3⟩
 have D2 : Dj [b1] fp2 := Dj.of (lt1 F1.lt) G3
 have D3 : Dj (fp1 ++ fr1) fp2 := Dj.of F2.low G3
 replace F0_0 := F0_0.c hc3
 replace F0_1 := F0_1.c hc3
 replace F0 := F0.c hc3
 replace F1 := F1.c hc3
 replace F2 := F2.c hc3
 replace hB := hB.q hc3
 replace G3 := low_le hZ G3
 replace hZ := hc3.z hZ
 refine ⟨.slice A2 y2.length cap2, rfl, ?_⟩
 refine wP 2 [(4, .slice A2 y2.length cap2), (3, .slice A1 y1.length cap1)] <| wN <| sR <| wP 2 [(23, ii (y1.length : Int)), (22, .slice A1 y1.length cap1)] ?_
 obtain ⟨y3, hy3, hm⟩ := bindE hm
 refine sC 24 [ii (y1.length : Int)] ent77 (c_impl_newOrder hy3) ?_
 rintro _ w4 ⟨A3, cap3, fp3, A4, cap4, fp4, rfl, F4, G4, F5, G5, D4, hc4⟩
 have D5 : Dj [b1] fp3 := Dj.of (lt1 F1.lt) G4
 have D6 : Dj (fp1 ++ fr1) fp3 := Dj.of F2.low G4
 have D7 : Dj fp2 fp3 := Dj.of F3.low G4
 have D8 : Dj [b1] fp4 := Dj.of (lt1 F1.lt) G5
 have D9 : Dj (fp1 ++ fr1) fp4 := Dj.of F2.low G5
 have D10 : Dj fp2 fp4 := Dj.of F3.low G5
 replace F0_0 := F0_0.c hc4
 replace F0_1 := F0_1.c hc4
 replace F0 := F0.c hc4
 replace F1 := F1.c hc4
 replace F2 := F2.c hc4
 replace F3 := F3.c hc4
 replace hB := hB.q hc4
 replace G4 := low_le hZ G4
 replace G5 := low_le hZ G5
 replace hZ := hc4.z hZ
 refine ⟨.agg #[.slice A3 y3.1.length cap3, .slice A4 y3.2.length cap4], rfl, ?_⟩
 refine wS_alloc (d := 5) (T := 58) (z := .agg #[.slice none 0 0, .slice none 0 0]) (by kernel_rfl) (by kernel_rfl) ?_
 intro b2 w5 G6 F6 hc5
 replace F6 : Cl w5 b2 58 [.slice none 0 0, .slice none 0 0] := F6
 have D11 : Dj [b1] [b2] := Dj.of (lt1 F1.lt) (low1 G6)
 have D12 : Dj (fp1 ++ fr1) [b2] := Dj.of F2.low (low1 G6)
 have D13 : Dj fp2 [b2] := Dj.of F3.low (low1 G6)
 have D14 : Dj fp3 [b2] := Dj.of F4.low (low1 G6)
 have D15 : Dj fp4 [b2] := Dj.of F5.low (low1 G6)
 replace F0_0 := F0_0.c hc5
 replace F0_1 := F0_1.c hc5
 replace F0 := F0.c hc5
 replace F1 := F1.c hc5
 replace F2 := F2.c hc5
 replace F3 := F3.c hc5
 replace F4 := F4.c hc5
 replace F5 := F5.c hc5
 replace hB := hB.q hc5
 replace G6 := Nat.le_trans hZ G6
 replace hZ := hc5.z hZ
 refine wS_store (T := 58) (g := b2) (o := 0) (ad := ⟨b2, 0, none⟩) (v := .agg #[.slice A3 y3.1.length cap3, .slice A4 y3.2.length cap4]) (vs := [.slice A3 y3.1.length cap3, .slice A4 y3.2.length cap4]) (by kernel_rfl) (by rfl) sz58 (by rfl) (by rfl) F6 (by simp only [List.length_cons, List.length_nil]; omega) ?_
 intro w6 F7 hc6
 replace F0_0 := F0_0.chg hc6 (Dj.of L0_0 (low1 G6))
 replace F0_1 := F0_1.chg hc6 (Dj.of L0_1 (low1 G6))
 replace F0 := F0.chg hc6 (dj1 (Dj.of L0 (low1 G6)))
 replace F1 := F1.chg hc6 (dj1 D11)
 replace F2 := F2.chg hc6 D12
 replace F3 := F3.chg hc6 D13
 replace F4 := F4.chg hc6 D14
 replace F5 := F5.chg hc6 D15
 replace hB := hB.inS hc6 (inLow (low1 G6))
 replace hZ := hc6.z hZ
 replace F7 : Cl w6 b2 58 [.slice A3 y3.1.length cap3, .slice A4 y3.2.length cap4] := F7
 clear F6
 refine wN <| cW_seq <| sR <| wP 3 [(27, ii 0), (26, ii (y1.length : Int)), (25, .slice A1 y1.length cap1)] <| wN ?_
 obtain ⟨r1, hr1, hm⟩ := bindE hm
 have hm1 := hm
 refine cW_cut (fun a' w' => ∃ l1 : List Int, l1 = r1 ∧ Fr 167 [(0, pt b0), (2, pt b1), (3, .slice A1 y1.length cap1), (4, .slice A2 y2.length cap2), (5, pt b2)] a' ∧ Sl 1 encI w' fp0_0 A0_0 l0_0 ∧ Sl 1 encI w' fp0_1 A0_1 l0_1 ∧ Cl w' b0 26 [.slice A0_0 l0_0.length cap0_0, .slice A0_1 l0_1.length cap0_1] ∧ Cl w' b1 58 [.slice none 0 0, .slice none 0 0] ∧ OwR 1 encI 24 2 w' fp1 fr1 A1 cap1 y1 ∧ Ow 1 encI 2 w' fp2 A2 cap2 y2 ∧ Ow 1 encI 3 w' fp3 A3 cap3 l1 ∧ Ow 1 encI 3 w' fp4 A4 cap4 y3.2 ∧ Cl w' b2 58 [.slice A3 l1.length cap3, .slice A4 y3.2.length cap4] ∧ Chg [] w0 w' ∧ w0.heap.size ≤ w'.heap.size) ?_ ?_
 ·refine cW_block ?_
  refine cW_loop _ (fun (s1 : Int × (List Int)) a' w' => ∃ x1 : Int, ∃ l2 : List Int, (x1, l2) = s1 ∧ Fr 167 [(0, pt b0), (2, pt b1), (3, .slice A1 y1.length cap1), (4, .slice A2 y2.length cap2), (5, pt b2), (25, .slice A1 y1.length cap1), (26, ii (y1.length : Int)), (27, ii x1)] a' ∧ Sl 1 encI w' fp0_0 A0_0 l0_0 ∧ Sl 1 encI w' fp0_1 A0_1 l0_1 ∧ Cl w' b0 26 [.slice A0_0 l0_0.length cap0_0, .slice A0_1 l0_1.length cap0_1] ∧ Cl w' b1 58 [.slice none 0 0, .slice none 0 0] ∧ OwR 1 encI 24 2 w' fp1 fr1 A1 cap1 y1 ∧ Ow 1 encI 2 w' fp2 A2 cap2 y2 ∧ Ow 1 encI 3 w' fp3 A3 cap3 l2 ∧ Ow 1 encI 3 w' fp4 A4 cap4 y3.2 ∧ Cl w' b2 58 [.slice A3 l2.length cap3, .slice A4 y3.2.length cap4] ∧ Chg [] w0 w' ∧ w0.heap.size ≤ w'.heap.size) hr1 (fun hst => ⟨0, y3.1, rfl, fO hst, F0_0, F0_1, F0, F1, F2, F3, F4, F5, F7, hB, hZ⟩) ?_
  rintro _ c1 a' w7 ⟨x1, l2, rfl, hF1, F8, F9, F10, F11, F12, F13, F14, F15, F16, hB, hZ⟩ hx1
  refine gO hF1 ?_
  have hm := hx1
  unfold m_impl_Channel_pieceOrder_bimplChannel_s3 at hm
  refine sR <| wP 1 [(28, .bool (decide (x1 < ((y1.length : Int)))))] <| wN <| cW_seq <| cC (decide (x1 < ((y1.length : Int)))) (fun hb1 => ?_) (fun hb1 => ?_)
  ·have hm := condT hb1 hm
   refine cW_skip <| eX_then <| cW_seq <| cW_block <| sR <| wP 1 [(29, ii x1)] ?_
   obtain ⟨x2, hx2, hm⟩ := bindE hm
   refine sI 30 A1 y1.length cap1 .i64 x1 sl28 ((F12.slr encI_ok).is hx2) ?_
   obtain ⟨A5, cap5, hc7, F17, K1⟩ := OwR.row F12 encI_ok hx2
   have G7 := low_inr G2
   have Dm1 := (F12.dj).symm
   refine sL 31 (elA A1 1 (x1) 0) (.slice A5 x2.length cap5) vt24 hc7 <| wP 2 [(7, .slice A5 x2.length cap5), (6, ii x1)] <| wN <| sR <| wP 3 [(34, ii 0), (33, ii (y1.length : Int)), (32, .slice A1 y1.length cap1)] <| wN ?_
   obtain ⟨r2, hr2, hm⟩ := bindE hm
   have hm2 := hm
   refine cW_cut (fun a' w' => ∃ l3 : List Int, l3 = r2 ∧ Fr 167 [(0, pt b0), (2, pt b1), (3, .slice A1 y1.length cap1), (4, .slice A2 y2.length cap2), (5, pt b2), (25, .slice A1 y1.length cap1), (26, ii (y1.length : Int)), (27, ii x1)] a' ∧ Sl 1 encI w' fp0_0 A0_0 l0_0 ∧ Sl 1 encI w' fp0_1 A0_1 l0_1 ∧ Cl w' b0 26 [.slice A0_0 l0_0.length cap0_0, .slice A0_1 l0_1.length cap0_1] ∧ Cl w' b1 58 [.slice none 0 0, .slice none 0 0] ∧ OwR 1 encI 24 2 w' fp1 fr1 A1 cap1 y1 ∧ Ow 1 encI 2 w' fp2 A2 cap2 y2 ∧ Ow 1 encI 3 w' fp3 A3 cap3 l3 ∧ Ow 1 encI 3 w' fp4 A4 cap4 y3.2 ∧ Cl w' b2 58 [.slice A3 l3.length cap3, .slice A4 y3.2.length cap4] ∧ Chg [] w0 w' ∧ w0.heap.size ≤ w'.heap.size) ?_ ?_
   ·refine cW_block ?_
    refine cW_loop _ (fun (s2 : Int × (List Int)) a' w' => ∃ x3 : Int, ∃ l4 : List Int, (x3, l4) = s2 ∧ Fr 167 [(0, pt b0), (2, pt b1), (3, .slice A1 y1.length cap1), (4, .slice A2 y2.length cap2), (5, pt b2), (6, ii x1), (7, .slice A5 x2.length cap5), (25, .slice A1 y1.length cap1), (26, ii (y1.length : Int)), (27, ii x1), (32, .slice A1 y1.length cap1), (33, ii (y1.length : Int)), (34, ii x3)] a' ∧ Sl 1 encI w' fp0_0 A0_0 l0_0 ∧ Sl 1 encI w' fp0_1 A0_1 l0_1 ∧ Cl w' b0 26 [.slice A0_0 l0_0.length cap0_0, .slice A0_1 l0_1.length cap0_1] ∧ Cl w' b1 58 [.slice none 0 0, .slice none 0 0] ∧ OwR 1 encI 24 2 w' fp1 fr1 A1 cap1 y1 ∧ Ow 1 encI 2 w' fp2 A2 cap2 y2 ∧ Ow 1 encI 3 w' fp3 A3 cap3 l4 ∧ Ow 1 encI 3 w' fp4 A4 cap4 y3.2 ∧ Cl w' b2 58 [.slice A3 l4.length cap3, .slice A4 y3.2.length cap4] ∧ Sl 1 encI w' fr1 A5 x2 ∧ Chg [] w0 w' ∧ w0.heap.size ≤ w'.heap.size) hr2 (fun hst => ⟨0, l2, rfl, fO hst, F8, F9, F10, F11, F12, F13, F14, F15, F16, F17, hB, hZ⟩) ?_
    rintro _ c2 a' w8 ⟨x3, l4, rfl, hF2, F18, F19, F20, F21, F22, F23, F24, F25, F26, F27, hB, hZ⟩ hx3
    refine gO hF2 ?_
    have hm := hx3
    unfold m_impl_Channel_pieceOrder_bimplChannel_s4 at hm
    refine sR <| wP 1 [(35, .bool (decide (x3 < ((y1.length : Int)))))] <| wN <| cW_seq <| cC (decide (x3 < ((y1.length : Int)))) (fun hb2 => ?_) (fun hb2 => ?_)
    ·have hm := condT hb2 hm
     refine cW_skip <| eX_then <| cW_seq <| cW_block ?_
     obtain ⟨s3, hs1, hm⟩ := bindE hm
     refine cW_cut (fun a' w' => ∃ l5 : List Int, l5 = s3 ∧ Fr 167 [(0, pt b0), (2, pt b1), (3, .slice A1 y1.length cap1), (4, .slice A2 y2.length cap2), (5, pt b2), (6, ii x1), (7, .slice A5 x2.length cap5), (25, .slice A1 y1.length cap1), (26, ii (y1.length : Int)), (27, ii x1), (32, .slice A1 y1.length cap1), (33, ii (y1.length : Int)), (34, ii x3)] a' ∧ Sl 1 encI w' fp0_0 A0_0 l0_0 ∧ Sl 1 encI w' fp0_1 A0_1 l0_1 ∧ Cl w' b0 26 [.slice A0_0 l0_0.length cap0_0, .slice A0_1 l0_1.length cap0_1] ∧ Cl w' b1 58 [.slice none 0 0, .slice none 0 0] ∧ OwR 1 encI 24 2 w' fp1 fr1 A1 cap1 y1 ∧ Ow 1 encI 2 w' fp2 A2 cap2 y2 ∧ Ow 1 encI 3 w' fp3 A3 cap3 l5 ∧ Ow 1 encI 3 w' fp4 A4 cap4 y3.2 ∧ Cl w' b2 58 [.slice A3 l5.length cap3, .slice A4 y3.2.length cap4] ∧ Sl 1 encI w' fr1 A5 x2 ∧ Chg [] w0 w' ∧ w0.heap.size ≤ w'.heap.size) ?_ ?_
     ·have hm := hs1
      refine sR <| wP 1 [(36, ii x3)] ?_
      obtain ⟨x4, hx4, hm⟩ := bindE hm
      refine sI 37 A1 y1.length cap1 .i64 x3 sl28 ((F22.slr encI_ok).is hx4) ?_
      obtain ⟨A6, cap6, hc8, F28, K2⟩ := OwR.row F22 encI_ok hx4
      have G8 := low_inr G2
      have Dm2 := (F22.dj).symm
      refine sL 38 (elA A1 1 (x3) 0) (.slice A6 x4.length cap6) vt24 hc8 <| wP 2 [(9, .slice A6 x4.length cap6), (8, ii x3)] <| wN <| cW_seq <| cW_drawnTail [] 23 (by kernel_rfl) (by kernel_rfl) (fun w9 hc9 => ?_)
      replace F18 := F18.c hc9
      replace F19 := F19.c hc9
      replace F20 := F20.c hc9
      replace F21 := F21.c hc9
      replace F22 := F22.c hc9
      replace F23 := F23.c hc9
      replace F24 := F24.c hc9
      replace F25 := F25.c hc9
      replace F26 := F26.c hc9
      replace F27 := F27.c hc9
      replace F28 := F28.c hc9
      replace hB := hB.q hc9
      replace hZ := hc9.z hZ
      have hS := Chg.refl [] w9
      have Z1 := F18
      have Z2 := F19
      have Z3 := F20
      have Z4 := F21
      have Z5 := F22
      have Z6 := F23
      have Z7 := F24
      have Z8 := F25
      have Z9 := F26
      have Z10 := F27
      have Z11 := F28
      refine hT [0] [(39, .slice A5 x2.length cap5)] ?_
      obtain ⟨x5, hx5, hm⟩ := bindE hm
      refine hI 1 40 A5 x2.length cap5 .i64 0 sl24 (F27.is hx5) <| hL 2 41 (elA A5 1 (0) 0) (ii x5) vt2 (fun W hW => Sl.cell (Z10.c hW) hx5 0 (by rfl)) ?_
      refine hT [3] [(42, .slice A6 x4.length cap6)] ?_
      obtain ⟨x6, hx6, hm⟩ := bindE hm
      refine hI 4 43 A6 x4.length cap6 .i64 0 sl24 (F28.is hx6) <| hL 5 44 (elA A6 1 (0) 0) (ii x6) vt2 (fun W hW => Sl.cell (Z11.c hW) hx6 0 (by rfl)) ?_
      refine hT [6, 7] [(46, .bool (x5 != x6)), (45, .bool (x5 != x6))] <| wH_bool (x5 != x6) (fun hb3 => ?_) (fun hb3 => ?_)
      ·have hm := condT hb3 hm
       rewrite [hb3]
       refine hT [8] [(47, .slice A5 x2.length cap5)] ?_
       obtain ⟨x7, hx7, hm⟩ := bindE hm
       refine hI 9 48 A5 x2.length cap5 .i64 1 sl24 (F27.is hx7) <| hL 10 49 (elA A5 1 (1) 0) (ii x7) vt2 (fun W hW => Sl.cell (Z10.c hW) hx7 0 (by rfl)) ?_
       refine hT [11] [(50, .slice A6 x4.length cap6)] ?_
       obtain ⟨x8, hx8, hm⟩ := bindE hm
       refine hI 12 51 A6 x4.length cap6 .i64 2 sl24 (F28.is hx8) <| hL 13 52 (elA A6 1 (2) 0) (ii x8) vt2 (fun W hW => Sl.cell (Z11.c hW) hx8 0 (by rfl)) ?_
       refine hT [14, 15, 16] [(55, .bool (decide (x7 ≤ x8))), (54, .bool (decide (x7 ≤ x8))), (53, .bool (decide (x7 ≤ x8)))] <| wH_bool (decide (x7 ≤ x8)) (fun hb4 => ?_) (fun hb4 => ?_)
       ·have hm := condT hb4 hm
        rewrite [hb4]
        refine hT [17] [(56, .slice A6 x4.length cap6)] ?_
        obtain ⟨x9, hx9, hm⟩ := bindE hm
        refine hI 18 57 A6 x4.length cap6 .i64 1 sl24 (F28.is hx9) <| hL 19 58 (elA A6 1 (1) 0) (ii x9) vt2 (fun W hW => Sl.cell (Z11.c hW) hx9 0 (by rfl)) ?_
        refine hT [20] [(59, .slice A5 x2.length cap5)] ?_
        obtain ⟨x10, hx10, hm⟩ := bindE hm
        refine hI 21 60 A5 x2.length cap5 .i64 2 sl24 (F27.is hx10) <| hL 22 61 (elA A5 1 (2) 0) (ii x10) vt2 (fun W hW => Sl.cell (Z10.c hW) hx10 0 (by rfl)) ?_
        refine wD <| eX_tail <| wP 2 [(63, .bool (decide (x9 ≤ x10))), (62, .bool (decide (x9 ≤ x10)))] <| wN <| cP [(0, pt b0), (2, pt b1), (3, .slice A1 y1.length cap1), (4, .slice A2 y2.length cap2), (5, pt b2), (6, ii x1), (7, .slice A5 x2.length cap5), (8, ii x3), (25, .slice A1 y1.length cap1), (26, ii (y1.length : Int)), (27, ii x1), (32, .slice A1 y1.length cap1), (33, ii (y1.length : Int)), (34, ii x3), (63, .bool (decide (x9 ≤ x10)))] (fun a1 => ?_)
        refine cC (decide (x9 ≤ x10)) (fun hb5 => ?_) (fun hb5 => ?_)
        ·have hm := condT hb5 hm
         refine cW_drawnTail [] 7 (by kernel_rfl) (by kernel_rfl) (fun w10 hc10 => ?_)
         replace F18 := F18.c hc10
         replace F19 := F19.c hc10
         replace F20 := F20.c hc10
         replace F21 := F21.c hc10
         replace F22 := F22.c hc10
         replace F23 := F23.c hc10
         replace F24 := F24.c hc10
         replace F25 := F25.c hc10
         replace F26 := F26.c hc10
         replace F27 := F27.c hc10
         replace F28 := F28.c hc10
         replace hB := hB.q hc10
         replace hZ := hc10.z hZ
         have hS := Chg.refl [] w10
         have Z12 := F18
         have Z13 := F19
         have Z14 := F20
         have Z15 := F21
         have Z16 := F22
         have Z17 := F23
         have Z18 := F24
         have Z19 := F25
         have Z20 := F26
         have Z21 := F27
         have Z22 := F28
         refine hT [0] [(64, pt b2)] <| hL 1 65 ⟨b2, 0, none⟩ (.slice A3 l4.length cap3) vt56 (fun W hW => (Z20.c hW).cell 0) ?_
         refine hT [2] [(66, ii x1)] ?_
         obtain ⟨x11, hx11, hm⟩ := bindE hm
         refine hI 3 67 A3 l4.length cap3 .i64 x1 sl56 ((F24.sl encI_ok).is hx11) <| hL 4 68 (elA A3 1 (x1) 0) (ii x11) vt3 (fun W hW => Sl.cell ((Z18.c hW).sl encI_ok) hx11 0 (by rfl)) ?_
         refine hT [5] [(69, ii x3)] ?_
         obtain ⟨u1, hu1, hm⟩ := bindE hm
         refine wH_shl (i := 6) (d := 70) (x := 1) (y := x3) (yk := .i64) (by kernel_rfl) (qT (qT (qB (qT (qL (qB (qT (qB (qT (qL (qB (qT (qT qZ))))))))))))) (by kernel_rfl) (by kernel_rfl) (p0E hu1) <| wD <| eX_tail <| wP 1 [(71, ii (orI x11 (shlI 1 x3)))] ?_
         obtain ⟨x12, hx12, hm⟩ := bindE hm
         refine sI 72 A3 l4.length cap3 .i64 x1 sl56 ((F24.sl encI_ok).is hx12) ?_
         refine wS_storeEl (x := x12) (orI x11 (shlI 1 x3)) (T := 3) (U := 3) (cap := cap3) (j := 0) (A := A3) (v := ii (orI x11 (shlI 1 x3))) (vs := [ii (orI x11 (shlI 1 x3))]) (m := x1) (by kernel_rfl) (by rfl) sz3 (by rfl) encI_ok F24 hx12 (by simp only [List.length_cons, List.length_nil]; omega) (by rfl) ?_
         intro w11 F29 hc11
         replace F18 := F18.chg hc11 (Dj.of L0_0 G4)
         replace F19 := F19.chg hc11 (Dj.of L0_1 G4)
         replace F20 := F20.chg hc11 (dj1 (Dj.of L0 G4))
         replace F21 := F21.chg hc11 (dj1 D5)
         replace F22 := F22.chg hc11 D6
         replace F23 := F23.chg hc11 D7
         replace F25 := F25.chg hc11 (D4).symm
         replace F26 := F26.chg hc11 (dj1 (D14).symm)
         replace F27 := F27.chg hc11 ((Dj.inr (D6).symm)).symm
         replace F28 := F28.chg hc11 ((Dj.inr (D6).symm)).symm
         replace hB := hB.inS hc11 (inLow G4)
         replace hZ := hc11.z hZ
         clear F24
         rewrite [show l4.length = (l4.set (Int.toNat x1) (orI x11 (shlI 1 x3))).length from (List.length_set ..).symm]
         rewrite [show l4.length = (l4.set (Int.toNat x1) (orI x11 (shlI 1 x3))).length from (List.length_set ..).symm] at F26
         refine wE ?_
         obtain rfl := someE (x := l4.set (Int.toNat x1) (orI x11 (shlI 1 x3))) hm
         exact eX_J (fun hst => ⟨l4.set (Int.toNat x1) (orI x11 (shlI 1 x3)), rfl, fO hst, F18, F19, F20, F21, F22, F23, F29, F25, F26, F27, hB, hZ⟩)
        have hm := condF hb5 hm
        refine cW_skip ?_
        obtain rfl := someE (x := l4) hm
        exact eX_J (fun hst => ⟨l4, rfl, fO hst, F18, F19, F20, F21, F22, F23, F24, F25, F26, F27, hB, hZ⟩)
       have hm := condF hb4 hm
       rewrite [hb4]
       refine hT [17, 18, 19, 20, 21, 22] [(61, undef), (60, undef), (59, undef), (58, undef), (57, undef), (56, undef)] <| wD <| eX_tail <| wP 2 [(63, .bool (false)), (62, undef)] <| wN <| cP [(0, pt b0), (2, pt b1), (3, .slice A1 y1.length cap1), (4, .slice A2 y2.length cap2), (5, pt b2), (6, ii x1), (7, .slice A5 x2.length cap5), (8, ii x3), (25, .slice A1 y1.length cap1), (26, ii (y1.length : Int)), (27, ii x1), (32, .slice A1 y1.length cap1), (33, ii (y1.length : Int)), (34, ii x3), (63, .bool (false))] (fun a2 => ?_)
       refine cCf <| cW_skip ?_
       obtain rfl := someE (x := l4) hm
       exact eX_J (fun hst => ⟨l4, rfl, fO hst, F18, F19, F20, F21, F22, F23, F24, F25, F26, F27, hB, hZ⟩)
      have hm := condF hb3 hm
      rewrite [hb3]
      refine hT [8, 9, 10, 11, 12, 13, 14, 15, 16, 17, 18, 19, 20, 21, 22] [(61, undef), (60, undef), (59, undef), (58, undef), (57, undef), (56, undef), (55, .bool (false)), (54, .bool (false)), (53, undef), (52, undef), (51, undef), (50, undef), (49, undef), (48, undef), (47, undef)] <| wD <| eX_tail <| wP 2 [(63, .bool (false)), (62, undef)] <| wN <| cP [(0, pt b0), (2, pt b1), (3, .slice A1 y1.length cap1), (4, .slice A2 y2.length cap2), (5, pt b2), (6, ii x1), (7, .slice A5 x2.length cap5), (8, ii x3), (25, .slice A1 y1.length cap1), (26, ii (y1.length : Int)), (27, ii x1), (32, .slice A1 y1.length cap1), (33, ii (y1.length : Int)), (34, ii x3), (63, .bool (false))] (fun a3 => ?_)
      refine cCf <| cW_skip ?_
      obtain rfl := someE (x := l4) hm
      exact eX_J (fun hst => ⟨l4, rfl, fO hst, F18, F19, F20, F21, F22, F23, F24, F25, F26, F27, hB, hZ⟩)
     rintro a' w12 ⟨l5, hJ, hF3, F30, F31, F32, F33, F34, F35, F36, F37, F38, F39, hB, hZ⟩
     subst hJ
     refine gX hF3 <| eX_block <| eX_then <| cW_region <| wP 2 [(34, ii (wr (x3 + 1))), (73, ii (wr (x3 + 1)))] <| wE ?_
     obtain rfl := someE (x := (Ctl.next ((wr (x3 + 1), l5)))) hm
     exact eX_next hx3 (fun hst => ⟨wr (x3 + 1), l5, rfl, fO hst, F30, F31, F32, F33, F34, F35, F36, F37, F38, F39, hB, hZ⟩)
    have hm := condF hb2 hm
    refine cW_exit <| eX_then_exit ?_
    obtain rfl := someE (x := Ctl.out l4) hm
    refine eX_outX hx3 (fun hr3 => ?_)
    replace hr3 := hr3.symm
    subst hr3
    refine eX_block_hit ?_
    exact eX_J (fun hst => ⟨l4, rfl, fO hst, F18, F19, F20, F21, F22, F23, F24, F25, F26, hB, hZ⟩)
   rintro a' w13 ⟨l3, hJ, hF4, F40, F41, F42, F43, F44, F45, F46, F47, F48, hB, hZ⟩
   subst hJ
   refine gX hF4 <| eX_block <| eX_then <| cW_region <| wP 2 [(27, ii (wr (x1 + 1))), (74, ii (wr (x1 + 1)))] <| wE ?_
   obtain rfl := someE (x := (Ctl.next ((wr (x1 + 1), l3)))) hm
   exact eX_next hx1 (fun hst => ⟨wr (x1 + 1), l3, rfl, fO hst, F40, F41, F42, F43, F44, F45, F46, F47, F48, hB, hZ⟩)
  have hm := condF hb1 hm
  refine cW_exit <| eX_then_exit ?_
  obtain rfl := someE (x := Ctl.out l2) hm
  refine eX_outX hx1 (fun hr4 => ?_)
  replace hr4 := hr4.symm
  subst hr4
  refine eX_block_hit ?_
  exact eX_J (fun hst => ⟨l2, rfl, fO hst, F8, F9, F10, F11, F12, F13, F14, F15, F16, hB, hZ⟩)
 rintro a' w14 ⟨l1, hJ, hF5, F49, F50, F51, F52, F53, F54, F55, F56, F57, hB, hZ⟩
 subst hJ
 refine gX hF5 <| eX_then <| cW_seq <| sR <| wP 3 [(77, pt b0), (76, pt b0), (75, pt b0)] <| sL 78 ⟨b0, 0, none⟩ (.slice A0_0 l0_0.length cap0_0) vt24 ((F51).cell 0) <| wP 2 [(80, ii 0), (79, ii (l0_0.length : Int))] <| wN ?_
 obtain ⟨r3, hr5, hm⟩ := bindE hm
 have hm3 := hm
 refine cW_cut (fun a' w' => ∃ l6 : List Int, l6 = r3 ∧ Fr 167 [(2, pt b1), (5, pt b2)] a' ∧ Cl w' b1 58 [.slice none 0 0, .slice none 0 0] ∧ Ow 1 encI 3 w' fp3 A3 cap3 l1 ∧ Ow 1 encI 3 w' fp4 A4 cap4 l6 ∧ Cl w' b2 58 [.slice A3 l1.length cap3, .slice A4 l6.length cap4] ∧ Chg [] w0 w' ∧ w0.heap.size ≤ w'.heap.size) ?_ ?_
 ·refine cW_block ?_
  refine cW_loop _ (fun (s4 : Int × (List Int)) a' w' => ∃ x13 : Int, ∃ l7 : List Int, (x13, l7) = s4 ∧ Fr 167 [(0, pt b0), (2, pt b1), (3, .slice A1 y1.length cap1), (4, .slice A2 y2.length cap2), (5, pt b2), (78, .slice A0_0 l0_0.length cap0_0), (79, ii (l0_0.length : Int)), (80, ii x13)] a' ∧ Sl 1 encI w' fp0_0 A0_0 l0_0 ∧ Sl 1 encI w' fp0_1 A0_1 l0_1 ∧ Cl w' b0 26 [.slice A0_0 l0_0.length cap0_0, .slice A0_1 l0_1.length cap0_1] ∧ Cl w' b1 58 [.slice none 0 0, .slice none 0 0] ∧ OwR 1 encI 24 2 w' fp1 fr1 A1 cap1 y1 ∧ Ow 1 encI 2 w' fp2 A2 cap2 y2 ∧ Ow 1 encI 3 w' fp3 A3 cap3 l1 ∧ Ow 1 encI 3 w' fp4 A4 cap4 l7 ∧ Cl w' b2 58 [.slice A3 l1.length cap3, .slice A4 l7.length cap4] ∧ Chg [] w0 w' ∧ w0.heap.size ≤ w'.heap.size) hr5 (fun hst => ⟨0, y3.2, rfl, fO hst, F49, F50, F51, F52, F53, F54, F55, F56, F57, hB, hZ⟩) ?_
  rintro _ c3 a' w15 ⟨x13, l7, rfl, hF6, F58, F59, F60, F61, F62, F63, F64, F65, F66, hB, hZ⟩ hx13
  refine gO hF6 ?_
  have hm := hx13
  unfold m_impl_Channel_pieceOrder_bimplChannel_s13 at hm
  refine sR <| wP 1 [(81, .bool (decide (x13 < ((l0_0.length : Int)))))] <| wN <| cW_seq <| cC (decide (x13 < ((l0_0.length : Int)))) (fun hb6 => ?_) (fun hb6 => ?_)
  ·have hm := condT hb6 hm
   refine cW_skip <| eX_then <| cW_seq <| cW_block <| sR <| wP 1 [(82, ii x13)] ?_
   obtain ⟨x14, hx14, hm⟩ := bindE hm
   refine sI 83 A0_0 l0_0.length cap0_0 .i64 x13 sl24 (F58.is hx14) <| sL 84 (elA A0_0 1 (x13) 0) (ii x14) vt2 (Sl.cell F58 hx14 0 (by rfl)) <| wP 2 [(11, ii x14), (10, ii x13)] <| wN <| sR <| wP 3 [(87, .pointer (some ⟨b0, 1, none⟩)), (86, pt b0), (85, pt b0)] <| sL 88 ⟨b0, 1, none⟩ (.slice A0_1 l0_1.length cap0_1) vt24 ((F60).cell 1) <| wP 1 [(89, ii x13)] ?_
   obtain ⟨x15, hx15, hm⟩ := bindE hm
   refine sI 90 A0_1 l0_1.length cap0_1 .i64 x13 sl24 (F59.is hx15) <| sL 91 (elA A0_1 1 (x13) 0) (ii x15) vt2 (Sl.cell F59 hx15 0 (by rfl)) <| wP 3 [(13, ii x13), (12, ii x15), (92, ii x13)] <| wN <| cP [(0, pt b0), (2, pt b1), (3, .slice A1 y1.length cap1), (4, .slice A2 y2.length cap2), (5, pt b2), (11, ii x14), (12, ii x15), (13, ii x13), (78, .slice A0_0 l0_0.length cap0_0), (79, ii (l0_0.length : Int)), (80, ii x13)] (fun a4 => ?_)
   refine cW_seq <| sR <| wP 4 [(96, .bool (x14 == x15)), (95, .bool (x14 == x15)), (94, ii x15), (93, ii x14)] <| wS_bool (x14 == x15) (fun hb7 => ?_) (fun hb7 => ?_)
   ·have hm := condT hb7 hm
    rewrite [hb7]
    refine wP 11 [(107, .bool (true)), (106, undef), (105, undef), (104, undef), (103, undef), (102, .bool (true)), (101, .bool (true)), (100, undef), (99, undef), (98, undef), (97, undef)] <| wN <| cP [(0, pt b0), (2, pt b1), (3, .slice A1 y1.length cap1), (4, .slice A2 y2.length cap2), (5, pt b2), (11, ii x14), (12, ii x15), (13, ii x13), (78, .slice A0_0 l0_0.length cap0_0), (79, ii (l0_0.length : Int)), (80, ii x13), (107, .bool (true))] (fun a5 => ?_)
    refine cCt <| cW_exit <| eX_then_exit <| eX_block_hit <| eX_then <| cW_region <| wP 2 [(80, ii (wr (x13 + 1))), (165, ii (wr (x13 + 1)))] <| wE ?_
    obtain rfl := someE (x := (Ctl.next ((wr (x13 + 1), l7)))) hm
    exact eX_next hx13 (fun hst => ⟨wr (x13 + 1), l7, rfl, fO hst, F58, F59, F60, F61, F62, F63, F64, F65, F66, hB, hZ⟩)
   have hm := condF hb7 hm
   rewrite [hb7]
   refine wP 2 [(98, ii x14), (97, .slice A2 y2.length cap2)] ?_
   obtain ⟨y4, hy4, hm⟩ := bindE hm
   refine sC 99 [.slice A2 y2.length cap2, ii x14] ent86 (c_slices_Contains_int64_int64 hy4 (F63.sl encI_ok)) ?_
   rintro _ w16 ⟨rfl, hc12⟩
   replace F58 := F58.c hc12
   replace F59 := F59.c hc12
   replace F60 := F60.c hc12
   replace F61 := F61.c hc12
   replace F62 := F62.c hc12
   replace F63 := F63.c hc12
   replace F64 := F64.c hc12
   replace F65 := F65.c hc12
   replace F66 := F66.c hc12
   replace hB := hB.q hc12
   replace hZ := hc12.z hZ
   refine ⟨.bool (y4), rfl, ?_⟩
   refine wP 3 [(102, .bool (!y4)), (101, .bool (!y4)), (100, .bool (!y4))] <| wS_bool (!y4) (fun hb8 => ?_) (fun hb8 => ?_)
   ·have hm := condT hb8 hm
    rewrite [hb8]
    refine wP 5 [(107, .bool (true)), (106, undef), (105, undef), (104, undef), (103, undef)] <| wN <| cP [(0, pt b0), (2, pt b1), (3, .slice A1 y1.length cap1), (4, .slice A2 y2.length cap2), (5, pt b2), (11, ii x14), (12, ii x15), (13, ii x13), (78, .slice A0_0 l0_0.length cap0_0), (79, ii (l0_0.length : Int)), (80, ii x13), (107, .bool (true))] (fun a6 => ?_)
    refine cCt <| cW_exit <| eX_then_exit <| eX_block_hit <| eX_then <| cW_region <| wP 2 [(80, ii (wr (x13 + 1))), (165, ii (wr (x13 + 1)))] <| wE ?_
    obtain rfl := someE (x := (Ctl.next ((wr (x13 + 1), l7)))) hm
    exact eX_next hx13 (fun hst => ⟨wr (x13 + 1), l7, rfl, fO hst, F58, F59, F60, F61, F62, F63, F64, F65, F66, hB, hZ⟩)
   have hm := condF hb8 hm
   rewrite [hb8]
   refine wP 2 [(104, ii x15), (103, .slice A2 y2.length cap2)] ?_
   obtain ⟨y5, hy5, hm⟩ := bindE hm
   refine sC 105 [.slice A2 y2.length cap2, ii x15] ent86 (c_slices_Contains_int64_int64 hy5 (F63.sl encI_ok)) ?_
   rintro _ w17 ⟨rfl, hc13⟩
   replace F58 := F58.c hc13
   replace F59 := F59.c hc13
   replace F60 := F60.c hc13
   replace F61 := F61.c hc13
   replace F62 := F62.c hc13
   replace F63 := F63.c hc13
   replace F64 := F64.c hc13
   replace F65 := F65.c hc13
   replace F66 := F66.c hc13
   replace hB := hB.q hc13
   replace hZ := hc13.z hZ
   refine ⟨.bool (y5), rfl, ?_⟩
   refine wP 2 [(107, .bool (!y5)), (106, .bool (!y5))] <| wN <| cP [(0, pt b0), (2, pt b1), (3, .slice A1 y1.length cap1), (4, .slice A2 y2.length cap2), (5, pt b2), (11, ii x14), (12, ii x15), (13, ii x13), (78, .slice A0_0 l0_0.length cap0_0), (79, ii (l0_0.length : Int)), (80, ii x13), (107, .bool (!y5))] (fun a7 => ?_)
   refine cC (!y5) (fun hb9 => ?_) (fun hb9 => ?_)
   ·have hm := condT hb9 hm
    refine cW_exit <| eX_then_exit <| eX_block_hit <| eX_then <| cW_region <| wP 2 [(80, ii (wr (x13 + 1))), (165, ii (wr (x13 + 1)))] <| wE ?_
    obtain rfl := someE (x := (Ctl.next ((wr (x13 + 1), l7)))) hm
    exact eX_next hx13 (fun hst => ⟨wr (x13 + 1), l7, rfl, fO hst, F58, F59, F60, F61, F62, F63, F64, F65, F66, hB, hZ⟩)
   have hm := condF hb9 hm
   refine cW_skip <| eX_then <| sR <| wP 3 [(110, ii 0), (109, ii (y1.length : Int)), (108, .slice A1 y1.length cap1)] <| wN ?_
   obtain ⟨r4, hr6, hm⟩ := bindE hm
   have hm4 := hm
   refine cW_cut (fun a' w' => ∃ l8 : List Int, l8 = r4 ∧ Fr 167 [(0, pt b0), (2, pt b1), (3, .slice A1 y1.length cap1), (4, .slice A2 y2.length cap2), (5, pt b2), (78, .slice A0_0 l0_0.length cap0_0), (79, ii (l0_0.length : Int)), (80, ii x13)] a' ∧ Sl 1 encI w' fp0_0 A0_0 l0_0 ∧ Sl 1 encI w' fp0_1 A0_1 l0_1 ∧ Cl w' b0 26 [.slice A0_0 l0_0.length cap0_0, .slice A0_1 l0_1.length cap0_1] ∧ Cl w' b1 58 [.slice none 0 0, .slice none 0 0] ∧ OwR 1 encI 24 2 w' fp1 fr1 A1 cap1 y1 ∧ Ow 1 encI 2 w' fp2 A2 cap2 y2 ∧ Ow 1 encI 3 w' fp3 A3 cap3 l1 ∧ Ow 1 encI 3 w' fp4 A4 cap4 l8 ∧ Cl w' b2 58 [.slice A3 l1.length cap3, .slice A4 l8.length cap4] ∧ Chg [] w0 w' ∧ w0.heap.size ≤ w'.heap.size) ?_ ?_
   ·refine cW_block ?_
    refine cW_loop _ (fun (s5 : Int × (List Int)) a' w' => ∃ x16 : Int, ∃ l9 : List Int, (x16, l9) = s5 ∧ Fr 167 [(0, pt b0), (2, pt b1), (3, .slice A1 y1.length cap1), (4, .slice A2 y2.length cap2), (5, pt b2), (11, ii x14), (12, ii x15), (13, ii x13), (78, .slice A0_0 l0_0.length cap0_0), (79, ii (l0_0.length : Int)), (80, ii x13), (108, .slice A1 y1.length cap1), (109, ii (y1.length : Int)), (110, ii x16)] a' ∧ Sl 1 encI w' fp0_0 A0_0 l0_0 ∧ Sl 1 encI w' fp0_1 A0_1 l0_1 ∧ Cl w' b0 26 [.slice A0_0 l0_0.length cap0_0, .slice A0_1 l0_1.length cap0_1] ∧ Cl w' b1 58 [.slice none 0 0, .slice none 0 0] ∧ OwR 1 encI 24 2 w' fp1 fr1 A1 cap1 y1 ∧ Ow 1 encI 2 w' fp2 A2 cap2 y2 ∧ Ow 1 encI 3 w' fp3 A3 cap3 l1 ∧ Ow 1 encI 3 w' fp4 A4 cap4 l9 ∧ Cl w' b2 58 [.slice A3 l1.length cap3, .slice A4 l9.length cap4] ∧ Chg [] w0 w' ∧ w0.heap.size ≤ w'.heap.size) hr6 (fun hst => ⟨0, l7, rfl, fO hst, F58, F59, F60, F61, F62, F63, F64, F65, F66, hB, hZ⟩) ?_
    rintro _ c4 a' w18 ⟨x16, l9, rfl, hF7, F67, F68, F69, F70, F71, F72, F73, F74, F75, hB, hZ⟩ hx16
    refine gO hF7 ?_
    have hm := hx16
    unfold m_impl_Channel_pieceOrder_bimplChannel_s16 at hm
    refine sR <| wP 1 [(111, .bool (decide (x16 < ((y1.length : Int)))))] <| wN <| cW_seq <| cC (decide (x16 < ((y1.length : Int)))) (fun hb10 => ?_) (fun hb10 => ?_)
    ·have hm := condT hb10 hm
     refine cW_skip <| eX_then <| cW_seq <| cW_block <| sR <| wP 1 [(112, ii x16)] ?_
     obtain ⟨x17, hx17, hm⟩ := bindE hm
     refine sI 113 A1 y1.length cap1 .i64 x16 sl28 ((F71.slr encI_ok).is hx17) ?_
     obtain ⟨A7, cap7, hc14, F76, K3⟩ := OwR.row F71 encI_ok hx17
     have G9 := low_inr G2
     have Dm3 := (F71.dj).symm
     refine sL 114 (elA A1 1 (x16) 0) (.slice A7 x17.length cap7) vt24 hc14 <| wP 2 [(15, .slice A7 x17.length cap7), (14, ii x16)] <| wN <| sR <| wP 3 [(117, ii 0), (116, ii (y1.length : Int)), (115, .slice A1 y1.length cap1)] <| wN ?_
     obtain ⟨r5, hr7, hm⟩ := bindE hm
     have hm5 := hm
     refine cW_cut (fun a' w' => ∃ l10 : List Int, l10 = r5 ∧ Fr 167 [(0, pt b0), (2, pt b1), (3, .slice A1 y1.length cap1), (4, .slice A2 y2.length cap2), (5, pt b2), (11, ii x14), (12, ii x15), (13, ii x13), (78, .slice A0_0 l0_0.length cap0_0), (79, ii (l0_0.length : Int)), (80, ii x13), (108, .slice A1 y1.length cap1), (109, ii (y1.length : Int)), (110, ii x16)] a' ∧ Sl 1 encI w' fp0_0 A0_0 l0_0 ∧ Sl 1 encI w' fp0_1 A0_1 l0_1 ∧ Cl w' b0 26 [.slice A0_0 l0_0.length cap0_0, .slice A0_1 l0_1.length cap0_1] ∧ Cl w' b1 58 [.slice none 0 0, .slice none 0 0] ∧ OwR 1 encI 24 2 w' fp1 fr1 A1 cap1 y1 ∧ Ow 1 encI 2 w' fp2 A2 cap2 y2 ∧ Ow 1 encI 3 w' fp3 A3 cap3 l1 ∧ Ow 1 encI 3 w' fp4 A4 cap4 l10 ∧ Cl w' b2 58 [.slice A3 l1.length cap3, .slice A4 l10.length cap4] ∧ Chg [] w0 w' ∧ w0.heap.size ≤ w'.heap.size) ?_ ?_
     ·refine cW_block ?_
      refine cW_loop _ (fun (s6 : Int × (List Int)) a' w' => ∃ x18 : Int, ∃ l11 : List Int, (x18, l11) = s6 ∧ Fr 167 [(0, pt b0), (2, pt b1), (3, .slice A1 y1.length cap1), (4, .slice A2 y2.length cap2), (5, pt b2), (11, ii x14), (12, ii x15), (13, ii x13), (14, ii x16), (15, .slice A7 x17.length cap7), (78, .slice A0_0 l0_0.length cap0_0), (79, ii (l0_0.length : Int)), (80, ii x13), (108, .slice A1 y1.length cap1), (109, ii (y1.length : Int)), (110, ii x16), (115, .slice A1 y1.length cap1), (116, ii (y1.length : Int)), (117, ii x18)] a' ∧ Sl 1 encI w' fp0_0 A0_0 l0_0 ∧ Sl 1 encI w' fp0_1 A0_1 l0_1 ∧ Cl w' b0 26 [.slice A0_0 l0_0.length cap0_0, .slice A0_1 l0_1.length cap0_1] ∧ Cl w' b1 58 [.slice none 0 0, .slice none 0 0] ∧ OwR 1 encI 24 2 w' fp1 fr1 A1 cap1 y1 ∧ Ow 1 encI 2 w' fp2 A2 cap2 y2 ∧ Ow 1 encI 3 w' fp3 A3 cap3 l1 ∧ Ow 1 encI 3 w' fp4 A4 cap4 l11 ∧ Cl w' b2 58 [.slice A3 l1.length cap3, .slice A4 l11.length cap4] ∧ Sl 1 encI w' fr1 A7 x17 ∧ Chg [] w0 w' ∧ w0.heap.size ≤ w'.heap.size) hr7 (fun hst => ⟨0, l9, rfl, fO hst, F67, F68, F69, F70, F71, F72, F73, F74, F75, F76, hB, hZ⟩) ?_
      rintro _ c5 a' w19 ⟨x18, l11, rfl, hF8, F77, F78, F79, F80, F81, F82, F83, F84, F85, F86, hB, hZ⟩ hx18
      refine gO hF8 ?_
      have hm := hx18
      unfold m_impl_Channel_pieceOrder_bimplChannel_s17 at hm
      refine sR <| wP 1 [(118, .bool (decide (x18 < ((y1.length : Int)))))] <| wN <| cW_seq <| cC (decide (x18 < ((y1.length : Int)))) (fun hb11 => ?_) (fun hb11 => ?_)
      ·have hm := condT hb11 hm
       refine cW_skip <| eX_then <| cW_seq <| cW_block ?_
       obtain ⟨s7, hs2, hm⟩ := bindE hm
       refine cW_cut (fun a' w' => ∃ l12 : List Int, l12 = s7 ∧ Fr 167 [(0, pt b0), (2, pt b1), (3, .slice A1 y1.length cap1), (4, .slice A2 y2.length cap2), (5, pt b2), (11, ii x14), (12, ii x15), (13, ii x13), (14, ii x16), (15, .slice A7 x17.length cap7), (78, .slice A0_0 l0_0.length cap0_0), (79, ii (l0_0.length : Int)), (80, ii x13), (108, .slice A1 y1.length cap1), (109, ii (y1.length : Int)), (110, ii x16), (115, .slice A1 y1.length cap1), (116, ii (y1.length : Int)), (117, ii x18)] a' ∧ Sl 1 encI w' fp0_0 A0_0 l0_0 ∧ Sl 1 encI w' fp0_1 A0_1 l0_1 ∧ Cl w' b0 26 [.slice A0_0 l0_0.length cap0_0, .slice A0_1 l0_1.length cap0_1] ∧ Cl w' b1 58 [.slice none 0 0, .slice none 0 0] ∧ OwR 1 encI 24 2 w' fp1 fr1 A1 cap1 y1 ∧ Ow 1 encI 2 w' fp2 A2 cap2 y2 ∧ Ow 1 encI 3 w' fp3 A3 cap3 l1 ∧ Ow 1 encI 3 w' fp4 A4 cap4 l12 ∧ Cl w' b2 58 [.slice A3 l1.length cap3, .slice A4 l12.length cap4] ∧ Sl 1 encI w' fr1 A7 x17 ∧ Chg [] w0 w' ∧ w0.heap.size ≤ w'.heap.size) ?_ ?_
       ·have hm := hs2
        refine sR <| wP 1 [(119, ii x18)] ?_
        obtain ⟨x19, hx19, hm⟩ := bindE hm
        refine sI 120 A1 y1.length cap1 .i64 x18 sl28 ((F81.slr encI_ok).is hx19) ?_
        obtain ⟨A8, cap8, hc15, F87, K4⟩ := OwR.row F81 encI_ok hx19
        have G10 := low_inr G2
        have Dm4 := (F81.dj).symm
        refine sL 121 (elA A1 1 (x18) 0) (.slice A8 x19.length cap8) vt24 hc15 <| wP 2 [(17, .slice A8 x19.length cap8), (16, ii x18)] <| wN <| cP [(0, pt b0), (2, pt b1), (3, .slice A1 y1.length cap1), (4, .slice A2 y2.length cap2), (5, pt b2), (11, ii x14), (12, ii x15), (13, ii x13), (14, ii x16), (15, .slice A7 x17.length cap7), (16, ii x18), (17, .slice A8 x19.length cap8), (78, .slice A0_0 l0_0.length cap0_0), (79, ii (l0_0.length : Int)), (80, ii x13), (108, .slice A1 y1.length cap1), (109, ii (y1.length : Int)), (110, ii x16), (115, .slice A1 y1.length cap1), (116, ii (y1.length : Int)), (117, ii x18)] (fun a8 => ?_)
        refine cW_seq <| cW_drawnTail [] 30 (by kernel_rfl) (by kernel_rfl) (fun w20 hc16 => ?_)
        replace F77 := F77.c hc16
        replace F78 := F78.c hc16
        replace F79 := F79.c hc16
        replace F80 := F80.c hc16
        replace F81 := F81.c hc16
        replace F82 := F82.c hc16
        replace F83 := F83.c hc16
        replace F84 := F84.c hc16
        replace F85 := F85.c hc16
        replace F86 := F86.c hc16
        replace F87 := F87.c hc16
        replace hB := hB.q hc16
        replace hZ := hc16.z hZ
        have hS := Chg.refl [] w20
        have Z23 := F77
        have Z24 := F78
        have Z25 := F79
        have Z26 := F80
        have Z27 := F81
        have Z28 := F82
        have Z29 := F83
        have Z30 := F84
        have Z31 := F85
        have Z32 := F86
        have Z33 := F87
        refine hT [0] [(122, .slice A7 x17.length cap7)] ?_
        obtain ⟨x20, hx20, hm⟩ := bindE hm
        refine hI 1 123 A7 x17.length cap7 .i64 0 sl24 (F86.is hx20) <| hL 2 124 (elA A7 1 (0) 0) (ii x20) vt2 (fun W hW => Sl.cell (Z32.c hW) hx20 0 (by rfl)) ?_
        refine hT [3, 4, 5] [(127, .bool (x20 == x14)), (126, .bool (x20 == x14)), (125, ii x14)] <| wH_bool (x20 == x14) (fun hb12 => ?_) (fun hb12 => ?_)
        ·have hm := condT hb12 hm
         rewrite [hb12]
         refine hT [6] [(128, .slice A8 x19.length cap8)] ?_
         obtain ⟨x21, hx21, hm⟩ := bindE hm
         refine hI 7 129 A8 x19.length cap8 .i64 0 sl24 (F87.is hx21) <| hL 8 130 (elA A8 1 (0) 0) (ii x21) vt2 (fun W hW => Sl.cell (Z33.c hW) hx21 0 (by rfl)) ?_
         refine hT [9, 10, 11, 12] [(134, .bool (x21 == x15)), (133, .bool (x21 == x15)), (132, .bool (x21 == x15)), (131, ii x15)] <| wH_bool (x21 == x15) (fun hb13 => ?_) (fun hb13 => ?_)
         ·have hm := condT hb13 hm
          rewrite [hb13]
          refine hT [13, 14] [(136, .slice A7 x17.length cap7), (135, ii x13)] ?_
          obtain ⟨x22, hx22, hm⟩ := bindE hm
          refine hI 15 137 A7 x17.length cap7 .i64 1 sl24 (F86.is hx22) <| hL 16 138 (elA A7 1 (1) 0) (ii x22) vt2 (fun W hW => Sl.cell (Z32.c hW) hx22 0 (by rfl)) ?_
          refine hT [17] [(139, .slice A7 x17.length cap7)] ?_
          obtain ⟨x23, hx23, hm⟩ := bindE hm
          refine hI 18 140 A7 x17.length cap7 .i64 2 sl24 (F86.is hx23) <| hL 19 141 (elA A7 1 (2) 0) (ii x23) vt2 (fun W hW => Sl.cell (Z32.c hW) hx23 0 (by rfl)) ?_
          refine wH_all [20] (by rfl) (by kernel_rfl) (by simp) ⟨⟨by kernel_rfl, ?_⟩, trivial⟩
          obtain ⟨y6, hy6, hm⟩ := bindE hm
          refine sC 142 [ii x13, ii x22, ii x23] ent75 (c_impl_in hy6) ?_
          rintro _ w21 ⟨rfl, hc17⟩
          replace F77 := F77.c hc17
          replace F78 := F78.c hc17
          replace F79 := F79.c hc17
          replace F80 := F80.c hc17
          replace F81 := F81.c hc17
          replace F82 := F82.c hc17
          replace F83 := F83.c hc17
          replace F84 := F84.c hc17
          replace F85 := F85.c hc17
          replace F86 := F86.c hc17
          replace F87 := F87.c hc17
          replace hB := hB.q hc17
          have hSz := hS
          replace hS := hS.inS hc17 inNil
          replace hZ := hc17.z hZ
          refine ⟨.bool (y6), rfl, ?_⟩
          refine wS_end (by kernel_rfl) <| eX_KH hS <| hT [21, 22] [(144, .bool (y6)), (143, .bool (y6))] <| wH_bool y6 (fun hb14 => ?_) (fun hb14 => ?_)
          ·have hm := condT hb14 hm
           rewrite [hb14]
           refine hT [23, 24] [(146, .slice A8 x19.length cap8), (145, ii x13)] ?_
           obtain ⟨x24, hx24, hm⟩ := bindE hm
           refine hI 25 147 A8 x19.length cap8 .i64 1 sl24 (F87.is hx24) <| hL 26 148 (elA A8 1 (1) 0) (ii x24) vt2 (fun W hW => Sl.cell (Z33.c hW) hx24 0 (by rfl)) ?_
           refine hT [27] [(149, .slice A8 x19.length cap8)] ?_
           obtain ⟨x25, hx25, hm⟩ := bindE hm
           refine hI 28 150 A8 x19.length cap8 .i64 2 sl24 (F87.is hx25) <| hL 29 151 (elA A8 1 (2) 0) (ii x25) vt2 (fun W hW => Sl.cell (Z33.c hW) hx25 0 (by rfl)) ?_
           refine wD <| eX_tail ?_
           obtain ⟨y7, hy7, hm⟩ := bindE hm
           refine sC 152 [ii x13, ii x24, ii x25] ent75 (c_impl_in hy7) ?_
           rintro _ w22 ⟨rfl, hc18⟩
           replace F77 := F77.c hc18
           replace F78 := F78.c hc18
           replace F79 := F79.c hc18
           replace F80 := F80.c hc18
           replace F81 := F81.c hc18
           replace F82 := F82.c hc18
           replace F83 := F83.c hc18
           replace F84 := F84.c hc18
           replace F85 := F85.c hc18
           replace F86 := F86.c hc18
           replace F87 := F87.c hc18
           replace hB := hB.q hc18
           replace hZ := hc18.z hZ
           refine ⟨.bool (y7), rfl, ?_⟩
           refine wP 1 [(153, .bool (y7))] <| wN <| cP [(0, pt b0), (2, pt b1), (3, .slice A1 y1.length cap1), (4, .slice A2 y2.length cap2), (5, pt b2), (11, ii x14), (12, ii x15), (13, ii x13), (14, ii x16), (15, .slice A7 x17.length cap7), (16, ii x18), (78, .slice A0_0 l0_0.length cap0_0), (79, ii (l0_0.length : Int)), (80, ii x13), (108, .slice A1 y1.length cap1), (109, ii (y1.length : Int)), (110, ii x16), (115, .slice A1 y1.length cap1), (116, ii (y1.length : Int)), (117, ii x18), (153, .bool (y7))] (fun a9 => ?_)
           refine cC y7 (fun hb15 => ?_) (fun hb15 => ?_)
           ·have hm := condT hb15 hm
            refine cW_drawnTail [] 7 (by kernel_rfl) (by kernel_rfl) (fun w23 hc19 => ?_)
            replace F77 := F77.c hc19
            replace F78 := F78.c hc19
            replace F79 := F79.c hc19
            replace F80 := F80.c hc19
            replace F81 := F81.c hc19
            replace F82 := F82.c hc19
            replace F83 := F83.c hc19
            replace F84 := F84.c hc19
            replace F85 := F85.c hc19
            replace F86 := F86.c hc19
            replace F87 := F87.c hc19
            replace hB := hB.q hc19
            replace hZ := hc19.z hZ
            have hS := Chg.refl [] w23
            have Z34 := F77
            have Z35 := F78
            have Z36 := F79
            have Z37 := F80
            have Z38 := F81
            have Z39 := F82
            have Z40 := F83
            have Z41 := F84
            have Z42 := F85
            have Z43 := F86
            have Z44 := F87
            refine hT [0] [(154, .pointer (some ⟨b2, 1, none⟩))] <| hL 1 155 ⟨b2, 1, none⟩ (.slice A4 l11.length cap4) vt56 (fun W hW => (Z42.c hW).cell 1) ?_
            refine hT [2] [(156, ii x18)] ?_
            obtain ⟨x26, hx26, hm⟩ := bindE hm
            refine hI 3 157 A4 l11.length cap4 .i64 x18 sl56 ((F84.sl encI_ok).is hx26) <| hL 4 158 (elA A4 1 (x18) 0) (ii x26) vt3 (fun W hW => Sl.cell ((Z41.c hW).sl encI_ok) hx26 0 (by rfl)) ?_
            refine hT [5] [(159, ii x16)] ?_
            obtain ⟨u2, hu2, hm⟩ := bindE hm
            refine wH_shl (i := 6) (d := 160) (x := 1) (y := x16) (yk := .i64) (by kernel_rfl) (qT (qT (qB (qT (qL (qB (qT (qB (qT (qL (qB (qT (qB (qT (qL (qB (qT (qT qZ)))))))))))))))))) (by kernel_rfl) (by kernel_rfl) (p0E hu2) <| wD <| eX_tail <| wP 1 [(161, ii (orI x26 (shlI 1 x16)))] ?_
            obtain ⟨x27, hx27, hm⟩ := bindE hm
            refine sI 162 A4 l11.length cap4 .i64 x18 sl56 ((F84.sl encI_ok).is hx27) ?_
            refine wS_storeEl (x := x27) (orI x26 (shlI 1 x16)) (T := 3) (U := 3) (cap := cap4) (j := 0) (A := A4) (v := ii (orI x26 (shlI 1 x16))) (vs := [ii (orI x26 (shlI 1 x16))]) (m := x18) (by kernel_rfl) (by rfl) sz3 (by rfl) encI_ok F84 hx27 (by simp only [List.length_cons, List.length_nil]; omega) (by rfl) ?_
            intro w24 F88 hc20
            replace F77 := F77.chg hc20 (Dj.of L0_0 G5)
            replace F78 := F78.chg hc20 (Dj.of L0_1 G5)
            replace F79 := F79.chg hc20 (dj1 (Dj.of L0 G5))
            replace F80 := F80.chg hc20 (dj1 D8)
            replace F81 := F81.chg hc20 D9
            replace F82 := F82.chg hc20 D10
            replace F83 := F83.chg hc20 D4
            replace F85 := F85.chg hc20 (dj1 (D15).symm)
            replace F86 := F86.chg hc20 ((Dj.inr (D9).symm)).symm
            replace F87 := F87.chg hc20 ((Dj.inr (D9).symm)).symm
            replace hB := hB.inS hc20 (inLow G5)
            replace hZ := hc20.z hZ
            clear F84
            rewrite [show l11.length = (l11.set (Int.toNat x18) (orI x26 (shlI 1 x16))).length from (List.length_set ..).symm]
            rewrite [show l11.length = (l11.set (Int.toNat x18) (orI x26 (shlI 1 x16))).length from (List.length_set ..).symm] at F85
            refine wE ?_
            obtain rfl := someE (x := l11.set (Int.toNat x18) (orI x26 (shlI 1 x16))) hm
            exact eX_J (fun hst => ⟨l11.set (Int.toNat x18) (orI x26 (shlI 1 x16)), rfl, fO hst, F77, F78, F79, F80, F81, F82, F83, F88, F85, F86, hB, hZ⟩)
           have hm := condF hb15 hm
           refine cW_skip ?_
           obtain rfl := someE (x := l11) hm
           exact eX_J (fun hst => ⟨l11, rfl, fO hst, F77, F78, F79, F80, F81, F82, F83, F84, F85, F86, hB, hZ⟩)
          have hm := condF hb14 hm
          rewrite [hb14]
          refine hT [23, 24, 25, 26, 27, 28, 29] [(151, undef), (150, undef), (149, undef), (148, undef), (147, undef), (146, undef), (145, undef)] <| wD <| eX_tail <| wP 2 [(153, .bool (false)), (152, undef)] <| wN <| cP [(0, pt b0), (2, pt b1), (3, .slice A1 y1.length cap1), (4, .slice A2 y2.length cap2), (5, pt b2), (11, ii x14), (12, ii x15), (13, ii x13), (14, ii x16), (15, .slice A7 x17.length cap7), (16, ii x18), (78, .slice A0_0 l0_0.length cap0_0), (79, ii (l0_0.length : Int)), (80, ii x13), (108, .slice A1 y1.length cap1), (109, ii (y1.length : Int)), (110, ii x16), (115, .slice A1 y1.length cap1), (116, ii (y1.length : Int)), (117, ii x18), (153, .bool (false))] (fun a10 => ?_)
          refine cCf <| cW_skip ?_
          obtain rfl := someE (x := l11) hm
          exact eX_J (fun hst => ⟨l11, rfl, fO hst, F77, F78, F79, F80, F81, F82, F83, F84, F85, F86, hB, hZ⟩)
         have hm := condF hb13 hm
         rewrite [hb13]
         refine hT [13, 14, 15, 16, 17, 18, 19, 20, 21, 22, 23, 24, 25, 26, 27, 28, 29] [(151, undef), (150, undef), (149, undef), (148, undef), (147, undef), (146, undef), (145, undef), (144, .bool (false)), (143, .bool (false)), (142, undef), (141, undef), (140, undef), (139, undef), (138, undef), (137, undef), (136, undef), (135, undef)] <| wD <| eX_tail <| wP 2 [(153, .bool (false)), (152, undef)] <| wN <| cP [(0, pt b0), (2, pt b1), (3, .slice A1 y1.length cap1), (4, .slice A2 y2.length cap2), (5, pt b2), (11, ii x14), (12, ii x15), (13, ii x13), (14, ii x16), (15, .slice A7 x17.length cap7), (16, ii x18), (78, .slice A0_0 l0_0.length cap0_0), (79, ii (l0_0.length : Int)), (80, ii x13), (108, .slice A1 y1.length cap1), (109, ii (y1.length : Int)), (110, ii x16), (115, .slice A1 y1.length cap1), (116, ii (y1.length : Int)), (117, ii x18), (153, .bool (false))] (fun a11 => ?_)
         refine cCf <| cW_skip ?_
         obtain rfl := someE (x := l11) hm
         exact eX_J (fun hst => ⟨l11, rfl, fO hst, F77, F78, F79, F80, F81, F82, F83, F84, F85, F86, hB, hZ⟩)
        have hm := condF hb12 hm
        rewrite [hb12]
        refine hT [6, 7, 8, 9, 10, 11, 12, 13, 14, 15, 16, 17, 18, 19, 20, 21, 22, 23, 24, 25, 26, 27, 28, 29] [(151, undef), (150, undef), (149, undef), (148, undef), (147, undef), (146, undef), (145, undef), (144, .bool (false)), (143, .bool (false)), (142, undef), (141, undef), (140, undef), (139, undef), (138, undef), (137, undef), (136, undef), (135, undef), (134, .bool (false)), (133, .bool (false)), (132, undef), (131, undef), (130, undef), (129, undef), (128, undef)] <| wD <| eX_tail <| wP 2 [(153, .bool (false)), (152, undef)] <| wN <| cP [(0, pt b0), (2, pt b1), (3, .slice A1 y1.length cap1), (4, .slice A2 y2.length cap2), (5, pt b2), (11, ii x14), (12, ii x15), (13, ii x13), (14, ii x16), (15, .slice A7 x17.length cap7), (16, ii x18), (78, .slice A0_0 l0_0.length cap0_0), (79, ii (l0_0.length : Int)), (80, ii x13), (108, .slice A1 y1.length cap1), (109, ii (y1.length : Int)), (110, ii x16), (115, .slice A1 y1.length cap1), (116, ii (y1.length : Int)), (117, ii x18), (153, .bool (false))] (fun a12 => ?_)
        refine cCf <| cW_skip ?_
        obtain rfl := someE (x := l11) hm
        exact eX_J (fun hst => ⟨l11, rfl, fO hst, F77, F78, F79, F80, F81, F82, F83, F84, F85, F86, hB, hZ⟩)
       rintro a' w25 ⟨l12, hJ, hF9, F89, F90, F91, F92, F93, F94, F95, F96, F97, F98, hB, hZ⟩
       subst hJ
       refine gX hF9 <| eX_block <| eX_then <| cW_region <| wP 2 [(117, ii (wr (x18 + 1))), (163, ii (wr (x18 + 1)))] <| wE ?_
       obtain rfl := someE (x := (Ctl.next ((wr (x18 + 1), l12)))) hm
       exact eX_next hx18 (fun hst => ⟨wr (x18 + 1), l12, rfl, fO hst, F89, F90, F91, F92, F93, F94, F95, F96, F97, F98, hB, hZ⟩)
      have hm := condF hb11 hm
      refine cW_exit <| eX_then_exit ?_
      obtain rfl := someE (x := Ctl.out l11) hm
      refine eX_outX hx18 (fun hr8 => ?_)
      replace hr8 := hr8.symm
      subst hr8
      refine eX_block_hit ?_
      exact eX_J (fun hst => ⟨l11, rfl, fO hst, F77, F78, F79, F80, F81, F82, F83, F84, F85, hB, hZ⟩)
     rintro a' w26 ⟨l10, hJ, hF10, F99, F100, F101, F102, F103, F104, F105, F106, F107, hB, hZ⟩
     subst hJ
     refine gX hF10 <| eX_block <| eX_then <| cW_region <| wP 2 [(110, ii (wr (x16 + 1))), (164, ii (wr (x16 + 1)))] <| wE ?_
     obtain rfl := someE (x := (Ctl.next ((wr (x16 + 1), l10)))) hm
     exact eX_next hx16 (fun hst => ⟨wr (x16 + 1), l10, rfl, fO hst, F99, F100, F101, F102, F103, F104, F105, F106, F107, hB, hZ⟩)
    have hm := condF hb10 hm
    refine cW_exit <| eX_then_exit ?_
    obtain rfl := someE (x := Ctl.out l9) hm
    refine eX_outX hx16 (fun hr9 => ?_)
    replace hr9 := hr9.symm
    subst hr9
    refine eX_block_hit ?_
    exact eX_J (fun hst => ⟨l9, rfl, fO hst, F67, F68, F69, F70, F71, F72, F73, F74, F75, hB, hZ⟩)
   rintro a' w27 ⟨l8, hJ, hF11, F108, F109, F110, F111, F112, F113, F114, F115, F116, hB, hZ⟩
   subst hJ
   refine gX hF11 <| eX_block <| eX_then <| cW_region <| wP 2 [(80, ii (wr (x13 + 1))), (165, ii (wr (x13 + 1)))] <| wE ?_
   obtain rfl := someE (x := (Ctl.next ((wr (x13 + 1), l8)))) hm
   exact eX_next hx13 (fun hst => ⟨wr (x13 + 1), l8, rfl, fO hst, F108, F109, F110, F111, F112, F113, F114, F115, F116, hB, hZ⟩)
  have hm := condF hb6 hm
  refine cW_exit <| eX_then_exit ?_
  obtain rfl := someE (x := Ctl.out l7) hm
  refine eX_outX hx13 (fun hr10 => ?_)
  replace hr10 := hr10.symm
  subst hr10
  refine eX_block_hit ?_
  exact eX_J (fun hst => ⟨l7, rfl, fO hst, F61, F64, F65, F66, hB, hZ⟩)
 rintro a' w28 ⟨l6, hJ, hF12, F117, F118, F119, F120, hB, hZ⟩
 subst hJ
 refine gX hF12 <| eX_then <| sR <| wS_loadA (d := 166) (T := 58) (ad := ⟨b2, 0, none⟩) (vs := [.slice A3 l1.length cap3, .slice A4 l6.length cap4]) (by kernel_rfl) vt58 (fun i u hu => box_cells F120 0 hu (by rfl)) ?_
 refine wS_store (T := 58) (g := b1) (o := 0) (ad := ⟨b1, 0, none⟩) (v := .agg #[.slice A3 l1.length cap3, .slice A4 l6.length cap4]) (vs := [.slice A3 l1.length cap3, .slice A4 l6.length cap4]) (by kernel_rfl) (by rfl) sz58 (by rfl) (by rfl) F117 (by simp only [List.length_cons, List.length_nil]; omega) ?_
 intro w29 F121 hc21
 replace F118 := F118.chg hc21 (D5).symm
 replace F119 := F119.chg hc21 (D8).symm
 replace F120 := F120.chg hc21 (dj1 (D11).symm)
 replace hB := hB.inS hc21 (inLow (low1 G1))
 replace hZ := hc21.z hZ
 replace F121 : Cl w29 b1 58 [.slice A3 l1.length cap3, .slice A4 l6.length cap4] := F121
 clear F117
 refine wN <| cW_ret ?_
 obtain rfl := someE (x := ((l1, l6))) hm
 refine eX_ret (vs := [.agg #[.slice A3 l1.length cap3, .slice A4 l6.length cap4]]) [.cell 2 58] (by rfl) ⟨⟨⟨b1, 0, none⟩, by kernel_rfl, run_loadVarA (vs := [.slice A3 l1.length cap3, .slice A4 l6.length cap4]) vt58 (fun i u hu => by exact box_cells F121 0 hu (by rfl))⟩, trivial⟩ ?_
 exact ⟨A3, cap3, fp3, A4, cap4, fp4, rfl, F118, G4, F119, G5, D4, hB⟩

set_option maxRecDepth 100000 in
/-- impl.toldTracks -/
theorem c_impl_toldTracks_impl_FewestWithDoglegs_1 {w0 : World} {l0 : List (List Int)} {A0 : Option Addr} {cap0 : Nat} {fp0 : List Nat} {r : (List (List Int))} (hm : m_impl_toldTracks_impl_FewestWithDoglegs_1 l0 = some r) (F0 : SlR 1 encI w0 fp0 A0 l0) :
  Calls Tryd.prog 40 #[.slice A0 l0.length cap0, .func (.func 72) #[] #[]] w0 fun e w' => ∃ A100 cap100 fp100 fr100, e = .returned (.slice A100 r.length cap100) ∧ OwR 1 encI 24 2 w' fp100 fr100 A100 cap100 r ∧ (∀ x ∈ fp100 ++ fr100, w0.heap.size ≤ x) ∧ Chg [] w0 w' := by
 have L0 := F0.low
 have hB : Chg [] w0 w0 := Chg.refl _ _
 have hZ := Nat.le_refl w0.heap.size
 unfold m_impl_toldTracks_impl_FewestWithDoglegs_1 at hm
 refine enterE (N := 38) Tryd.func40 (by rfl) Tryd.ntmps40 (by simp) [(0, .slice A0 l0.length cap0), (1, .func (.func 72) #[] #[])] (by rfl) (by kernel_rfl) (fun a => ?_)
 refine sR <| wP 1 [(4, .slice none 0 0)] <| wN <| sR <| wS_rows0 (k := 1) (enc := encI) (d := 11) (t := 28) (T := 24) (T2 := 2) (by kernel_rfl) el28 ?_
 intro b1 w1 G1 F1 hc1
 replace F0 := F0.c hc1
 replace hB := hB.q hc1
 replace G1 := Nat.le_trans hZ G1
 replace G1 := low1 G1
 replace hZ := hc1.z hZ
 replace G1 := lowApp G1 lowNil
 refine wP 1 [(5, .slice (some ⟨b1, 0, none⟩) (([] : List (List Int))).length 0)] <| wN <| cW_seq <| sR <| wP 3 [(14, ii 0), (13, ii (l0.length : Int)), (12, .slice A0 l0.length cap0)] <| wN ?_
 obtain ⟨r1, hr1, hm⟩ := bindE hm
 have hm1 := hm
 refine cW_cut (fun a' w' => ∃ l1 : List (List Int), ∃ A1 : Option Addr, ∃ cap1 : Nat, ∃ fp1 : List Nat, ∃ fr1 : List Nat, l1 = r1 ∧ Fr 38 [(5, .slice A1 l1.length cap1)] a' ∧ OwR 1 encI 24 2 w' fp1 fr1 A1 cap1 l1 ∧ (∀ x ∈ (fp1 ++ fr1), w0.heap.size ≤ x) ∧ Chg [] w0 w' ∧ w0.heap.size ≤ w'.heap.size) ?_ ?_
 ·refine cW_block ?_
  refine cW_loop _ (fun (s1 : (List (List Int)) × Int) a' w' => ∃ l3 : List (List Int), ∃ A3 : Option Addr, ∃ cap3 : Nat, ∃ fp2 : List Nat, ∃ fr2 : List Nat, ∃ x1 : Int, (l3, x1) = s1 ∧ Fr 38 [(1, .func (.func 72) #[] #[]), (5, .slice A3 l3.length cap3), (12, .slice A0 l0.length cap0), (13, ii (l0.length : Int)), (14, ii x1)] a' ∧ SlR 1 encI w' fp0 A0 l0 ∧ OwR 1 encI 24 2 w' fp2 fr2 A3 cap3 l3 ∧ (∀ x ∈ (fp2 ++ fr2), w0.heap.size ≤ x) ∧ Chg [] w0 w' ∧ w0.heap.size ≤ w'.heap.size) hr1 (fun hst => ⟨([] : List (List Int)), (some ⟨b1, 0, none⟩), 0, [b1], [], 0, rfl, fO hst, F0, F1, G1, hB, hZ⟩) ?_
  rintro _ c1 a' w2 ⟨l3, A3, cap3, fp2, fr2, x1, rfl, hF1, F2, F3, G2, hB, hZ⟩ hx1
  refine gO hF1 ?_
  have hm := hx1
  unfold m_impl_toldTracks_impl_FewestWithDoglegs_1_s3 at hm
  refine sR <| wP 1 [(15, .bool (decide (x1 < ((l0.length : Int)))))] <| wN <| cW_seq <| cC (decide (x1 < ((l0.length : Int)))) (fun hb1 => ?_) (fun hb1 => ?_)
  ·have hm := condT hb1 hm
   refine cW_skip <| eX_then <| cW_seq <| cW_block <| sR ?_
   obtain ⟨x2, hx2, hm⟩ := bindE hm
   refine sI 16 A0 l0.length cap0 .i64 x1 sl54 (F2.is hx2) ?_
   obtain ⟨A4, cap4, hc2, F4, K1⟩ := SlR.row F2 hx2
   refine sL 17 (elA A0 1 (x1) 0) (.slice A4 x2.length cap4) vt56 hc2 <| wP 1 [(7, .slice A4 x2.length cap4)] <| wN <| sR <| wS_bs0 (α := Int) (enc := encI) (d := 18) (t := 24) (T := 2) (by kernel_rfl) el24 ?_
   intro b2 w3 G3 F5 hc3
   have D1 : Dj (fp2 ++ fr2) [b2] := Dj.of F3.low (low1 G3)
   replace F2 := F2.c hc3
   replace F3 := F3.c hc3
   replace F4 := F4.c hc3
   replace hB := hB.q hc3
   replace G3 := Nat.le_trans hZ G3
   replace G3 := low1 G3
   replace hZ := hc3.z hZ
   refine wP 1 [(8, .slice (some ⟨b2, 0, none⟩) (([] : List Int)).length 0)] <| wN <| cW_seq <| sR <| wP 3 [(21, ii 0), (20, ii (x2.length : Int)), (19, .slice A4 x2.length cap4)] <| wN ?_
   obtain ⟨r2, hr2, hm⟩ := bindE hm
   have hm2 := hm
   refine cW_cut (fun a' w' => ∃ l4 : List Int, ∃ A5 : Option Addr, ∃ cap5 : Nat, ∃ fp3 : List Nat, l4 = r2 ∧ Fr 38 [(1, .func (.func 72) #[] #[]), (5, .slice A3 l3.length cap3), (8, .slice A5 l4.length cap5), (12, .slice A0 l0.length cap0), (13, ii (l0.length : Int)), (14, ii x1)] a' ∧ SlR 1 encI w' fp0 A0 l0 ∧ OwR 1 encI 24 2 w' fp2 fr2 A3 cap3 l3 ∧ Ow 1 encI 2 w' fp3 A5 cap5 l4 ∧ (∀ x ∈ fp3, w0.heap.size ≤ x) ∧ Dj (fp2 ++ fr2) fp3 ∧ Chg [] w0 w' ∧ w0.heap.size ≤ w'.heap.size) ?_ ?_
   ·refine cW_block ?_
    refine cW_loop _ (fun (s2 : (List Int) × Int) a' w' => ∃ l5 : List Int, ∃ A6 : Option Addr, ∃ cap6 : Nat, ∃ fp4 : List Nat, ∃ x3 : Int, (l5, x3) = s2 ∧ Fr 38 [(1, .func (.func 72) #[] #[]), (5, .slice A3 l3.length cap3), (8, .slice A6 l5.length cap6), (12, .slice A0 l0.length cap0), (13, ii (l0.length : Int)), (14, ii x1), (19, .slice A4 x2.length cap4), (20, ii (x2.length : Int)), (21, ii x3)] a' ∧ SlR 1 encI w' fp0 A0 l0 ∧ OwR 1 encI 24 2 w' fp2 fr2 A3 cap3 l3 ∧ Sl 1 encI w' fp0 A4 x2 ∧ Ow 1 encI 2 w' fp4 A6 cap6 l5 ∧ (∀ x ∈ fp4, w0.heap.size ≤ x) ∧ Dj (fp2 ++ fr2) fp4 ∧ Chg [] w0 w' ∧ w0.heap.size ≤ w'.heap.size) hr2 (fun hst => ⟨([] : List Int), (some ⟨b2, 0, none⟩), 0, [b2], 0, rfl, fO hst, F2, F3, F4, F5, G3, D1, hB, hZ⟩) ?_
    rintro _ c2 a' w4 ⟨l5, A6, cap6, fp4, x3, rfl, hF2, F6, F7, F8, F9, G4, D2, hB, hZ⟩ hx3
    refine gO hF2 ?_
    have hm := hx3
    unfold m_impl_toldTracks_impl_FewestWithDoglegs_1_s4 at hm
    refine sR <| wP 1 [(22, .bool (decide (x3 < ((x2.length : Int)))))] <| wN <| cW_seq <| cC (decide (x3 < ((x2.length : Int)))) (fun hb2 => ?_) (fun hb2 => ?_)
    ·have hm := condT hb2 hm
     refine cW_skip <| eX_then <| cW_seq <| cW_block <| sR ?_
     obtain ⟨x4, hx4, hm⟩ := bindE hm
     refine sI 23 A4 x2.length cap4 .i64 x3 sl56 (F8.is hx4) <| sL 24 (elA A4 1 (x3) 0) (ii x4) vt3 (Sl.cell F8 hx4 0 (by rfl)) <| wP 1 [(10, ii x4)] <| wN <| cW_region <| wP 3 [(27, ii x4), (26, .func (.func 72) #[] #[]), (25, .slice A6 l5.length cap6)] ?_
     obtain ⟨y1, hy1, hm⟩ := bindE hm
     refine sC 28 [ii x4] ent72 (c_impl_FewestWithDoglegs_1 hy1) ?_
     rintro _ w5 ⟨rfl, hc4⟩
     replace F6 := F6.c hc4
     replace F7 := F7.c hc4
     replace F8 := F8.c hc4
     replace F9 := F9.c hc4
     replace hB := hB.q hc4
     replace hZ := hc4.z hZ
     refine ⟨ii y1, rfl, ?_⟩
     refine wS_bs (enc := encI) ([y1] : List Int) [ii y1] (d := 29) (t := 24) (T := 2) (n := 1) (ps := [(0, ii y1)]) (by kernel_rfl) el24 encI_ok (by rfl) (by omega) (by omega) (by kernel_rfl) (by rfl) ?_
     intro b3 w6 G5 F10 hc5
     have D3 : Dj (fp2 ++ fr2) [b3] := Dj.of F7.low (low1 G5)
     have D4 : Dj fp4 [b3] := Dj.of F9.low (low1 G5)
     replace F6 := F6.c hc5
     replace F7 := F7.c hc5
     replace F8 := F8.c hc5
     replace F9 := F9.c hc5
     replace hB := hB.q hc5
     replace G5 := Nat.le_trans hZ G5
     replace G5 := low1 G5
     replace hZ := hc5.z hZ
     obtain ⟨_, hk1, hm⟩ := bindE hm
     replace hk1 := apE hk1
     refine wS_append (enc := encI) (l := (l5 : List Int)) (l2 := (([y1] : List Int) : List Int)) (d := 30) (t := 24) (T := 2) (A := A6) (A2 := (some ⟨b3, 0, none⟩)) (cap := cap6) (cap2 := 1) (by kernel_rfl) el24 encI_ok F9 (F10.sl encI_ok) (by rfl) hk1 ?_
     intro w7 fp5 A7 cap7 F11 hc6 hp1
     have G6 := low_ap G4 hZ hp1
     have D5 : Dj (fp2 ++ fr2) fp5 := Dj.ap D2 F7.low hp1
     have D6 : Dj [b3] fp5 := Dj.ap (D4).symm F10.low hp1
     replace F6 := F6.chg hc6 (Dj.of L0 G4)
     replace F7 := F7.chg hc6 D2
     replace F8 := F8.chg hc6 (Dj.of L0 G4)
     replace F10 := F10.chg hc6 (D4).symm
     replace hB := hB.inS hc6 (inLow G4)
     replace hZ := hc6.z hZ
     refine wP 1 [(8, .slice A7 (l5 ++ (([y1] : List Int))).length cap7)] <| wE <| eX_block <| eX_then <| cW_region <| wP 2 [(21, ii (wr (x3 + 1))), (31, ii (wr (x3 + 1)))] <| wE ?_
     obtain rfl := someE (x := (Ctl.next ((l5 ++ (([y1] : List Int)), wr (x3 + 1))))) hm
     exact eX_next hx3 (fun hst => ⟨l5 ++ (([y1] : List Int)), A7, cap7, fp5, wr (x3 + 1), rfl, fO hst, F6, F7, F8, F11, G6, D5, hB, hZ⟩)
    have hm := condF hb2 hm
    refine cW_exit <| eX_then_exit ?_
    obtain rfl := someE (x := Ctl.out l5) hm
    refine eX_outX hx3 (fun hr3 => ?_)
    replace hr3 := hr3.symm
    subst hr3
    refine eX_block_hit ?_
    exact eX_J (fun hst => ⟨l5, A6, cap6, fp4, rfl, fO hst, F6, F7, F9, G4, D2, hB, hZ⟩)
   rintro a' w8 ⟨l4, A5, cap5, fp3, hJ, hF3, F12, F13, F14, G7, D7, hB, hZ⟩
   subst hJ
   refine gX hF3 <| eX_then <| cW_region <| wP 2 [(33, .slice A5 l4.length cap5), (32, .slice A3 l3.length cap3)] <| wS_row1 (k := 1) (enc := encI) (l := l4) (d := 34) (t := 28) (T := 24) (B := A5) (c := cap5) (by kernel_rfl) el28 F14 ?_
   intro b4 w9 G8 F15 hc7
   have D8 : Dj (fp2 ++ fr2) ([b4] ++ fp3) := Dj.app (Dj.of F13.low (low1 G8)) D7
   replace F12 := F12.c hc7
   replace F13 := F13.c hc7
   replace F14 := F14.c hc7
   replace hB := hB.q hc7
   replace G8 := Nat.le_trans hZ G8
   replace G8 := lowApp (low1 G8) G7
   replace hZ := hc7.z hZ
   replace F14 := (F14.sl encI_ok)
   obtain ⟨_, hk2, hm⟩ := bindE hm
   replace hk2 := apE hk2
   refine wS_appendR (k := 1) (enc := encI) (ll := (l3 : List (List Int))) (ll2 := (([l4] : List (List Int)) : List (List Int))) (d := 35) (t := 28) (T := 24) (A := A3) (A2 := (some ⟨b4, 0, none⟩)) (cap := cap3) (cap2 := 1) (by kernel_rfl) el28 F13 F15 (by rfl) D8 hk2 ?_
   intro w10 fp6 A8 cap8 F16 hc8 hp2
   have G9 := lowApp (low_ap (low_inl G2) hZ hp2) (lowApp (low_inr G2) (low_inr G8))
   replace F12 := F12.chg hc8 (Dj.inl (Dj.of L0 G2))
   replace hB := hB.inS hc8 (memS_inl (inLow G2))
   replace hZ := hc8.z hZ
   refine wP 1 [(5, .slice A8 (l3 ++ (([l4] : List (List Int)))).length cap8)] <| wE <| eX_block <| eX_then <| cW_region <| wP 2 [(14, ii (wr (x1 + 1))), (36, ii (wr (x1 + 1)))] <| wE ?_
   obtain rfl := someE (x := (Ctl.next ((l3 ++ (([l4] : List (List Int))), wr (x1 + 1))))) hm
   exact eX_next hx1 (fun hst => ⟨l3 ++ (([l4] : List (List Int))), A8, cap8, fp6, (fr2 ++ fp3), wr (x1 + 1), rfl, fO hst, F12, F16, G9, hB, hZ⟩)
  have hm := condF hb1 hm
  refine cW_exit <| eX_then_exit ?_
  obtain rfl := someE (x := Ctl.out l3) hm
  refine eX_outX hx1 (fun hr4 => ?_)
  replace hr4 := hr4.symm
  subst hr4
  refine eX_block_hit ?_
  exact eX_J (fun hst => ⟨l3, A3, cap3, fp2, fr2, rfl, fO hst, F3, G2, hB, hZ⟩)
 rintro a' w11 ⟨l1, A1, cap1, fp1, fr1, hJ, hF4, F17, G10, hB, hZ⟩
 subst hJ
 refine gX hF4 <| eX_then <| sR <| wP 2 [(4, .slice A1 l1.length cap1), (37, .slice A1 l1.length cap1)] <| wN <| cW_ret ?_
 obtain rfl := someE (x := l1) hm
 refine rA (.slice A1 l1.length cap1) 4 ?_
 exact ⟨A1, cap1, fp1, fr1, rfl, F17, G10, hB⟩

set_option maxRecDepth 100000 in
/-- impl.FewestWithDoglegs -/
theorem c_impl_FewestWithDoglegs {w0 : World} {l0_0 : List Int} {A0_0 : Option Addr} {cap0_0 : Nat} {fp0_0 : List Nat} {l0_1 : List Int} {A0_1 : Option Addr} {cap0_1 : Nat} {fp0_1 : List Nat} {r : (List (List Int)) × Bool} (hm : m_impl_FewestWithDoglegs l0_0 l0_1 = some r) (F0_0 : Sl 1 encI w0 fp0_0 A0_0 l0_0) (K0_0 : l0_0.length ≤ cap0_0) (F0_1 : Sl 1 encI w0 fp0_1 A0_1 l0_1) (K0_1 : l0_1.length ≤ cap0_1) (FG : Sl 1 encU w0 [1] (some ⟨1, 0, none⟩) tab64) :
  Calls Tryd.prog 29 #[.agg #[.slice A0_0 l0_0.length cap0_0, .slice A0_1 l0_1.length cap0_1]] w0 fun e w' => ∃ A100 cap100 fp100 fr100, e = .returned (.tuple #[.slice A100 r.1.length cap100, .bool (r.2)]) ∧ OwR 1 encI 24 2 w' fp100 fr100 A100 cap100 r.1 ∧ (∀ x ∈ fp100 ++ fr100, w0.heap.size ≤ x) ∧ Chg [] w0 w' := by
 have L0_0 := F0_0.low
 have L0_1 := F0_1.low
 have Lg := FG.low
 have hB : Chg [] w0 w0 := Chg.refl _ _
 have hZ := Nat.le_refl w0.heap.size
 unfold m_impl_FewestWithDoglegs at hm
 refine enterE (N := 23) Tryd.func29 (by rfl) Tryd.ntmps29 (by simp) [(0, .agg #[.slice A0_0 l0_0.length cap0_0, .slice A0_1 l0_1.length cap0_1])] (by rfl) (by kernel_rfl) (fun a => ?_)
 refine sR <| wS_box (d := 1) (T := 26) (x := .agg #[.slice A0_0 l0_0.length cap0_0, .slice A0_1 l0_1.length cap0_1]) (by kernel_rfl) ?_
 intro b1 w1 G1 F1 hc1
 replace F1 : Cl w1 b1 26 [.slice A0_0 l0_0.length cap0_0, .slice A0_1 l0_1.length cap0_1] := F1
 replace F0_0 := F0_0.c hc1
 replace F0_1 := F0_1.c hc1
 replace FG := FG.c hc1
 replace hB := hB.q hc1
 replace G1 := Nat.le_trans hZ G1
 replace hZ := hc1.z hZ
 refine wP 2 [(3, .bool (false)), (2, .slice none 0 0)] <| wN <| cW_seq <| sR <| wS_loadA (d := 6) (T := 26) (ad := ⟨b1, 0, none⟩) (vs := [.slice A0_0 l0_0.length cap0_0, .slice A0_1 l0_1.length cap0_1]) (by kernel_rfl) vt26 (fun i u hu => box_cells F1 0 hu (by rfl)) ?_
 obtain ⟨y1, hy1, hm⟩ := bindE hm
 refine sC 7 [.agg #[.slice A0_0 l0_0.length cap0_0, .slice A0_1 l0_1.length cap0_1]] ent36 (c_impl_ValidChannel hy1 F0_0 K0_0 F0_1 K0_1) ?_
 rintro _ w2 ⟨rfl, hc2⟩
 replace F0_0 := F0_0.c hc2
 replace F0_1 := F0_1.c hc2
 replace FG := FG.c hc2
 replace F1 := F1.c hc2
 replace hB := hB.q hc2
 replace hZ := hc2.z hZ
 refine ⟨.bool (y1), rfl, ?_⟩
 refine wP 2 [(9, .bool (!y1)), (8, .bool (!y1))] <| wS_bool (!y1) (fun hb1 => ?_) (fun hb1 => ?_)
 ·have hm := condT hb1 hm
  rewrite [hb1]
  refine wP 4 [(13, .bool (true)), (12, undef), (11, undef), (10, undef)] <| wN <| cCt <| sR <| wP 2 [(3, .bool (false)), (2, .slice none 0 0)] <| wN <| cW_ret <| eX_then_ret ?_
  obtain rfl := someE (x := (([], false))) hm
  refine rB (.slice none 0 0) (.bool (false)) 2 3 ?_
  exact ⟨none, 0, [], [], rfl, OwR.nil _, (lowApp lowNil lowNil), hB⟩
 have hm := condF hb1 hm
 rewrite [hb1]
 obtain ⟨y2, hy2, hm⟩ := bindE hm
 refine sC 10 [pt b1] ent70 (c_impl_Channel_pieces_bimplChannel hy2 F0_0 F0_1 F1) ?_
 rintro _ w3 ⟨A1, cap1, fp1, fr1, rfl, F2, G2, hc3⟩
 have D1 : Dj [b1] (fp1 ++ fr1) := Dj.of (lt1 F1.lt) G2
 replace F0_0 := F0_0.c hc3
 replace F0_1 := F0_1.c hc3
 replace FG := FG.c hc3
 replace F1 := F1.c hc3
 replace hB := hB.q hc3
 replace G2 := low_le hZ G2
 replace hZ := hc3.z hZ
 refine ⟨.slice A1 y2.length cap1, rfl, ?_⟩
 refine wP 3 [(13, .bool (decide (((y2.length : Int)) > 12))), (12, .bool (decide (((y2.length : Int)) > 12))), (11, ii (y2.length : Int))] <| wN <| cC (decide (((y2.length : Int)) > 12)) (fun hb2 => ?_) (fun hb2 => ?_)
 ·have hm := condT hb2 hm
  refine sR <| wP 2 [(3, .bool (false)), (2, .slice none 0 0)] <| wN <| cW_ret <| eX_then_ret ?_
  obtain rfl := someE (x := (([], false))) hm
  refine rB (.slice none 0 0) (.bool (false)) 2 3 ?_
  exact ⟨none, 0, [], [], rfl, OwR.nil _, (lowApp lowNil lowNil), hB⟩
 have hm := condF hb2 hm
 refine cW_skip <| eX_then <| sR ?_
 obtain ⟨y3, hy3, hm⟩ := bindE hm
 refine sC 15 [pt b1] ent71 (c_impl_Channel_pieceOrder_bimplChannel hy3 F0_0 F0_1 F1) ?_
 rintro _ w4 ⟨A2, cap2, fp2, A3, cap3, fp3, rfl, F3, G3, F4, G4, D2, hc4⟩
 have D3 : Dj [b1] fp2 := Dj.of (lt1 F1.lt) G3
 have D4 : Dj (fp1 ++ fr1) fp2 := Dj.of F2.low G3
 have D5 : Dj [b1] fp3 := Dj.of (lt1 F1.lt) G4
 have D6 : Dj (fp1 ++ fr1) fp3 := Dj.of F2.low G4
 replace F0_0 := F0_0.c hc4
 replace F0_1 := F0_1.c hc4
 replace FG := FG.c hc4
 replace F1 := F1.c hc4
 replace F2 := F2.c hc4
 replace hB := hB.q hc4
 replace G3 := low_le hZ G3
 replace G4 := low_le hZ G4
 replace hZ := hc4.z hZ
 refine ⟨.agg #[.slice A2 y3.1.length cap2, .slice A3 y3.2.length cap3], rfl, ?_⟩
 obtain ⟨y4, hy4, hm⟩ := bindE hm
 refine sC 16 [.agg #[.slice A2 y3.1.length cap2, .slice A3 y3.2.length cap3]] ent38 (c_impl_order_best hy4 (F3.sl encI_ok) (F4.sl encI_ok) FG) ?_
 rintro _ w5 ⟨A4, cap4, fp4, fr2, rfl, F5, G5, hc5⟩
 have D7 : Dj [b1] (fp4 ++ fr2) := Dj.of (lt1 F1.lt) G5
 have D8 : Dj (fp1 ++ fr1) (fp4 ++ fr2) := Dj.of F2.low G5
 have D9 : Dj fp2 (fp4 ++ fr2) := Dj.of F3.low G5
 have D10 : Dj fp3 (fp4 ++ fr2) := Dj.of F4.low G5
 replace F0_0 := F0_0.c hc5
 replace F0_1 := F0_1.c hc5
 replace FG := FG.c hc5
 replace F1 := F1.c hc5
 replace F2 := F2.c hc5
 replace F3 := F3.c hc5
 replace F4 := F4.c hc5
 replace hB := hB.q hc5
 replace G5 := low_le hZ G5
 replace hZ := hc5.z hZ
 refine ⟨.tuple #[.slice A4 y4.1.length cap4, .bool (y4.2)], rfl, ?_⟩
 refine wP 5 [(5, .bool (y4.2)), (4, .slice A4 y4.1.length cap4), (18, .bool (y4.2)), (17, .slice A4 y4.1.length cap4), (14, .tuple #[.slice A4 y4.1.length cap4, .bool (y4.2)])] <| wN <| cW_seq <| sR <| wP 2 [(20, .bool (!y4.2)), (19, .bool (y4.2))] <| wN <| cC (!y4.2) (fun hb3 => ?_) (fun hb3 => ?_)
 ·have hm := condT hb3 hm
  refine sR <| wP 2 [(3, .bool (false)), (2, .slice none 0 0)] <| wN <| cW_ret <| eX_then_ret ?_
  obtain rfl := someE (x := (([], false))) hm
  refine rB (.slice none 0 0) (.bool (false)) 2 3 ?_
  exact ⟨none, 0, [], [], rfl, OwR.nil _, (lowApp lowNil lowNil), hB⟩
 have hm := condF hb3 hm
 refine cW_skip <| eX_then <| sR <| wP 1 [(21, .slice A4 y4.1.length cap4)] ?_
 obtain ⟨y5, hy5, hm⟩ := bindE hm
 refine sC 22 [.slice A4 y4.1.length cap4, .func (.func 72) #[] #[]] ent40 (c_impl_toldTracks_impl_FewestWithDoglegs_1 hy5 (F5.slr encI_ok)) ?_
 rintro _ w6 ⟨A5, cap5, fp5, fr3, rfl, F6, G6, hc6⟩
 have D11 : Dj [b1] (fp5 ++ fr3) := Dj.of (lt1 F1.lt) G6
 have D12 : Dj (fp1 ++ fr1) (fp5 ++ fr3) := Dj.of F2.low G6
 have D13 : Dj fp2 (fp5 ++ fr3) := Dj.of F3.low G6
 have D14 : Dj fp3 (fp5 ++ fr3) := Dj.of F4.low G6
 have D15 : Dj (fp4 ++ fr2) (fp5 ++ fr3) := Dj.of F5.low G6
 replace F0_0 := F0_0.c hc6
 replace F0_1 := F0_1.c hc6
 replace FG := FG.c hc6
 replace F1 := F1.c hc6
 replace F2 := F2.c hc6
 replace F3 := F3.c hc6
 replace F4 := F4.c hc6
 replace F5 := F5.c hc6
 replace hB := hB.q hc6
 replace G6 := low_le hZ G6
 replace hZ := hc6.z hZ
 refine ⟨.slice A5 y5.length cap5, rfl, ?_⟩
 refine wP 2 [(3, .bool (true)), (2, .slice A5 y5.length cap5)] <| wN <| cW_ret ?_
 obtain rfl := someE (x := ((y5, true))) hm
 refine rB (.slice A5 y5.length cap5) (.bool (true)) 2 3 ?_
 exact ⟨A5, cap5, fp5, fr3, rfl, F6, G6, hB⟩

set_option maxRecDepth 100000 in
/-- impl.PiecesOf -/
theorem c_impl_PiecesOf {w0 : World} {l0_0 : List Int} {A0_0 : Option Addr} {cap0_0 : Nat} {fp0_0 : List Nat} {l0_1 : List Int} {A0_1 : Option Addr} {cap0_1 : Nat} {fp0_1 : List Nat} {r : (List (List Int)) × Bool} (hm : m_impl_PiecesOf l0_0 l0_1 = some r) (F0_0 : Sl 1 encI w0 fp0_0 A0_0 l0_0) (K0_0 : l0_0.length ≤ cap0_0) (F0_1 : Sl 1 encI w0 fp0_1 A0_1 l0_1) (K0_1 : l0_1.length ≤ cap0_1) :
  Calls Tryd.prog 30 #[.agg #[.slice A0_0 l0_0.length cap0_0, .slice A0_1 l0_1.length cap0_1]] w0 fun e w' => ∃ A100 cap100 fp100 fr100, e = .returned (.tuple #[.slice A100 r.1.length cap100, .bool (r.2)]) ∧ OwR 1 encI 24 2 w' fp100 fr100 A100 cap100 r.1 ∧ (∀ x ∈ fp100 ++ fr100, w0.heap.size ≤ x) ∧ Chg [] w0 w' := by
 have L0_0 := F0_0.low
 have L0_1 := F0_1.low
 have hB : Chg [] w0 w0 := Chg.refl _ _
 have hZ := Nat.le_refl w0.heap.size
 unfold m_impl_PiecesOf at hm
 refine enterE (N := 8) Tryd.func30 (by rfl) Tryd.ntmps30 (by simp) [(0, .agg #[.slice A0_0 l0_0.length cap0_0, .slice A0_1 l0_1.length cap0_1])] (by rfl) (by kernel_rfl) (fun a => ?_)
 refine sR <| wS_box (d := 1) (T := 26) (x := .agg #[.slice A0_0 l0_0.length cap0_0, .slice A0_1 l0_1.length cap0_1]) (by kernel_rfl) ?_
 intro b1 w1 G1 F1 hc1
 replace F1 : Cl w1 b1 26 [.slice A0_0 l0_0.length cap0_0, .slice A0_1 l0_1.length cap0_1] := F1
 replace F0_0 := F0_0.c hc1
 replace F0_1 := F0_1.c hc1
 replace hB := hB.q hc1
 replace G1 := Nat.le_trans hZ G1
 replace hZ := hc1.z hZ
 refine wP 2 [(3, .bool (false)), (2, .slice none 0 0)] <| wN <| cW_seq <| sR <| wS_loadA (d := 4) (T := 26) (ad := ⟨b1, 0, none⟩) (vs := [.slice A0_0 l0_0.length cap0_0, .slice A0_1 l0_1.length cap0_1]) (by kernel_rfl) vt26 (fun i u hu => box_cells F1 0 hu (by rfl)) ?_
 obtain ⟨y1, hy1, hm⟩ := bindE hm
 refine sC 5 [.agg #[.slice A0_0 l0_0.length cap0_0, .slice A0_1 l0_1.length cap0_1]] ent36 (c_impl_ValidChannel hy1 F0_0 K0_0 F0_1 K0_1) ?_
 rintro _ w2 ⟨rfl, hc2⟩
 replace F0_0 := F0_0.c hc2
 replace F0_1 := F0_1.c hc2
 replace F1 := F1.c hc2
 replace hB := hB.q hc2
 replace hZ := hc2.z hZ
 refine ⟨.bool (y1), rfl, ?_⟩
 refine wP 1 [(6, .bool (!y1))] <| wN <| cC (!y1) (fun hb1 => ?_) (fun hb1 => ?_)
 ·have hm := condT hb1 hm
  refine sR <| wP 2 [(3, .bool (false)), (2, .slice none 0 0)] <| wN <| cW_ret <| eX_then_ret ?_
  obtain rfl := someE (x := (([], false))) hm
  refine rB (.slice none 0 0) (.bool (false)) 2 3 ?_
  exact ⟨none, 0, [], [], rfl, OwR.nil _, (lowApp lowNil lowNil), hB⟩
 have hm := condF hb1 hm
 refine cW_skip <| eX_then <| sR ?_
 obtain ⟨y2, hy2, hm⟩ := bindE hm
 refine sC 7 [pt b1] ent70 (c_impl_Channel_pieces_bimplChannel hy2 F0_0 F0_1 F1) ?_
 rintro _ w3 ⟨A1, cap1, fp1, fr1, rfl, F2, G2, hc3⟩
 have D1 : Dj [b1] (fp1 ++ fr1) := Dj.of (lt1 F1.lt) G2
 replace F0_0 := F0_0.c hc3
 replace F0_1 := F0_1.c hc3
 replace F1 := F1.c hc3
 replace hB := hB.q hc3
 replace G2 := low_le hZ G2
 replace hZ := hc3.z hZ
 refine ⟨.slice A1 y2.length cap1, rfl, ?_⟩
 refine wP 2 [(3, .bool (true)), (2, .slice A1 y2.length cap1)] <| wN <| cW_ret ?_
 obtain rfl := someE (x := ((y2, true))) hm
 refine rB (.slice A1 y2.length cap1) (.bool (true)) 2 3 ?_
 exact ⟨A1, cap1, fp1, fr1, rfl, F2, G2, hB⟩

set_option maxRecDepth 100000 in
/-- impl.SpanOf -/
theorem c_impl_SpanOf {w0 : World} {l0_0 : List Int} {A0_0 : Option Addr} {cap0_0 : Nat} {fp0_0 : List Nat} {l0_1 : List Int} {A0_1 : Option Addr} {cap0_1 : Nat} {fp0_1 : List Nat} {p1 : Int} {r : (Int) × (Int) × Bool} (hm : m_impl_SpanOf l0_0 l0_1 p1 = some r) (F0_0 : Sl 1 encI w0 fp0_0 A0_0 l0_0) (K0_0 : l0_0.length ≤ cap0_0) (F0_1 : Sl 1 encI w0 fp0_1 A0_1 l0_1) (K0_1 : l0_1.length ≤ cap0_1) :
  Calls Tryd.prog 31 #[.agg #[.slice A0_0 l0_0.length cap0_0, .slice A0_1 l0_1.length cap0_1], ii p1] w0 fun e w' => e = .returned (.tuple #[ii r.1, ii r.2.1, .bool (r.2.2)]) ∧ Chg [] w0 w' := by
 have L0_0 := F0_0.low
 have L0_1 := F0_1.low
 have hB : Chg [] w0 w0 := Chg.refl _ _
 have hZ := Nat.le_refl w0.heap.size
 unfold m_impl_SpanOf at hm
 refine enterE (N := 29) Tryd.func31 (by rfl) Tryd.ntmps31 (by simp) [(0, .agg #[.slice A0_0 l0_0.length cap0_0, .slice A0_1 l0_1.length cap0_1]), (1, ii p1)] (by rfl) (by kernel_rfl) (fun a => ?_)
 refine sR <| wS_box (d := 2) (T := 26) (x := .agg #[.slice A0_0 l0_0.length cap0_0, .slice A0_1 l0_1.length cap0_1]) (by kernel_rfl) ?_
 intro b1 w1 G1 F1 hc1
 replace F1 : Cl w1 b1 26 [.slice A0_0 l0_0.length cap0_0, .slice A0_1 l0_1.length cap0_1] := F1
 replace F0_0 := F0_0.c hc1
 replace F0_1 := F0_1.c hc1
 replace hB := hB.q hc1
 replace G1 := Nat.le_trans hZ G1
 replace hZ := hc1.z hZ
 refine wP 3 [(6, .bool (false)), (5, ii 0), (4, ii 0)] <| wN <| cW_seq <| sR <| wS_loadA (d := 9) (T := 26) (ad := ⟨b1, 0, none⟩) (vs := [.slice A0_0 l0_0.length cap0_0, .slice A0_1 l0_1.length cap0_1]) (by kernel_rfl) vt26 (fun i u hu => box_cells F1 0 hu (by rfl)) ?_
 obtain ⟨y1, hy1, hm⟩ := bindE hm
 refine sC 10 [.agg #[.slice A0_0 l0_0.length cap0_0, .slice A0_1 l0_1.length cap0_1]] ent36 (c_impl_ValidChannel hy1 F0_0 K0_0 F0_1 K0_1) ?_
 rintro _ w2 ⟨rfl, hc2⟩
 replace F0_0 := F0_0.c hc2
 replace F0_1 := F0_1.c hc2
 replace F1 := F1.c hc2
 replace hB := hB.q hc2
 replace hZ := hc2.z hZ
 refine ⟨.bool (y1), rfl, ?_⟩
 refine wP 2 [(12, .bool (!y1)), (11, .bool (!y1))] <| wS_bool (!y1) (fun hb1 => ?_) (fun hb1 => ?_)
 ·have hm := condT hb1 hm
  rewrite [hb1]
  refine wP 9 [(21, .bool (true)), (20, undef), (19, undef), (18, undef), (17, undef), (16, .bool (true)), (15, .bool (true)), (14, undef), (13, undef)] <| wN <| cCt <| sR <| wP 3 [(6, .bool (false)), (5, ii 0), (4, ii 0)] <| wN <| cW_ret <| eX_then_ret ?_
  obtain rfl := someE (x := ((0, 0, false))) hm
  refine eX_ret (vs := [ii 0, ii 0, .bool (false)]) [.tmp 4, .tmp 5, .tmp 6] (by rfl) ⟨by (show lkE _ _ _ = _); kernel_rfl, ⟨by (show lkE _ _ _ = _); kernel_rfl, ⟨by (show lkE _ _ _ = _); kernel_rfl, trivial⟩⟩⟩ ?_
  exact ⟨rfl, hB⟩
 have hm := condF hb1 hm
 rewrite [hb1]
 refine wP 4 [(16, .bool (decide (p1 < 1))), (15, .bool (decide (p1 < 1))), (14, .bool (decide (p1 < 1))), (13, ii p1)] <| wS_bool (decide (p1 < 1)) (fun hb2 => ?_) (fun hb2 => ?_)
 ·have hm := condT hb2 hm
  rewrite [hb2]
  refine wP 5 [(21, .bool (true)), (20, undef), (19, undef), (18, undef), (17, undef)] <| wN <| cCt <| sR <| wP 3 [(6, .bool (false)), (5, ii 0), (4, ii 0)] <| wN <| cW_ret <| eX_then_ret ?_
  obtain rfl := someE (x := ((0, 0, false))) hm
  refine eX_ret (vs := [ii 0, ii 0, .bool (false)]) [.tmp 4, .tmp 5, .tmp 6] (by rfl) ⟨by (show lkE _ _ _ = _); kernel_rfl, ⟨by (show lkE _ _ _ = _); kernel_rfl, ⟨by (show lkE _ _ _ = _); kernel_rfl, trivial⟩⟩⟩ ?_
  exact ⟨rfl, hB⟩
 have hm := condF hb2 hm
 rewrite [hb2]
 refine wP 1 [(17, ii p1)] ?_
 obtain ⟨y2, hy2, hm⟩ := bindE hm
 refine sC 18 [pt b1, ii p1] ent73 (c_impl_Channel_columns_bimplChannel hy2 F0_0 F0_1 F1) ?_
 rintro _ w3 ⟨A1, cap1, fp1, rfl, F2, G2, hc3⟩
 have D1 : Dj [b1] fp1 := Dj.of (lt1 F1.lt) G2
 replace F0_0 := F0_0.c hc3
 replace F0_1 := F0_1.c hc3
 replace F1 := F1.c hc3
 replace hB := hB.q hc3
 replace G2 := low_le hZ G2
 replace hZ := hc3.z hZ
 refine ⟨.slice A1 y2.length cap1, rfl, ?_⟩
 refine wP 3 [(21, .bool (((y2.length : Int)) == 0)), (20, .bool (((y2.length : Int)) == 0)), (19, ii (y2.length : Int))] <| wN <| cC (((y2.length : Int)) == 0) (fun hb3 => ?_) (fun hb3 => ?_)
 ·have hm := condT hb3 hm
  refine sR <| wP 3 [(6, .bool (false)), (5, ii 0), (4, ii 0)] <| wN <| cW_ret <| eX_then_ret ?_
  obtain rfl := someE (x := ((0, 0, false))) hm
  refine eX_ret (vs := [ii 0, ii 0, .bool (false)]) [.tmp 4, .tmp 5, .tmp 6] (by rfl) ⟨by (show lkE _ _ _ = _); kernel_rfl, ⟨by (show lkE _ _ _ = _); kernel_rfl, ⟨by (show lkE _ _ _ = _); kernel_rfl, trivial⟩⟩⟩ ?_
  exact ⟨rfl, hB⟩
 have hm := condF hb3 hm
 refine cW_skip <| eX_then <| sR <| wP 1 [(23, ii p1)] ?_
 obtain ⟨y3, hy3, hm⟩ := bindE hm
 refine sC 24 [pt b1, ii p1] ent50 (c_impl_Channel_span_bimplChannel hy3 F0_0 F0_1 F1) ?_
 rintro _ w4 ⟨rfl, hc4⟩
 replace F0_0 := F0_0.c hc4
 replace F0_1 := F0_1.c hc4
 replace F1 := F1.c hc4
 replace F2 := F2.c hc4
 replace hB := hB.q hc4
 replace hZ := hc4.z hZ
 refine ⟨.tuple #[ii y3.1, ii y3.2], rfl, ?_⟩
 refine wP 5 [(8, ii y3.2), (7, ii y3.1), (26, ii y3.2), (25, ii y3.1), (22, .tuple #[ii y3.1, ii y3.2])] <| wN <| cP [(7, ii y3.1), (8, ii y3.2)] (fun a1 => ?_)
 refine sR <| wP 5 [(6, .bool (true)), (5, ii y3.2), (4, ii y3.1), (28, ii y3.2), (27, ii y3.1)] <| wN <| cW_ret ?_
 obtain rfl := someE (x := ((y3.1, y3.2, true))) hm
 refine eX_ret (vs := [ii y3.1, ii y3.2, .bool (true)]) [.tmp 4, .tmp 5, .tmp 6] (by rfl) ⟨by (show lkE _ _ _ = _); kernel_rfl, ⟨by (show lkE _ _ _ = _); kernel_rfl, ⟨by (show lkE _ _ _ = _); kernel_rfl, trivial⟩⟩⟩ ?_
 exact ⟨rfl, hB⟩

set_option maxRecDepth 100000 in
/-- impl.IsPieceRouting -/
theorem c_impl_IsPieceRouting {w0 : World} {l0_0 : List Int} {A0_0 : Option Addr} {cap0_0 : Nat} {fp0_0 : List Nat} {l0_1 : List Int} {A0_1 : Option Addr} {cap0_1 : Nat} {fp0_1 : List Nat} {l1 : List (List Int)} {A1 : Option Addr} {cap1 : Nat} {fp1 : List Nat} {r : Bool} (hm : m_impl_IsPieceRouting l0_0 l0_1 l1 = some r) (F0_0 : Sl 1 encI w0 fp0_0 A0_0 l0_0) (K0_0 : l0_0.length ≤ cap0_0) (F0_1 : Sl 1 encI w0 fp0_1 A0_1 l0_1) (K0_1 : l0_1.length ≤ cap0_1) (F1 : SlR 1 encI w0 fp1 A1 l1) :
  Calls Tryd.prog 32 #[.agg #[.slice A0_0 l0_0.length cap0_0, .slice A0_1 l0_1.length cap0_1], .slice A1 l1.length cap1] w0 fun e w' => e = .returned (.bool (r)) ∧ Chg [] w0 w' := by
 have L0_0 := F0_0.low
 have L0_1 := F0_1.low
 have L1 := F1.low
 have hB : Chg [] w0 w0 := Chg.refl _ _
 have hZ := Nat.le_refl w0.heap.size
 unfold m_impl_IsPieceRouting at hm
 refine enterE (N := 35) Tryd.func32 (by rfl) Tryd.ntmps32 (by simp) [(0, .agg #[.slice A0_0 l0_0.length cap0_0, .slice A0_1 l0_1.length cap0_1]), (1, .slice A1 l1.length cap1)] (by rfl) (by kernel_rfl) (fun a => ?_)
 refine sR <| wS_box (d := 2) (T := 26) (x := .agg #[.slice A0_0 l0_0.length cap0_0, .slice A0_1 l0_1.length cap0_1]) (by kernel_rfl) ?_
 intro b1 w1 G1 F2 hc1
 replace F2 : Cl w1 b1 26 [.slice A0_0 l0_0.length cap0_0, .slice A0_1 l0_1.length cap0_1] := F2
 replace F0_0 := F0_0.c hc1
 replace F0_1 := F0_1.c hc1
 replace F1 := F1.c hc1
 replace hB := hB.q hc1
 replace G1 := Nat.le_trans hZ G1
 replace hZ := hc1.z hZ
 refine wP 1 [(4, .bool (false))] <| wN <| cW_seq <| sR <| wS_loadA (d := 9) (T := 26) (ad := ⟨b1, 0, none⟩) (vs := [.slice A0_0 l0_0.length cap0_0, .slice A0_1 l0_1.length cap0_1]) (by kernel_rfl) vt26 (fun i u hu => box_cells F2 0 hu (by rfl)) ?_
 obtain ⟨y1, hy1, hm⟩ := bindE hm
 refine sC 10 [.agg #[.slice A0_0 l0_0.length cap0_0, .slice A0_1 l0_1.length cap0_1]] ent36 (c_impl_ValidChannel hy1 F0_0 K0_0 F0_1 K0_1) ?_
 rintro _ w2 ⟨rfl, hc2⟩
 replace F0_0 := F0_0.c hc2
 replace F0_1 := F0_1.c hc2
 replace F1 := F1.c hc2
 replace F2 := F2.c hc2
 replace hB := hB.q hc2
 replace hZ := hc2.z hZ
 refine ⟨.bool (y1), rfl, ?_⟩
 refine wP 1 [(11, .bool (!y1))] <| wN <| cC (!y1) (fun hb1 => ?_) (fun hb1 => ?_)
 ·have hm := condT hb1 hm
  refine sR <| wP 1 [(4, .bool (false))] <| wN <| cW_ret <| eX_then_ret ?_
  obtain rfl := someE (x := false) hm
  refine rA (.bool (false)) 4 ?_
  exact ⟨rfl, hB⟩
 have hm := condF hb1 hm
 refine cW_skip <| eX_then <| sR <| wS_bs0 (α := Int) (enc := encI) (d := 12) (t := 24) (T := 2) (by kernel_rfl) el24 ?_
 intro b2 w3 G2 F3 hc3
 have D1 : Dj [b1] [b2] := Dj.of (lt1 F2.lt) (low1 G2)
 replace F0_0 := F0_0.c hc3
 replace F0_1 := F0_1.c hc3
 replace F1 := F1.c hc3
 replace F2 := F2.c hc3
 replace hB := hB.q hc3
 replace G2 := Nat.le_trans hZ G2
 replace G2 := low1 G2
 replace hZ := hc3.z hZ
 refine wP 1 [(5, .slice (some ⟨b2, 0, none⟩) (([] : List Int)).length 0)] <| wN <| cW_seq <| sR ?_
 obtain ⟨y2, hy2, hm⟩ := bindE hm
 refine sC 13 [pt b1] ent70 (c_impl_Channel_pieces_bimplChannel hy2 F0_0 F0_1 F2) ?_
 rintro _ w4 ⟨A3, cap3, fp2, fr1, rfl, F4, G3, hc4⟩
 have D2 : Dj [b1] (fp2 ++ fr1) := Dj.of (lt1 F2.lt) G3
 have D3 : Dj [b2] (fp2 ++ fr1) := Dj.of F3.low G3
 replace F0_0 := F0_0.c hc4
 replace F0_1 := F0_1.c hc4
 replace F1 := F1.c hc4
 replace F2 := F2.c hc4
 replace F3 := F3.c hc4
 replace hB := hB.q hc4
 replace G3 := low_le hZ G3
 replace hZ := hc4.z hZ
 refine ⟨.slice A3 y2.length cap3, rfl, ?_⟩
 refine wP 2 [(15, ii 0), (14, ii (y2.length : Int))] <| wN ?_
 obtain ⟨r1, hr1, hm⟩ := bindE hm
 have hm1 := hm
 refine cW_cut (fun a' w' => ∃ l3 : List Int, ∃ A4 : Option Addr, ∃ cap4 : Nat, ∃ fp3 : List Nat, l3 = r1 ∧ Fr 35 [(1, .slice A1 l1.length cap1), (2, pt b1), (5, .slice A4 l3.length cap4)] a' ∧ Sl 1 encI w' fp0_0 A0_0 l0_0 ∧ Sl 1 encI w' fp0_1 A0_1 l0_1 ∧ SlR 1 encI w' fp1 A1 l1 ∧ Cl w' b1 26 [.slice A0_0 l0_0.length cap0_0, .slice A0_1 l0_1.length cap0_1] ∧ Ow 1 encI 2 w' fp3 A4 cap4 l3 ∧ (∀ x ∈ fp3, w0.heap.size ≤ x) ∧ Dj [b1] fp3 ∧ Chg [] w0 w' ∧ w0.heap.size ≤ w'.heap.size) ?_ ?_
 ·refine cW_block ?_
  refine cW_loop _ (fun (s1 : (List Int) × Int) a' w' => ∃ l4 : List Int, ∃ A5 : Option Addr, ∃ cap5 : Nat, ∃ fp4 : List Nat, ∃ x1 : Int, (l4, x1) = s1 ∧ Fr 35 [(1, .slice A1 l1.length cap1), (2, pt b1), (5, .slice A5 l4.length cap5), (14, ii (y2.length : Int)), (15, ii x1)] a' ∧ Sl 1 encI w' fp0_0 A0_0 l0_0 ∧ Sl 1 encI w' fp0_1 A0_1 l0_1 ∧ SlR 1 encI w' fp1 A1 l1 ∧ Cl w' b1 26 [.slice A0_0 l0_0.length cap0_0, .slice A0_1 l0_1.length cap0_1] ∧ Ow 1 encI 2 w' fp4 A5 cap5 l4 ∧ (∀ x ∈ fp4, w0.heap.size ≤ x) ∧ Dj [b1] fp4 ∧ Chg [] w0 w' ∧ w0.heap.size ≤ w'.heap.size) hr1 (fun hst => ⟨([] : List Int), (some ⟨b2, 0, none⟩), 0, [b2], 0, rfl, fO hst, F0_0, F0_1, F1, F2, F3, G2, D1, hB, hZ⟩) ?_
  rintro _ c1 a' w5 ⟨l4, A5, cap5, fp4, x1, rfl, hF1, F5, F6, F7, F8, F9, G4, D4, hB, hZ⟩ hx1
  refine gO hF1 ?_
  have hm := hx1
  unfold m_impl_IsPieceRouting_s1 at hm
  refine sR <| wP 1 [(16, .bool (decide (x1 < ((y2.length : Int)))))] <| wN <| cW_seq <| cC (decide (x1 < ((y2.length : Int)))) (fun hb2 => ?_) (fun hb2 => ?_)
  ·have hm := condT hb2 hm
   refine cW_skip <| eX_then <| cW_seq <| cW_block <| sR <| wP 2 [(6, ii x1), (17, ii x1)] <| wN <| cW_region <| wP 2 [(19, ii x1), (18, .slice A5 l4.length cap5)] <| wS_bs (enc := encI) ([x1] : List Int) [ii x1] (d := 20) (t := 24) (T := 2) (n := 1) (ps := [(0, ii x1)]) (by kernel_rfl) el24 encI_ok (by rfl) (by omega) (by omega) (by kernel_rfl) (by rfl) ?_
   intro b3 w6 G5 F10 hc5
   have D5 : Dj [b1] [b3] := Dj.of (lt1 F8.lt) (low1 G5)
   have D6 : Dj fp4 [b3] := Dj.of F9.low (low1 G5)
   replace F5 := F5.c hc5
   replace F6 := F6.c hc5
   replace F7 := F7.c hc5
   replace F8 := F8.c hc5
   replace F9 := F9.c hc5
   replace hB := hB.q hc5
   replace G5 := Nat.le_trans hZ G5
   replace G5 := low1 G5
   replace hZ := hc5.z hZ
   obtain ⟨_, hk1, hm⟩ := bindE hm
   replace hk1 := apE hk1
   refine wS_append (enc := encI) (l := (l4 : List Int)) (l2 := (([x1] : List Int) : List Int)) (d := 21) (t := 24) (T := 2) (A := A5) (A2 := (some ⟨b3, 0, none⟩)) (cap := cap5) (cap2 := 1) (by kernel_rfl) el24 encI_ok F9 (F10.sl encI_ok) (by rfl) hk1 ?_
   intro w7 fp5 A6 cap6 F11 hc6 hp1
   have G6 := low_ap G4 hZ hp1
   have D7 : Dj [b1] fp5 := Dj.ap D4 (lt1 F8.lt) hp1
   have D8 : Dj [b3] fp5 := Dj.ap (D6).symm F10.low hp1
   replace F5 := F5.chg hc6 (Dj.of L0_0 G4)
   replace F6 := F6.chg hc6 (Dj.of L0_1 G4)
   replace F7 := F7.chg hc6 (Dj.of L1 G4)
   replace F8 := F8.chg hc6 (dj1 D4)
   replace F10 := F10.chg hc6 (D6).symm
   replace hB := hB.inS hc6 (inLow G4)
   replace hZ := hc6.z hZ
   refine wP 1 [(5, .slice A6 (l4 ++ (([x1] : List Int))).length cap6)] <| wE <| eX_block <| eX_then <| cW_region <| wP 2 [(15, ii (wr (x1 + 1))), (22, ii (wr (x1 + 1)))] <| wE ?_
   obtain rfl := someE (x := (Ctl.next ((l4 ++ (([x1] : List Int)), wr (x1 + 1))))) hm
   exact eX_next hx1 (fun hst => ⟨l4 ++ (([x1] : List Int)), A6, cap6, fp5, wr (x1 + 1), rfl, fO hst, F5, F6, F7, F8, F11, G6, D7, hB, hZ⟩)
  have hm := condF hb2 hm
  refine cW_exit <| eX_then_exit ?_
  obtain rfl := someE (x := Ctl.out l4) hm
  refine eX_outX hx1 (fun hr2 => ?_)
  replace hr2 := hr2.symm
  subst hr2
  refine eX_block_hit ?_
  exact eX_J (fun hst => ⟨l4, A5, cap5, fp4, rfl, fO hst, F5, F6, F7, F8, F9, G4, D4, hB, hZ⟩)
 rintro a' w8 ⟨l3, A4, cap4, fp3, hJ, hF2, F12, F13, F14, F15, F16, G7, D9, hB, hZ⟩
 subst hJ
 refine gX hF2 <| eX_then <| sR <| wP 2 [(25, .slice A4 l3.length cap4), (24, .slice A1 l1.length cap1)] ?_
 obtain ⟨y3, hy3, hm⟩ := bindE hm
 refine sC 26 [.slice A1 l1.length cap1, .slice A4 l3.length cap4] ent58 (c_impl_places hy3 F14 (F16.sl encI_ok)) ?_
 rintro _ w9 ⟨A7, cap7, fp6, fr2, rfl, F17, G8, hc7⟩
 have D10 : Dj [b1] (fp6 ++ fr2) := Dj.of (lt1 F15.lt) G8
 have D11 : Dj fp3 (fp6 ++ fr2) := Dj.of F16.low G8
 replace F12 := F12.c hc7
 replace F13 := F13.c hc7
 replace F14 := F14.c hc7
 replace F15 := F15.c hc7
 replace F16 := F16.c hc7
 replace hB := hB.q hc7
 replace G8 := low_le hZ G8
 replace hZ := hc7.z hZ
 refine ⟨.tuple #[.slice A7 y3.1.length cap7, .bool (y3.2)], rfl, ?_⟩
 refine wP 5 [(8, .bool (y3.2)), (7, .slice A7 y3.1.length cap7), (28, .bool (y3.2)), (27, .slice A7 y3.1.length cap7), (23, .tuple #[.slice A7 y3.1.length cap7, .bool (y3.2)])] <| wN <| sR <| wP 2 [(30, .bool (y3.2)), (29, .bool (y3.2))] <| wS_bool y3.2 (fun hb3 => ?_) (fun hb3 => ?_)
 ·have hm := condT hb3 hm
  rewrite [hb3]
  obtain ⟨y4, hy4, hm⟩ := bindE hm
  refine sC 31 [pt b1] ent71 (c_impl_Channel_pieceOrder_bimplChannel hy4 F12 F13 F15) ?_
  rintro _ w10 ⟨A8, cap8, fp7, A9, cap9, fp8, rfl, F18, G9, F19, G10, D12, hc8⟩
  have D13 : Dj [b1] fp7 := Dj.of (lt1 F15.lt) G9
  have D14 : Dj fp3 fp7 := Dj.of F16.low G9
  have D15 : Dj (fp6 ++ fr2) fp7 := Dj.of F17.low G9
  have D16 : Dj [b1] fp8 := Dj.of (lt1 F15.lt) G10
  have D17 : Dj fp3 fp8 := Dj.of F16.low G10
  have D18 : Dj (fp6 ++ fr2) fp8 := Dj.of F17.low G10
  replace F12 := F12.c hc8
  replace F13 := F13.c hc8
  replace F14 := F14.c hc8
  replace F15 := F15.c hc8
  replace F16 := F16.c hc8
  replace F17 := F17.c hc8
  replace hB := hB.q hc8
  replace G9 := low_le hZ G9
  replace G10 := low_le hZ G10
  replace hZ := hc8.z hZ
  refine ⟨.agg #[.slice A8 y4.1.length cap8, .slice A9 y4.2.length cap9], rfl, ?_⟩
  refine wP 1 [(32, .slice A7 y3.1.length cap7)] ?_
  obtain ⟨y5, hy5, hm⟩ := bindE hm
  refine sC 33 [.agg #[.slice A8 y4.1.length cap8, .slice A9 y4.2.length cap9], .slice A7 y3.1.length cap7] ent59 (c_impl_order_setsOk hy5 (F18.sl encI_ok) (F19.sl encI_ok) (F17.slr encI_ok)) ?_
  rintro _ w11 ⟨rfl, hc9⟩
  replace F12 := F12.c hc9
  replace F13 := F13.c hc9
  replace F14 := F14.c hc9
  replace F15 := F15.c hc9
  replace F16 := F16.c hc9
  replace F17 := F17.c hc9
  replace F18 := F18.c hc9
  replace F19 := F19.c hc9
  replace hB := hB.q hc9
  replace hZ := hc9.z hZ
  refine ⟨.bool (y5), rfl, ?_⟩
  refine wP 2 [(4, .bool (y5)), (34, .bool (y5))] <| wN <| cW_ret ?_
  obtain rfl := someE (x := y5) hm
  refine rA (.bool (y5)) 4 ?_
  exact ⟨rfl, hB⟩
 have hm := condF hb3 hm
 rewrite [hb3]
 refine wP 5 [(4, .bool (false)), (34, .bool (false)), (33, undef), (32, undef), (31, undef)] <| wN <| cW_ret ?_
 obtain rfl := someE (x := false) hm
 refine rA (.bool (false)) 4 ?_
 exact ⟨rfl, hB⟩

set_option maxRecDepth 100000 in
/-- laws.FnDoglegs -/
theorem c_laws_FnDoglegs {w0 : World} {l0 : List Int} {A0 : Option Addr} {cap0 : Nat} {fp0 : List Nat} {l1 : List Int} {A1 : Option Addr} {cap1 : Nat} {fp1 : List Nat} {r : Bool} (hm : m_laws_FnDoglegs l0 l1 = some r) (F0 : Sl 1 encU w0 fp0 A0 l0) (F1 : Sl 1 encU w0 fp1 A1 l1) (FG : Sl 1 encU w0 [1] (some ⟨1, 0, none⟩) tab64) :
  Calls Tryd.prog 6 #[.slice A0 l0.length cap0, .slice A1 l1.length cap1] w0 fun e w' => e = .returned (.bool (r)) ∧ Chg [] w0 w' := by
 have L0 := F0.low
 have L1 := F1.low
 have Lg := FG.low
 have hB : Chg [] w0 w0 := Chg.refl _ _
 have hZ := Nat.le_refl w0.heap.size
 unfold m_laws_FnDoglegs at hm
 refine enterE (N := 164) Tryd.func6 (by rfl) Tryd.ntmps6 (by simp) [(0, .slice A0 l0.length cap0), (1, .slice A1 l1.length cap1)] (by rfl) (by kernel_rfl) (fun a => ?_)
 refine sR <| wP 1 [(4, .bool (false))] <| wN <| cW_seq <| sR <| wP 2 [(22, .slice A1 l1.length cap1), (21, .slice A0 l0.length cap0)] ?_
 obtain ⟨y1, hy1, hm⟩ := bindE hm
 refine sC 23 [.slice A0 l0.length cap0, .slice A1 l1.length cap1] ent7 (c_laws_b10Long hy1 F0 F1) ?_
 rintro _ w1 ⟨rfl, hc1⟩
 replace F0 := F0.c hc1
 replace F1 := F1.c hc1
 replace FG := FG.c hc1
 replace hB := hB.q hc1
 replace hZ := hc1.z hZ
 refine ⟨.bool (y1), rfl, ?_⟩
 refine wN <| cC y1 (fun hb1 => ?_) (fun hb1 => ?_)
 ·have hm := condT hb1 hm
  refine sR <| wP 1 [(4, .bool (true))] <| wN <| cW_ret <| eX_then_ret ?_
  obtain rfl := someE (x := true) hm
  refine rA (.bool (true)) 4 ?_
  exact ⟨rfl, hB⟩
 have hm := condF hb1 hm
 refine cW_skip <| eX_then <| sR <| wP 1 [(24, .slice A0 l0.length cap0)] ?_
 obtain ⟨y2, hy2, hm⟩ := bindE hm
 refine sC 25 [.slice A0 l0.length cap0] ent8 (c_spec_B10Channel hy2 F0) ?_
 rintro _ w2 ⟨A2, cap2, fp2, A3, cap3, fp3, rfl, F2, G1, F3, G2, D1, hc2⟩
 replace F0 := F0.c hc2
 replace F1 := F1.c hc2
 replace FG := FG.c hc2
 replace hB := hB.q hc2
 replace G1 := low_le hZ G1
 replace G2 := low_le hZ G2
 replace hZ := hc2.z hZ
 refine ⟨.agg #[.slice A2 y2.1.length cap2, .slice A3 y2.2.length cap3], rfl, ?_⟩
 refine wS_alloc (d := 5) (T := 26) (z := .agg #[.slice none 0 0, .slice none 0 0]) (by kernel_rfl) (by kernel_rfl) ?_
 intro b1 w3 G3 F4 hc3
 replace F4 : Cl w3 b1 26 [.slice none 0 0, .slice none 0 0] := F4
 have D2 : Dj fp2 [b1] := Dj.of F2.low (low1 G3)
 have D3 : Dj fp3 [b1] := Dj.of F3.low (low1 G3)
 replace F0 := F0.c hc3
 replace F1 := F1.c hc3
 replace FG := FG.c hc3
 replace F2 := F2.c hc3
 replace F3 := F3.c hc3
 replace hB := hB.q hc3
 replace G3 := Nat.le_trans hZ G3
 replace hZ := hc3.z hZ
 refine wS_store (T := 26) (g := b1) (o := 0) (ad := ⟨b1, 0, none⟩) (v := .agg #[.slice A2 y2.1.length cap2, .slice A3 y2.2.length cap3]) (vs := [.slice A2 y2.1.length cap2, .slice A3 y2.2.length cap3]) (by kernel_rfl) (by rfl) sz26 (by rfl) (by rfl) F4 (by simp only [List.length_cons, List.length_nil]; omega) ?_
 intro w4 F5 hc4
 replace F0 := F0.chg hc4 (Dj.of L0 (low1 G3))
 replace F1 := F1.chg hc4 (Dj.of L1 (low1 G3))
 replace FG := FG.chg hc4 (Dj.of Lg (low1 G3))
 replace F2 := F2.chg hc4 D2
 replace F3 := F3.chg hc4 D3
 replace hB := hB.inS hc4 (inLow (low1 G3))
 replace hZ := hc4.z hZ
 replace F5 : Cl w4 b1 26 [.slice A2 y2.1.length cap2, .slice A3 y2.2.length cap3] := F5
 clear F4
 refine wN <| sR <| wS_loadA (d := 27) (T := 26) (ad := ⟨b1, 0, none⟩) (vs := [.slice A2 y2.1.length cap2, .slice A3 y2.2.length cap3]) (by kernel_rfl) vt26 (fun i u hu => box_cells F5 0 hu (by rfl)) ?_
 obtain ⟨y3, hy3, hm⟩ := bindE hm
 refine sC 28 [.agg #[.slice A2 y2.1.length cap2, .slice A3 y2.2.length cap3]] ent30 (c_impl_PiecesOf hy3 (F2.sl encI_ok) F2.cap_le (F3.sl encI_ok) F3.cap_le) ?_
 rintro _ w5 ⟨A4, cap4, fp4, fr1, rfl, F6, G4, hc5⟩
 have D4 : Dj fp2 (fp4 ++ fr1) := Dj.of F2.low G4
 have D5 : Dj fp3 (fp4 ++ fr1) := Dj.of F3.low G4
 have D6 : Dj [b1] (fp4 ++ fr1) := Dj.of (lt1 F5.lt) G4
 replace F0 := F0.c hc5
 replace F1 := F1.c hc5
 replace FG := FG.c hc5
 replace F2 := F2.c hc5
 replace F3 := F3.c hc5
 replace F5 := F5.c hc5
 replace hB := hB.q hc5
 replace G4 := low_le hZ G4
 replace hZ := hc5.z hZ
 refine ⟨.tuple #[.slice A4 y3.1.length cap4, .bool (y3.2)], rfl, ?_⟩
 refine wP 5 [(7, .bool (y3.2)), (6, .slice A4 y3.1.length cap4), (30, .bool (y3.2)), (29, .slice A4 y3.1.length cap4), (26, .tuple #[.slice A4 y3.1.length cap4, .bool (y3.2)])] <| wN <| sR <| wS_loadA (d := 32) (T := 26) (ad := ⟨b1, 0, none⟩) (vs := [.slice A2 y2.1.length cap2, .slice A3 y2.2.length cap3]) (by kernel_rfl) vt26 (fun i u hu => box_cells F5 0 hu (by rfl)) ?_
 obtain ⟨y4, hy4, hm⟩ := bindE hm
 refine sC 33 [.agg #[.slice A2 y2.1.length cap2, .slice A3 y2.2.length cap3]] ent14 (c_impl_NetsOf hy4 (F2.sl encI_ok) F2.cap_le (F3.sl encI_ok) F3.cap_le) ?_
 rintro _ w6 ⟨A5, cap5, fp5, rfl, F7, G5, hc6⟩
 have D7 : Dj fp2 fp5 := Dj.of F2.low G5
 have D8 : Dj fp3 fp5 := Dj.of F3.low G5
 have D9 : Dj [b1] fp5 := Dj.of (lt1 F5.lt) G5
 have D10 : Dj (fp4 ++ fr1) fp5 := Dj.of F6.low G5
 replace F0 := F0.c hc6
 replace F1 := F1.c hc6
 replace FG := FG.c hc6
 replace F2 := F2.c hc6
 replace F3 := F3.c hc6
 replace F5 := F5.c hc6
 replace F6 := F6.c hc6
 replace hB := hB.q hc6
 replace G5 := low_le hZ G5
 replace hZ := hc6.z hZ
 refine ⟨.tuple #[.slice A5 y4.1.length cap5, .bool (y4.2)], rfl, ?_⟩
 refine wP 5 [(9, .bool (y4.2)), (8, .slice A5 y4.1.length cap5), (35, .bool (y4.2)), (34, .slice A5 y4.1.length cap5), (31, .tuple #[.slice A5 y4.1.length cap5, .bool (y4.2)])] <| wN <| cW_seq <| sR <| wP 3 [(38, .bool (!y3.2)), (37, .bool (!y3.2)), (36, .bool (y3.2))] <| wS_bool (!y3.2) (fun hb2 => ?_) (fun hb2 => ?_)
 ·have hm := condT hb2 hm
  rewrite [hb2]
  refine wP 3 [(41, .bool (true)), (40, undef), (39, undef)] <| wN <| cP [(5, pt b1), (6, .slice A4 y3.1.length cap4), (8, .slice A5 y4.1.length cap5), (41, .bool (true))] (fun a1 => ?_)
  refine cCt <| sR <| wP 1 [(4, .bool (false))] <| wN <| cW_ret <| eX_then_ret ?_
  obtain rfl := someE (x := false) hm
  refine rA (.bool (false)) 4 ?_
  exact ⟨rfl, hB⟩
 have hm := condF hb2 hm
 rewrite [hb2]
 refine wP 3 [(41, .bool (!y4.2)), (40, .bool (!y4.2)), (39, .bool (y4.2))] <| wN <| cP [(5, pt b1), (6, .slice A4 y3.1.length cap4), (8, .slice A5 y4.1.length cap5), (41, .bool (!y4.2))] (fun a2 => ?_)
 refine cC (!y4.2) (fun hb3 => ?_) (fun hb3 => ?_)
 ·have hm := condT hb3 hm
  refine sR <| wP 1 [(4, .bool (false))] <| wN <| cW_ret <| eX_then_ret ?_
  obtain rfl := someE (x := false) hm
  refine rA (.bool (false)) 4 ?_
  exact ⟨rfl, hB⟩
 have hm := condF hb3 hm
 refine cW_skip <| eX_then <| sR <| wP 1 [(10, ii 0)] <| wN <| cW_seq <| sR <| wP 1 [(11, ii 0)] <| wN ?_
 obtain ⟨r1, hr1, hm⟩ := bindE hm
 have hm1 := hm
 refine cW_cut (fun a' w' => ∃ x1 : Int, Sum.inl x1 = r1 ∧ Fr 164 [(5, pt b1), (6, .slice A4 y3.1.length cap4), (10, ii x1)] a' ∧ Sl 1 encU w' [1] (some ⟨1, 0, none⟩) tab64 ∧ Ow 1 encI 2 w' fp2 A2 cap2 y2.1 ∧ Ow 1 encI 2 w' fp3 A3 cap3 y2.2 ∧ Cl w' b1 26 [.slice A2 y2.1.length cap2, .slice A3 y2.2.length cap3] ∧ OwR 1 encI 24 2 w' fp4 fr1 A4 cap4 y3.1 ∧ Chg [] w0 w' ∧ w0.heap.size ≤ w'.heap.size) ?_ ?_
 ·refine cW_block ?_
  refine cW_loop _ (fun (s1 : Int × Int) a' w' => ∃ x2 : Int, ∃ x3 : Int, (x2, x3) = s1 ∧ Fr 164 [(5, pt b1), (6, .slice A4 y3.1.length cap4), (8, .slice A5 y4.1.length cap5), (10, ii x2), (11, ii x3)] a' ∧ Sl 1 encU w' [1] (some ⟨1, 0, none⟩) tab64 ∧ Ow 1 encI 2 w' fp2 A2 cap2 y2.1 ∧ Ow 1 encI 2 w' fp3 A3 cap3 y2.2 ∧ Cl w' b1 26 [.slice A2 y2.1.length cap2, .slice A3 y2.2.length cap3] ∧ OwR 1 encI 24 2 w' fp4 fr1 A4 cap4 y3.1 ∧ Ow 1 encI 2 w' fp5 A5 cap5 y4.1 ∧ Chg [] w0 w' ∧ w0.heap.size ≤ w'.heap.size) hr1 (fun hst => ⟨0, 0, rfl, fO hst, FG, F2, F3, F5, F6, F7, hB, hZ⟩) ?_
  rintro _ c1 a' w7 ⟨x2, x3, rfl, hF1, F8, F9, F10, F11, F12, F13, hB, hZ⟩ hx1
  refine gO hF1 ?_
  have hm := hx1
  unfold m_laws_FnDoglegs_s3 at hm
  refine cW_seq <| sR <| wP 4 [(45, .bool (decide (x3 < ((y4.1.length : Int))))), (44, ii (y4.1.length : Int)), (43, .slice A5 y4.1.length cap5), (42, ii x3)] <| wN <| cC (decide (x3 < ((y4.1.length : Int)))) (fun hb4 => ?_) (fun hb4 => ?_)
  ·have hm := condT hb4 hm
   refine cW_skip <| eX_then <| cW_seq <| cW_block <| cW_seq <| cW_drawnTail [] 12 (by kernel_rfl) (by kernel_rfl) (fun w8 hc7 => ?_)
   replace F8 := F8.c hc7
   replace F9 := F9.c hc7
   replace F10 := F10.c hc7
   replace F11 := F11.c hc7
   replace F12 := F12.c hc7
   replace F13 := F13.c hc7
   replace hB := hB.q hc7
   replace hZ := hc7.z hZ
   have hS := Chg.refl [] w8
   have Z1 := F8
   have Z2 := F9
   have Z3 := F10
   have Z4 := F11
   have Z5 := F12
   have Z6 := F13
   refine wH_loadA (i := 0) (d := 49) (T := 26) (ad := ⟨b1, 0, none⟩) (vs := [.slice A2 y2.1.length cap2, .slice A3 y2.2.length cap3]) (by kernel_rfl) (qT (qT (qB (qT (qL (qB (qT (qT qZ)))))))) (by kernel_rfl) (by kernel_rfl) vt26 (fun W hW i u hu => box_cells (Z4.c hW) 0 hu (by rfl)) ?_
   refine hT [1, 2] [(51, ii x3), (50, .slice A5 y4.1.length cap5)] ?_
   obtain ⟨x4, hx2, hm⟩ := bindE hm
   refine hI 3 52 A5 y4.1.length cap5 .i64 x3 sl24 ((F13.sl encI_ok).is hx2) <| hL 4 53 (elA A5 1 (x3) 0) (ii x4) vt2 (fun W hW => Sl.cell ((Z6.c hW).sl encI_ok) hx2 0 (by rfl)) ?_
   refine wH_all [5] (by rfl) (by kernel_rfl) (by simp) ⟨⟨by kernel_rfl, ?_⟩, trivial⟩
   obtain ⟨y5, hy5, hm⟩ := bindE hm
   refine sC 54 [.agg #[.slice A2 y2.1.length cap2, .slice A3 y2.2.length cap3], ii x4] ent31 (c_impl_SpanOf hy5 (F9.sl encI_ok) F9.cap_le (F10.sl encI_ok) F10.cap_le) ?_
   rintro _ w9 ⟨rfl, hc8⟩
   replace F8 := F8.c hc8
   replace F9 := F9.c hc8
   replace F10 := F10.c hc8
   replace F11 := F11.c hc8
   replace F12 := F12.c hc8
   replace F13 := F13.c hc8
   replace hB := hB.q hc8
   have hSz := hS
   replace hS := hS.inS hc8 inNil
   replace hZ := hc8.z hZ
   refine ⟨.tuple #[ii y5.1, ii y5.2.1, .bool (y5.2.2)], rfl, ?_⟩
   refine wS_end (by kernel_rfl) <| eX_KH hS <| hT [6, 7, 8, 9, 10, 11] [(13, ii y5.2.1), (12, ii y5.1), (57, .bool (y5.2.2)), (56, ii y5.2.1), (55, ii y5.1), (48, .tuple #[ii y5.1, ii y5.2.1, .bool (y5.2.2)])] <| wD <| eX_tail <| wP 1 [(14, .bool (y5.2.2))] <| wN <| cW_seq <| sR <| wP 2 [(59, .bool (!y5.2.2)), (58, .bool (y5.2.2))] <| wN <| cP [(5, pt b1), (6, .slice A4 y3.1.length cap4), (8, .slice A5 y4.1.length cap5), (10, ii x2), (11, ii x3), (12, ii y5.1), (13, ii y5.2.1), (59, .bool (!y5.2.2))] (fun a3 => ?_)
   refine cC (!y5.2.2) (fun hb5 => ?_) (fun hb5 => ?_)
   ·have hm := condT hb5 hm
    refine sR <| wP 1 [(4, .bool (false))] <| wN <| cW_ret <| eX_then_ret <| eX_block_ret <| eX_then_ret ?_
    obtain rfl := someE (x := Ctl.out (Sum.inr false)) hm
    refine eX_outR hx1 (fun hr => ?_)
    subst hr
    refine eX_block_ret <| eX_then_ret <| eX_then_ret ?_
    obtain rfl := someE (x := false) hm1
    refine rA (.bool (false)) 4 ?_
    exact ⟨rfl, hB⟩
   have hm := condF hb5 hm
   refine cW_skip <| eX_then <| cW_seq ?_
   obtain ⟨r2, hr2, hm⟩ := bindE hm
   have hm2 := hm
   refine cW_cut (fun a' w' => ∃ x5 : Int, ∃ x6 : Int, Sum.inl ((x5, x6)) = r2 ∧ Fr 164 [(5, pt b1), (6, .slice A4 y3.1.length cap4), (8, .slice A5 y4.1.length cap5), (10, ii x5), (11, ii x3), (12, ii x6), (13, ii y5.2.1)] a' ∧ Sl 1 encU w' [1] (some ⟨1, 0, none⟩) tab64 ∧ Ow 1 encI 2 w' fp2 A2 cap2 y2.1 ∧ Ow 1 encI 2 w' fp3 A3 cap3 y2.2 ∧ Cl w' b1 26 [.slice A2 y2.1.length cap2, .slice A3 y2.2.length cap3] ∧ OwR 1 encI 24 2 w' fp4 fr1 A4 cap4 y3.1 ∧ Ow 1 encI 2 w' fp5 A5 cap5 y4.1 ∧ Chg [] w0 w' ∧ w0.heap.size ≤ w'.heap.size) ?_ ?_
   ·refine cW_block ?_
    refine cW_loop _ (fun (s2 : Int × Int) a' w' => ∃ x7 : Int, ∃ x8 : Int, (x7, x8) = s2 ∧ Fr 164 [(5, pt b1), (6, .slice A4 y3.1.length cap4), (8, .slice A5 y4.1.length cap5), (10, ii x7), (11, ii x3), (12, ii x8), (13, ii y5.2.1)] a' ∧ Sl 1 encU w' [1] (some ⟨1, 0, none⟩) tab64 ∧ Ow 1 encI 2 w' fp2 A2 cap2 y2.1 ∧ Ow 1 encI 2 w' fp3 A3 cap3 y2.2 ∧ Cl w' b1 26 [.slice A2 y2.1.length cap2, .slice A3 y2.2.length cap3] ∧ OwR 1 encI 24 2 w' fp4 fr1 A4 cap4 y3.1 ∧ Ow 1 encI 2 w' fp5 A5 cap5 y4.1 ∧ Chg [] w0 w' ∧ w0.heap.size ≤ w'.heap.size) hr2 (fun hst => ⟨x2, y5.1, rfl, fO hst, F8, F9, F10, F11, F12, F13, hB, hZ⟩) ?_
    rintro _ c2 a' w10 ⟨x7, x8, rfl, hF2, F14, F15, F16, F17, F18, F19, hB, hZ⟩ hx3
    refine gO hF2 ?_
    have hm := hx3
    unfold m_laws_FnDoglegs_s4 at hm
    refine cW_seq <| sR <| wP 3 [(62, .bool (decide (x8 < y5.2.1))), (61, ii y5.2.1), (60, ii x8)] <| wN <| cC (decide (x8 < y5.2.1)) (fun hb6 => ?_) (fun hb6 => ?_)
    ·have hm := condT hb6 hm
     refine cW_skip <| eX_then <| cW_block <| cW_seq <| cW_seq <| cW_drawnTail [] 43 (by kernel_rfl) (by kernel_rfl) (fun w11 hc9 => ?_)
     replace F14 := F14.c hc9
     replace F15 := F15.c hc9
     replace F16 := F16.c hc9
     replace F17 := F17.c hc9
     replace F18 := F18.c hc9
     replace F19 := F19.c hc9
     replace hB := hB.q hc9
     replace hZ := hc9.z hZ
     have hS := Chg.refl [] w11
     have Z7 := F14
     have Z8 := F15
     have Z9 := F16
     have Z10 := F17
     have Z11 := F18
     have Z12 := F19
     refine hT [0, 1, 2, 3, 4] [(67, .bool (decide (x7 ≥ ((y3.1.length : Int))))), (66, .bool (decide (x7 ≥ ((y3.1.length : Int))))), (65, ii (y3.1.length : Int)), (64, .slice A4 y3.1.length cap4), (63, ii x7)] <| wH_bool (decide (x7 ≥ ((y3.1.length : Int)))) (fun hb7 => ?_) (fun hb7 => ?_)
     ·have hm := condT hb7 hm
      rewrite [hb7]
      refine hT [5, 6, 7, 8, 9, 10, 11, 12, 13, 14, 15, 16, 17, 18, 19, 20, 21, 22, 23, 24, 25, 26, 27, 28, 29, 30, 31, 32, 33, 34, 35, 36, 37, 38, 39, 40, 41, 42] [(105, undef), (104, undef), (103, undef), (102, undef), (101, undef), (100, undef), (99, undef), (98, .bool (true)), (97, .bool (true)), (96, undef), (95, undef), (94, undef), (93, undef), (92, undef), (91, undef), (90, undef), (89, undef), (88, .bool (true)), (87, .bool (true)), (86, undef), (85, undef), (84, undef), (83, undef), (82, undef), (81, undef), (80, undef), (79, undef), (78, undef), (77, undef), (76, undef), (75, .bool (true)), (74, .bool (true)), (73, undef), (72, undef), (71, undef), (70, undef), (69, undef), (68, undef)] ?_
      refine wD <| eX_tail <| wP 2 [(107, .bool (true)), (106, undef)] <| wN <| cP [(5, pt b1), (6, .slice A4 y3.1.length cap4), (8, .slice A5 y4.1.length cap5), (10, ii x7), (11, ii x3), (13, ii y5.2.1), (107, .bool (true))] (fun a4 => ?_)
      refine cCt <| sR <| wP 1 [(4, .bool (false))] <| wN <| cW_ret <| eX_then_ret <| eX_block_ret ?_
      obtain rfl := someE (x := Ctl.out (Sum.inr false)) hm
      refine eX_outR hx3 (fun hr => ?_)
      subst hr
      refine eX_block_ret <| eX_then_ret <| eX_then_ret <| eX_block_ret <| eX_then_ret ?_
      obtain rfl := someE (x := Ctl.out (Sum.inr false)) hm2
      refine eX_outR hx1 (fun hr => ?_)
      subst hr
      refine eX_block_ret <| eX_then_ret <| eX_then_ret ?_
      obtain rfl := someE (x := false) hm1
      refine rA (.bool (false)) 4 ?_
      exact ⟨rfl, hB⟩
     have hm := condF hb7 hm
     rewrite [hb7]
     refine hT [5, 6] [(69, ii x7), (68, .slice A4 y3.1.length cap4)] ?_
     obtain ⟨x9, hx4, hm⟩ := bindE hm
     refine hI 7 70 A4 y3.1.length cap4 .i64 x7 sl28 ((F18.slr encI_ok).is hx4) ?_
     obtain ⟨A6, cap6, hc10, F20, K1⟩ := OwR.row Z11 encI_ok hx4
     have G6 := low_inr G4
     have Dm1 := (F18.dj).symm
     refine hL 8 71 (elA A4 1 (x7) 0) (.slice A6 x9.length cap6) vt24 (fun W hW => hW.keep hc10) ?_
     refine hT [9, 10, 11, 12] [(75, .bool (((x9.length : Int)) != 3)), (74, .bool (((x9.length : Int)) != 3)), (73, .bool (((x9.length : Int)) != 3)), (72, ii (x9.length : Int))] <| wH_bool (((x9.length : Int)) != 3) (fun hb8 => ?_) (fun hb8 => ?_)
     ·have hm := condT hb8 hm
      rewrite [hb8]
      refine hT [13, 14, 15, 16, 17, 18, 19, 20, 21, 22, 23, 24, 25, 26, 27, 28, 29, 30, 31, 32, 33, 34, 35, 36, 37, 38, 39, 40, 41, 42] [(105, undef), (104, undef), (103, undef), (102, undef), (101, undef), (100, undef), (99, undef), (98, .bool (true)), (97, .bool (true)), (96, undef), (95, undef), (94, undef), (93, undef), (92, undef), (91, undef), (90, undef), (89, undef), (88, .bool (true)), (87, .bool (true)), (86, undef), (85, undef), (84, undef), (83, undef), (82, undef), (81, undef), (80, undef), (79, undef), (78, undef), (77, undef), (76, undef)] <| wD <| eX_tail <| wP 2 [(107, .bool (true)), (106, undef)] ?_
      refine wN <| cP [(5, pt b1), (6, .slice A4 y3.1.length cap4), (8, .slice A5 y4.1.length cap5), (10, ii x7), (11, ii x3), (13, ii y5.2.1), (107, .bool (true))] (fun a5 => ?_)
      refine cCt <| sR <| wP 1 [(4, .bool (false))] <| wN <| cW_ret <| eX_then_ret <| eX_block_ret ?_
      obtain rfl := someE (x := Ctl.out (Sum.inr false)) hm
      refine eX_outR hx3 (fun hr => ?_)
      subst hr
      refine eX_block_ret <| eX_then_ret <| eX_then_ret <| eX_block_ret <| eX_then_ret ?_
      obtain rfl := someE (x := Ctl.out (Sum.inr false)) hm2
      refine eX_outR hx1 (fun hr => ?_)
      subst hr
      refine eX_block_ret <| eX_then_ret <| eX_then_ret ?_
      obtain rfl := someE (x := false) hm1
      refine rA (.bool (false)) 4 ?_
      exact ⟨rfl, hB⟩
     have hm := condF hb8 hm
     rewrite [hb8]
     refine hT [13, 14] [(77, ii x7), (76, .slice A4 y3.1.length cap4)] ?_
     obtain ⟨x10, hx5, hm⟩ := bindE hm
     refine hI 15 78 A4 y3.1.length cap4 .i64 x7 sl28 ((F18.slr encI_ok).is hx5) ?_
     obtain ⟨A7, cap7, hc11, F21, K2⟩ := OwR.row Z11 encI_ok hx5
     have G7 := low_inr G4
     have Dm2 := (F18.dj).symm
     refine hL 16 79 (elA A4 1 (x7) 0) (.slice A7 x10.length cap7) vt24 (fun W hW => hW.keep hc11) ?_
     obtain ⟨x11, hx6, hm⟩ := bindE hm
     refine hI 17 80 A7 x10.length cap7 .i64 0 sl24 (F21.is hx6) <| hL 18 81 (elA A7 1 (0) 0) (ii x11) vt2 (fun W hW => Sl.cell (F21.c hW) hx6 0 (by rfl)) ?_
     refine hT [19, 20] [(83, ii x3), (82, .slice A5 y4.1.length cap5)] ?_
     obtain ⟨x12, hx7, hm⟩ := bindE hm
     refine hI 21 84 A5 y4.1.length cap5 .i64 x3 sl24 ((F19.sl encI_ok).is hx7) <| hL 22 85 (elA A5 1 (x3) 0) (ii x12) vt2 (fun W hW => Sl.cell ((Z12.c hW).sl encI_ok) hx7 0 (by rfl)) ?_
     refine hT [23, 24, 25] [(88, .bool (x11 != x12)), (87, .bool (x11 != x12)), (86, .bool (x11 != x12))] <| wH_bool (x11 != x12) (fun hb9 => ?_) (fun hb9 => ?_)
     ·have hm := condT hb9 hm
      rewrite [hb9]
      refine hT [26, 27, 28, 29, 30, 31, 32, 33, 34, 35, 36, 37, 38, 39, 40, 41, 42] [(105, undef), (104, undef), (103, undef), (102, undef), (101, undef), (100, undef), (99, undef), (98, .bool (true)), (97, .bool (true)), (96, undef), (95, undef), (94, undef), (93, undef), (92, undef), (91, undef), (90, undef), (89, undef)] <| wD <| eX_tail <| wP 2 [(107, .bool (true)), (106, undef)] <| wN <| cP [(5, pt b1), (6, .slice A4 y3.1.length cap4), (8, .slice A5 y4.1.length cap5), (10, ii x7), (11, ii x3), (13, ii y5.2.1), (107, .bool (true))] (fun a6 => ?_)
      refine cCt <| sR <| wP 1 [(4, .bool (false))] <| wN <| cW_ret <| eX_then_ret <| eX_block_ret ?_
      obtain rfl := someE (x := Ctl.out (Sum.inr false)) hm
      refine eX_outR hx3 (fun hr => ?_)
      subst hr
      refine eX_block_ret <| eX_then_ret <| eX_then_ret <| eX_block_ret <| eX_then_ret ?_
      obtain rfl := someE (x := Ctl.out (Sum.inr false)) hm2
      refine eX_outR hx1 (fun hr => ?_)
      subst hr
      refine eX_block_ret <| eX_then_ret <| eX_then_ret ?_
      obtain rfl := someE (x := false) hm1
      refine rA (.bool (false)) 4 ?_
      exact ⟨rfl, hB⟩
     have hm := condF hb9 hm
     rewrite [hb9]
     refine hT [26, 27] [(90, ii x7), (89, .slice A4 y3.1.length cap4)] ?_
     obtain ⟨x13, hx8, hm⟩ := bindE hm
     refine hI 28 91 A4 y3.1.length cap4 .i64 x7 sl28 ((F18.slr encI_ok).is hx8) ?_
     obtain ⟨A8, cap8, hc12, F22, K3⟩ := OwR.row Z11 encI_ok hx8
     have G8 := low_inr G4
     have Dm3 := (F18.dj).symm
     refine hL 29 92 (elA A4 1 (x7) 0) (.slice A8 x13.length cap8) vt24 (fun W hW => hW.keep hc12) ?_
     obtain ⟨x14, hx9, hm⟩ := bindE hm
     refine hI 30 93 A8 x13.length cap8 .i64 1 sl24 (F22.is hx9) <| hL 31 94 (elA A8 1 (1) 0) (ii x14) vt2 (fun W hW => Sl.cell (F22.c hW) hx9 0 (by rfl)) ?_
     refine hT [32, 33, 34, 35] [(98, .bool (x14 != x8)), (97, .bool (x14 != x8)), (96, .bool (x14 != x8)), (95, ii x8)] <| wH_bool (x14 != x8) (fun hb10 => ?_) (fun hb10 => ?_)
     ·have hm := condT hb10 hm
      rewrite [hb10]
      refine hT [36, 37, 38, 39, 40, 41, 42] [(105, undef), (104, undef), (103, undef), (102, undef), (101, undef), (100, undef), (99, undef)] <| wD <| eX_tail <| wP 2 [(107, .bool (true)), (106, undef)] <| wN <| cP [(5, pt b1), (6, .slice A4 y3.1.length cap4), (8, .slice A5 y4.1.length cap5), (10, ii x7), (11, ii x3), (13, ii y5.2.1), (107, .bool (true))] (fun a7 => ?_)
      refine cCt <| sR <| wP 1 [(4, .bool (false))] <| wN <| cW_ret <| eX_then_ret <| eX_block_ret ?_
      obtain rfl := someE (x := Ctl.out (Sum.inr false)) hm
      refine eX_outR hx3 (fun hr => ?_)
      subst hr
      refine eX_block_ret <| eX_then_ret <| eX_then_ret <| eX_block_ret <| eX_then_ret ?_
      obtain rfl := someE (x := Ctl.out (Sum.inr false)) hm2
      refine eX_outR hx1 (fun hr => ?_)
      subst hr
      refine eX_block_ret <| eX_then_ret <| eX_then_ret ?_
      obtain rfl := someE (x := false) hm1
      refine rA (.bool (false)) 4 ?_
      exact ⟨rfl, hB⟩
     have hm := condF hb10 hm
     rewrite [hb10]
     refine hT [36, 37] [(100, ii x7), (99, .slice A4 y3.1.length cap4)] ?_
     obtain ⟨x15, hx10, hm⟩ := bindE hm
     refine hI 38 101 A4 y3.1.length cap4 .i64 x7 sl28 ((F18.slr encI_ok).is hx10) ?_
     obtain ⟨A9, cap9, hc13, F23, K4⟩ := OwR.row Z11 encI_ok hx10
     have G9 := low_inr G4
     have Dm4 := (F18.dj).symm
     refine hL 39 102 (elA A4 1 (x7) 0) (.slice A9 x15.length cap9) vt24 (fun W hW => hW.keep hc13) ?_
     obtain ⟨x16, hx11, hm⟩ := bindE hm
     refine hI 40 103 A9 x15.length cap9 .i64 2 sl24 (F23.is hx11) <| hL 41 104 (elA A9 1 (2) 0) (ii x16) vt2 (fun W hW => Sl.cell (F23.c hW) hx11 0 (by rfl)) ?_
     refine hT [42] [(105, ii x8)] <| wD <| eX_tail <| wP 2 [(107, .bool (decide (x16 ≤ x8))), (106, .bool (decide (x16 ≤ x8)))] <| wN <| cP [(5, pt b1), (6, .slice A4 y3.1.length cap4), (8, .slice A5 y4.1.length cap5), (10, ii x7), (11, ii x3), (13, ii y5.2.1), (107, .bool (decide (x16 ≤ x8)))] (fun a8 => ?_)
     refine cC (decide (x16 ≤ x8)) (fun hb11 => ?_) (fun hb11 => ?_)
     ·have hm := condT hb11 hm
      refine sR <| wP 1 [(4, .bool (false))] <| wN <| cW_ret <| eX_then_ret <| eX_block_ret ?_
      obtain rfl := someE (x := Ctl.out (Sum.inr false)) hm
      refine eX_outR hx3 (fun hr => ?_)
      subst hr
      refine eX_block_ret <| eX_then_ret <| eX_then_ret <| eX_block_ret <| eX_then_ret ?_
      obtain rfl := someE (x := Ctl.out (Sum.inr false)) hm2
      refine eX_outR hx1 (fun hr => ?_)
      subst hr
      refine eX_block_ret <| eX_then_ret <| eX_then_ret ?_
      obtain rfl := someE (x := false) hm1
      refine rA (.bool (false)) 4 ?_
      exact ⟨rfl, hB⟩
     have hm := condF hb11 hm
     refine cW_skip <| eX_then <| sR <| wP 2 [(109, ii x7), (108, .slice A4 y3.1.length cap4)] ?_
     obtain ⟨x17, hx12, hm⟩ := bindE hm
     refine sI 110 A4 y3.1.length cap4 .i64 x7 sl28 ((F18.slr encI_ok).is hx12) ?_
     obtain ⟨A10, cap10, hc14, F24, K5⟩ := OwR.row F18 encI_ok hx12
     have G10 := low_inr G4
     have Dm5 := (F18.dj).symm
     refine sL 111 (elA A4 1 (x7) 0) (.slice A10 x17.length cap10) vt24 hc14 ?_
     obtain ⟨x18, hx13, hm⟩ := bindE hm
     refine sI 112 A10 x17.length cap10 .i64 2 sl24 (F24.is hx13) <| sL 113 (elA A10 1 (2) 0) (ii x18) vt2 (Sl.cell F24 hx13 0 (by rfl)) <| wP 1 [(12, ii x18)] <| wN <| cW_region <| wP 3 [(10, ii (wr (x7 + 1))), (115, ii (wr (x7 + 1))), (114, ii x7)] <| wE <| eX_block ?_
     obtain rfl := someE (x := (Ctl.next ((wr (x7 + 1), x18)))) hm
     exact eX_next hx3 (fun hst => ⟨wr (x7 + 1), x18, rfl, fO hst, F14, F15, F16, F17, F18, F19, hB, hZ⟩)
    have hm := condF hb6 hm
    refine cW_exit <| eX_then_exit ?_
    obtain rfl := someE (x := (Ctl.out (Sum.inl ((x7, x8))))) hm
    refine eX_outX hx3 (fun hr3 => ?_)
    replace hr3 := hr3.symm
    subst hr3
    refine eX_block_hit ?_
    exact eX_J (fun hst => ⟨x7, x8, rfl, fO hst, F14, F15, F16, F17, F18, F19, hB, hZ⟩)
   rintro a' w12 ⟨x5, x6, hJ, hF3, F25, F26, F27, F28, F29, F30, hB, hZ⟩
   subst hJ
   refine gX hF3 <| eX_then <| sR <| wP 3 [(118, .bool (x6 != y5.2.1)), (117, ii y5.2.1), (116, ii x6)] <| wN <| cC (x6 != y5.2.1) (fun hb12 => ?_) (fun hb12 => ?_)
   ·have hm := condT hb12 hm
    refine sR <| wP 1 [(4, .bool (false))] <| wN <| cW_ret <| eX_block_ret <| eX_then_ret ?_
    obtain rfl := someE (x := Ctl.out (Sum.inr false)) hm
    refine eX_outR hx1 (fun hr => ?_)
    subst hr
    refine eX_block_ret <| eX_then_ret <| eX_then_ret ?_
    obtain rfl := someE (x := false) hm1
    refine rA (.bool (false)) 4 ?_
    exact ⟨rfl, hB⟩
   have hm := condF hb12 hm
   refine cW_skip <| eX_block <| eX_then <| cW_region <| wP 3 [(11, ii (wr (x3 + 1))), (47, ii (wr (x3 + 1))), (46, ii x3)] <| wE ?_
   obtain rfl := someE (x := (Ctl.next ((x5, wr (x3 + 1))))) hm
   exact eX_next hx1 (fun hst => ⟨x5, wr (x3 + 1), rfl, fO hst, F25, F26, F27, F28, F29, F30, hB, hZ⟩)
  have hm := condF hb4 hm
  refine cW_exit <| eX_then_exit ?_
  obtain rfl := someE (x := Ctl.out (Sum.inl x2)) hm
  refine eX_outX hx1 (fun hr4 => ?_)
  replace hr4 := hr4.symm
  subst hr4
  refine eX_block_hit ?_
  exact eX_J (fun hst => ⟨x2, rfl, fO hst, F8, F9, F10, F11, F12, hB, hZ⟩)
 rintro a' w13 ⟨x1, hJ, hF4, F31, F32, F33, F34, F35, hB, hZ⟩
 subst hJ
 refine gX hF4 <| eX_then <| cW_seq <| sR <| wP 4 [(122, .bool (x1 != ((y3.1.length : Int)))), (121, ii (y3.1.length : Int)), (120, .slice A4 y3.1.length cap4), (119, ii x1)] <| wN <| cC (x1 != ((y3.1.length : Int))) (fun hb13 => ?_) (fun hb13 => ?_)
 ·have hm := condT hb13 hm
  refine sR <| wP 1 [(4, .bool (false))] <| wN <| cW_ret <| eX_then_ret ?_
  obtain rfl := someE (x := false) hm
  refine rA (.bool (false)) 4 ?_
  exact ⟨rfl, hB⟩
 have hm := condF hb13 hm
 refine cW_skip <| eX_then <| sR <| wS_loadA (d := 124) (T := 26) (ad := ⟨b1, 0, none⟩) (vs := [.slice A2 y2.1.length cap2, .slice A3 y2.2.length cap3]) (by kernel_rfl) vt26 (fun i u hu => box_cells F34 0 hu (by rfl)) ?_
 obtain ⟨y6, hy6, hm⟩ := bindE hm
 refine sC 125 [.agg #[.slice A2 y2.1.length cap2, .slice A3 y2.2.length cap3]] ent29 (c_impl_FewestWithDoglegs hy6 (F32.sl encI_ok) F32.cap_le (F33.sl encI_ok) F33.cap_le F31) ?_
 rintro _ w14 ⟨A11, cap11, fp6, fr2, rfl, F36, G11, hc15⟩
 have D11 : Dj fp2 (fp6 ++ fr2) := Dj.of F32.low G11
 have D12 : Dj fp3 (fp6 ++ fr2) := Dj.of F33.low G11
 have D13 : Dj [b1] (fp6 ++ fr2) := Dj.of (lt1 F34.lt) G11
 have D14 : Dj (fp4 ++ fr1) (fp6 ++ fr2) := Dj.of F35.low G11
 replace F31 := F31.c hc15
 replace F32 := F32.c hc15
 replace F33 := F33.c hc15
 replace F34 := F34.c hc15
 replace F35 := F35.c hc15
 replace hB := hB.q hc15
 replace G11 := low_le hZ G11
 replace hZ := hc15.z hZ
 refine ⟨.tuple #[.slice A11 y6.1.length cap11, .bool (y6.2)], rfl, ?_⟩
 refine wP 5 [(16, .bool (y6.2)), (15, .slice A11 y6.1.length cap11), (127, .bool (y6.2)), (126, .slice A11 y6.1.length cap11), (123, .tuple #[.slice A11 y6.1.length cap11, .bool (y6.2)])] <| wN <| sR <| wS_loadA (d := 129) (T := 26) (ad := ⟨b1, 0, none⟩) (vs := [.slice A2 y2.1.length cap2, .slice A3 y2.2.length cap3]) (by kernel_rfl) vt26 (fun i u hu => box_cells F34 0 hu (by rfl)) ?_
 obtain ⟨y7, hy7, hm⟩ := bindE hm
 refine sC 130 [.agg #[.slice A2 y2.1.length cap2, .slice A3 y2.2.length cap3]] ent28 (c_spec_FewestWithDoglegs hy7 (F32.sl encI_ok) (F33.sl encI_ok)) ?_
 rintro _ w15 ⟨A12, cap12, fp7, fr3, rfl, F37, G12, hc16⟩
 have D15 : Dj fp2 (fp7 ++ fr3) := Dj.of F32.low G12
 have D16 : Dj fp3 (fp7 ++ fr3) := Dj.of F33.low G12
 have D17 : Dj [b1] (fp7 ++ fr3) := Dj.of (lt1 F34.lt) G12
 have D18 : Dj (fp4 ++ fr1) (fp7 ++ fr3) := Dj.of F35.low G12
 have D19 : Dj (fp6 ++ fr2) (fp7 ++ fr3) := Dj.of F36.low G12
 replace F31 := F31.c hc16
 replace F32 := F32.c hc16
 replace F33 := F33.c hc16
 replace F34 := F34.c hc16
 replace F35 := F35.c hc16
 replace F36 := F36.c hc16
 replace hB := hB.q hc16
 replace G12 := low_le hZ G12
 replace hZ := hc16.z hZ
 refine ⟨.tuple #[.slice A12 y7.1.length cap12, .bool (y7.2)], rfl, ?_⟩
 refine wP 5 [(18, .bool (y7.2)), (17, .slice A12 y7.1.length cap12), (132, .bool (y7.2)), (131, .slice A12 y7.1.length cap12), (128, .tuple #[.slice A12 y7.1.length cap12, .bool (y7.2)])] <| wN <| sR <| wS_loadA (d := 134) (T := 26) (ad := ⟨b1, 0, none⟩) (vs := [.slice A2 y2.1.length cap2, .slice A3 y2.2.length cap3]) (by kernel_rfl) vt26 (fun i u hu => box_cells F34 0 hu (by rfl)) ?_
 obtain ⟨y8, hy8, hm⟩ := bindE hm
 refine sC 135 [.agg #[.slice A2 y2.1.length cap2, .slice A3 y2.2.length cap3]] ent9 (c_impl_FewestTracks hy8 (F32.sl encI_ok) F32.cap_le (F33.sl encI_ok) F33.cap_le F31) ?_
 rintro _ w16 ⟨A13, cap13, fp8, fr4, rfl, F38, G13, hc17⟩
 have D20 : Dj fp2 (fp8 ++ fr4) := Dj.of F32.low G13
 have D21 : Dj fp3 (fp8 ++ fr4) := Dj.of F33.low G13
 have D22 : Dj [b1] (fp8 ++ fr4) := Dj.of (lt1 F34.lt) G13
 have D23 : Dj (fp4 ++ fr1) (fp8 ++ fr4) := Dj.of F35.low G13
 have D24 : Dj (fp6 ++ fr2) (fp8 ++ fr4) := Dj.of F36.low G13
 have D25 : Dj (fp7 ++ fr3) (fp8 ++ fr4) := Dj.of F37.low G13
 replace F31 := F31.c hc17
 replace F32 := F32.c hc17
 replace F33 := F33.c hc17
 replace F34 := F34.c hc17
 replace F35 := F35.c hc17
 replace F36 := F36.c hc17
 replace F37 := F37.c hc17
 replace hB := hB.q hc17
 replace G13 := low_le hZ G13
 replace hZ := hc17.z hZ
 refine ⟨.tuple #[.slice A13 y8.1.length cap13, .bool (y8.2)], rfl, ?_⟩
 refine wP 5 [(20, .bool (y8.2)), (19, .slice A13 y8.1.length cap13), (137, .bool (y8.2)), (136, .slice A13 y8.1.length cap13), (133, .tuple #[.slice A13 y8.1.length cap13, .bool (y8.2)])] <| wN <| cP [(5, pt b1), (6, .slice A4 y3.1.length cap4), (15, .slice A11 y6.1.length cap11), (16, .bool (y6.2)), (18, .bool (y7.2)), (19, .slice A13 y8.1.length cap13), (20, .bool (y8.2))] (fun a9 => ?_)
 refine cW_seq <| sR <| wP 3 [(140, .bool (!(y6.2 == y7.2))), (139, .bool (y7.2)), (138, .bool (y6.2))] <| wN <| cC (!(y6.2 == y7.2)) (fun hb14 => ?_) (fun hb14 => ?_)
 ·have hm := condT hb14 hm
  refine sR <| wP 1 [(4, .bool (false))] <| wN <| cW_ret <| eX_then_ret ?_
  obtain rfl := someE (x := false) hm
  refine rA (.bool (false)) 4 ?_
  exact ⟨rfl, hB⟩
 have hm := condF hb14 hm
 refine cW_skip <| eX_then <| cW_seq <| sR <| wP 2 [(142, .bool (!y6.2)), (141, .bool (y6.2))] <| wN <| cC (!y6.2) (fun hb15 => ?_) (fun hb15 => ?_)
 ·have hm := condT hb15 hm
  refine sR <| wP 3 [(145, .bool (!y8.2)), (144, .bool (!y8.2)), (143, .bool (y8.2))] <| wS_bool (!y8.2) (fun hb16 => ?_) (fun hb16 => ?_)
  ·have hm := condT hb16 hm
   rewrite [hb16]
   refine wP 5 [(4, .bool (true)), (149, .bool (true)), (148, undef), (147, undef), (146, undef)] <| wN <| cW_ret <| eX_then_ret ?_
   obtain rfl := someE (x := true) hm
   refine rA (.bool (true)) 4 ?_
   exact ⟨rfl, hB⟩
  have hm := condF hb16 hm
  rewrite [hb16]
  refine wP 5 [(4, .bool (decide (((y3.1.length : Int)) > 12))), (149, .bool (decide (((y3.1.length : Int)) > 12))), (148, .bool (decide (((y3.1.length : Int)) > 12))), (147, ii (y3.1.length : Int)), (146, .slice A4 y3.1.length cap4)] <| wN <| cW_ret <| eX_then_ret ?_
  obtain rfl := someE (x := (decide (((y3.1.length : Int)) > 12))) hm
  refine rA (.bool (decide (((y3.1.length : Int)) > 12))) 4 ?_
  exact ⟨rfl, hB⟩
 have hm := condF hb15 hm
 refine cW_skip <| eX_then <| sR <| wS_loadA (d := 150) (T := 26) (ad := ⟨b1, 0, none⟩) (vs := [.slice A2 y2.1.length cap2, .slice A3 y2.2.length cap3]) (by kernel_rfl) vt26 (fun i u hu => box_cells F34 0 hu (by rfl)) ?_
 refine wP 1 [(151, .slice A11 y6.1.length cap11)] ?_
 obtain ⟨y9, hy9, hm⟩ := bindE hm
 refine sC 152 [.agg #[.slice A2 y2.1.length cap2, .slice A3 y2.2.length cap3], .slice A11 y6.1.length cap11] ent32 (c_impl_IsPieceRouting hy9 (F32.sl encI_ok) F32.cap_le (F33.sl encI_ok) F33.cap_le (F36.slr encI_ok)) ?_
 rintro _ w17 ⟨rfl, hc18⟩
 replace F31 := F31.c hc18
 replace F32 := F32.c hc18
 replace F33 := F33.c hc18
 replace F34 := F34.c hc18
 replace F35 := F35.c hc18
 replace F36 := F36.c hc18
 replace F37 := F37.c hc18
 replace F38 := F38.c hc18
 replace hB := hB.q hc18
 replace hZ := hc18.z hZ
 refine ⟨.bool (y9), rfl, ?_⟩
 refine wP 1 [(153, .bool (y9))] <| wS_bool y9 (fun hb17 => ?_) (fun hb17 => ?_)
 ·have hm := condT hb17 hm
  rewrite [hb17]
  refine wP 3 [(156, .bool (!y8.2)), (155, .bool (!y8.2)), (154, .bool (y8.2))] <| wS_bool (!y8.2) (fun hb18 => ?_) (fun hb18 => ?_)
  ·have hm := condT hb18 hm
   rewrite [hb18]
   refine wP 8 [(4, .bool (true)), (163, .bool (true)), (162, .bool (true)), (161, undef), (160, undef), (159, undef), (158, undef), (157, undef)] <| wN <| cP [(4, .bool (true))] (fun a10 => ?_)
   refine cW_ret ?_
   obtain rfl := someE (x := true) hm
   refine rA (.bool (true)) 4 ?_
   exact ⟨rfl, hB⟩
  have hm := condF hb18 hm
  rewrite [hb18]
  refine wP 8 [(4, .bool (decide (((y6.1.length : Int)) ≤ ((y8.1.length : Int))))), (163, .bool (decide (((y6.1.length : Int)) ≤ ((y8.1.length : Int))))), (162, .bool (decide (((y6.1.length : Int)) ≤ ((y8.1.length : Int))))), (161, .bool (decide (((y6.1.length : Int)) ≤ ((y8.1.length : Int))))), (160, ii (y8.1.length : Int)), (159, .slice A13 y8.1.length cap13), (158, ii (y6.1.length : Int)), (157, .slice A11 y6.1.length cap11)] <| wN <| cP [(4, .bool (decide (((y6.1.length : Int)) ≤ ((y8.1.length : Int)))))] (fun a11 => ?_)
  refine cW_ret ?_
  obtain rfl := someE (x := (decide (((y6.1.length : Int)) ≤ ((y8.1.length : Int))))) hm
  refine rA (.bool (decide (((y6.1.length : Int)) ≤ ((y8.1.length : Int))))) 4 ?_
  exact ⟨rfl, hB⟩
 have hm := condF hb17 hm
 rewrite [hb17]
 refine wP 11 [(4, .bool (false)), (163, .bool (false)), (162, undef), (161, undef), (160, undef), (159, undef), (158, undef), (157, undef), (156, undef), (155, undef), (154, undef)] <| wN <| cP [(4, .bool (false))] (fun a12 => ?_)
 refine cW_ret ?_
 obtain rfl := someE (x := false) hm
 refine rA (.bool (false)) 4 ?_
 exact ⟨rfl, hB⟩

end Go.Proofs.YtbfjekmefcpkmaaDoor
