/- Printed walks: spec.l03OfPieces, spec.FewestWithDoglegs, impl.FewestWithDoglegs$1, (*impl.Channel).pieces, (*impl.Channel).pieceOrder, impl.toldTracks, impl.FewestWithDoglegs. -/
import Derived.Test.YtbfjekmefcpkmaaDoorProg
import Derived.Test.YtbfjekmefcpkmaaDoorWFd03
set_option linter.unusedSimpArgs false
set_option linter.unusedVariables false
namespace Go.Proofs.YtbfjekmefcpkmaaDoor
open Go.RowKit
attribute [local irreducible] wS cW eX wH

theorem ent36 : Ent Tryd.prog 36 := fun _ => by kernel_rfl
theorem ent38 : Ent Tryd.prog 38 := fun _ => by kernel_rfl
theorem ent39 : Ent Tryd.prog 39 := fun _ => by kernel_rfl
theorem ent40 : Ent Tryd.prog 40 := fun _ => by kernel_rfl
theorem ent60 : Ent Tryd.prog 60 := fun _ => by kernel_rfl
theorem ent64 : Ent Tryd.prog 64 := fun _ => by kernel_rfl
theorem ent69 : Ent Tryd.prog 69 := fun _ => by kernel_rfl
theorem ent70 : Ent Tryd.prog 70 := fun _ => by kernel_rfl
theorem ent71 : Ent Tryd.prog 71 := fun _ => by kernel_rfl
theorem ent72 : Ent Tryd.prog 72 := fun _ => by kernel_rfl
theorem ent77 : Ent Tryd.prog 77 := fun _ => by kernel_rfl
theorem ent86 : Ent Tryd.prog 86 := fun _ => by kernel_rfl
theorem ent98 : Ent Tryd.prog 98 := fun _ => by kernel_rfl
theorem ent99 : Ent Tryd.prog 99 := fun _ => by kernel_rfl
theorem ent100 : Ent Tryd.prog 100 := fun _ => by kernel_rfl
theorem sl54 : SlTy Tryd.prog 54 56 1 := ⟨Tryd.underlying54, by kernel_rfl⟩
theorem el92 : ElTy Tryd.prog 92 120 1 (.slice none 0 0) := ElTy.mk' Tryd.underlying92 (by kernel_rfl) (by rfl)
theorem el120 : ElTy Tryd.prog 120 4 1 (.bool (false)) := ElTy.mk' Tryd.underlying120 (by kernel_rfl) (by rfl)
theorem sz4 : pureRun Tryd.prog (sizeOf 4) = some 1 := by kernel_rfl
theorem sz92 : pureRun Tryd.prog (sizeOf 92) = some 1 := by kernel_rfl

set_option maxRecDepth 100000 in
/-- spec.l03OfPieces -/
theorem c_spec_l03OfPieces_bimplChannel {w0 : World} {l0_0 : List (Int)} {A0_0 : Option Addr} {cap0_0 : Nat} {fp0_0 : List Nat} {l0_1 : List (Int)} {A0_1 : Option Addr} {cap0_1 : Nat} {fp0_1 : List Nat} {b0 : Nat} {r : ((List (Int)) × (List (List (Bool))) × (List (List (Bool))))} (hm : m_spec_l03OfPieces_bimplChannel l0_0 l0_1 = some r) (F0_0 : Sl 1 encI w0 fp0_0 A0_0 l0_0) (F0_1 : Sl 1 encI w0 fp0_1 A0_1 l0_1) (F0 : Cl w0 b0 26 [.slice A0_0 (l0_0).length cap0_0, .slice A0_1 (l0_1).length cap0_1]) :
  Calls Tryd.prog 69 #[.pointer (some ⟨b0, 0, none⟩)] w0 fun e w' => ∃ b100, ∃ A100_0 cap100_0 fp100_0, ∃ A100_1 cap100_1 fp100_1 fr100_1, ∃ A100_2 cap100_2 fp100_2 fr100_2, e = .returned (.pointer (some ⟨b100, 0, none⟩)) ∧ Cl w' b100 94 [.slice A100_0 (r.1).length cap100_0, .slice A100_1 (r.2.1).length cap100_1, .slice A100_2 (r.2.2).length cap100_2] ∧ w0.heap.size ≤ b100 ∧ Ow 1 encI 2 w' fp100_0 A100_0 cap100_0 r.1 ∧ (∀ x ∈ fp100_0, w0.heap.size ≤ x) ∧ OwR 1 encB 120 4 w' fp100_1 fr100_1 A100_1 cap100_1 r.2.1 ∧ (∀ x ∈ fp100_1 ++ fr100_1, w0.heap.size ≤ x) ∧ OwR 1 encB 120 4 w' fp100_2 fr100_2 A100_2 cap100_2 r.2.2 ∧ (∀ x ∈ fp100_2 ++ fr100_2, w0.heap.size ≤ x) ∧ Dj [b100] fp100_0 ∧ Dj [b100] (fp100_1 ++ fr100_1) ∧ Dj [b100] (fp100_2 ++ fr100_2) ∧ Dj fp100_0 (fp100_1 ++ fr100_1) ∧ Dj fp100_0 (fp100_2 ++ fr100_2) ∧ Dj (fp100_1 ++ fr100_1) (fp100_2 ++ fr100_2) ∧ Chg [] w0 w' := by
 have L0_0 := F0_0.low
 have L0_1 := F0_1.low
 have L0 := lt1 F0.lt
 have hB : Chg [] w0 w0 := Chg.refl _ _
 have hZ := Nat.le_refl w0.heap.size
 unfold m_spec_l03OfPieces_bimplChannel at hm
 refine enterE (N := 162) Tryd.func69 (by rfl) Tryd.ntmps69 (by simp) [(0, .pointer (some ⟨b0, 0, none⟩))] (by rfl) (by kernel_rfl) (fun a => ?_)
 refine cW_seq ?_
 refine cW_region ?_
 refine wS_pure 1 [(2, .pointer none)] (by kernel_rfl) ?_
 refine wS_end (by rfl) ?_
 refine eX_then ?_
 refine cW_seq ?_
 refine cW_region ?_
 refine wS_pure 1 [(12, .pointer (some ⟨b0, 0, none⟩))] (by kernel_rfl) ?_
 obtain ⟨y1, hy1, hm⟩ := bindE hm
 refine wS_calls (d := 13) (f := 98) (vs := [.pointer (some ⟨b0, 0, none⟩)]) (by kernel_rfl) ent98 (c_spec_l03Pieces_bimplChannel hy1 F0_0 F0_1 F0) ?_
 rintro _ w1 ⟨A1, cap1, fp1, fr1, rfl, F1, G1, hc1⟩
 replace F0_0 := F0_0.chg hc1 Dj.nil
 replace F0_1 := F0_1.chg hc1 Dj.nil
 replace F0 := F0.chg hc1 notNil
 replace hB := hB.inS hc1 inNil
 replace G1 := low_le hZ G1
 replace hZ := Nat.le_trans hZ hc1.size
 refine ⟨.slice A1 (y1).length cap1, rfl, ?_⟩
 refine wS_pure 1 [(3, .slice A1 (y1).length cap1)] (by kernel_rfl) ?_
 refine wS_end (by rfl) ?_
 refine eX_then ?_
 refine cW_seq ?_
 refine cW_region ?_
 refine wS_bs0 (α := Int) (enc := encI) (d := 14) (t := 24) (T := 2) (by kernel_rfl) el24 ?_
 intro b1 w2 G2 F2 hc2
 have D1 : Dj (fp1 ++ fr1) [b1] := Dj.of F1.low (low1 G2)
 replace F0_0 := F0_0.chg hc2 Dj.nil
 replace F0_1 := F0_1.chg hc2 Dj.nil
 replace F0 := F0.chg hc2 notNil
 replace F1 := F1.chg hc2 Dj.nil
 replace hB := hB.inS hc2 inNil
 replace G2 := Nat.le_trans hZ G2
 replace G2 := low1 G2
 replace hZ := Nat.le_trans hZ hc2.size
 refine wS_pure 1 [(15, .agg #[.slice (some ⟨b1, 0, none⟩) (([] : List (Int))).length 0, .slice none 0 0, .slice none 0 0])] (by kernel_rfl) ?_
 refine wS_box (d := 16) (T := 94) (x := .agg #[.slice (some ⟨b1, 0, none⟩) (([] : List (Int))).length 0, .slice none 0 0, .slice none 0 0]) (by kernel_rfl) ?_
 intro b2 w3 G3 F3 hc3
 replace F3 : Cl w3 b2 94 [.slice (some ⟨b1, 0, none⟩) (([] : List (Int))).length 0, .slice none 0 0, .slice none 0 0] := F3
 have D2 : Dj (fp1 ++ fr1) [b2] := Dj.of F1.low (low1 G3)
 have D3 : Dj [b1] [b2] := Dj.of F2.low (low1 G3)
 replace F0_0 := F0_0.chg hc3 Dj.nil
 replace F0_1 := F0_1.chg hc3 Dj.nil
 replace F0 := F0.chg hc3 notNil
 replace F1 := F1.chg hc3 Dj.nil
 replace F2 := F2.chg hc3 Dj.nil
 replace hB := hB.inS hc3 inNil
 replace G3 := Nat.le_trans hZ G3
 replace hZ := Nat.le_trans hZ hc3.size
 refine wS_pure 1 [(4, .pointer (some ⟨b2, 0, none⟩))] (by kernel_rfl) ?_
 refine wS_end (by rfl) ?_
 refine eX_then ?_
 refine cW_seq ?_
 refine cW_seq ?_
 refine cW_region ?_
 refine wS_pure 1 [(5, .int .i64 (0))] (by kernel_rfl) ?_
 refine wS_end (by rfl) ?_
 refine eX_then ?_
 obtain ⟨r1, hr1, hm⟩ := bindE hm
 have hm1 := hm
 refine cW_cut (fun a' w' => ∃ l1 : List (Int), ∃ A3 : Option Addr, ∃ cap3 : Nat, ∃ fp2 : List Nat, ∃ l3 : List (List (Bool)), ∃ A4 : Option Addr, ∃ cap4 : Nat, ∃ fp3 : List Nat, ∃ fr2 : List Nat, ∃ l4 : List (List (Bool)), ∃ A5 : Option Addr, ∃ cap5 : Nat, ∃ fp4 : List Nat, ∃ fr3 : List Nat, (l1, l3, l4) = r1 ∧ Fr 162 [(4, .pointer (some ⟨b2, 0, none⟩))] a' ∧ Cl w' b2 94 [.slice A3 (l1).length cap3, .slice A4 (l3).length cap4, .slice A5 (l4).length cap5] ∧ Ow 1 encI 2 w' fp2 A3 cap3 l1 ∧ OwR 1 encB 120 4 w' fp3 fr2 A4 cap4 l3 ∧ OwR 1 encB 120 4 w' fp4 fr3 A5 cap5 l4 ∧ (∀ x ∈ fp2, w0.heap.size ≤ x) ∧ (∀ x ∈ (fp3 ++ fr2), w0.heap.size ≤ x) ∧ (∀ x ∈ (fp4 ++ fr3), w0.heap.size ≤ x) ∧ Dj [b2] fp2 ∧ Dj (fp3 ++ fr2) fp2 ∧ Dj (fp4 ++ fr3) fp2 ∧ Dj [b2] (fp3 ++ fr2) ∧ Dj (fp4 ++ fr3) (fp3 ++ fr2) ∧ Dj [b2] (fp4 ++ fr3) ∧ Chg [] w0 w' ∧ w0.heap.size ≤ w'.heap.size) ?_ ?_
 ·refine cW_block ?_
  refine cW_loop _ (fun (s1 : Int × (List (Int)) × (List (List (Bool))) × (List (List (Bool)))) a' w' => ∃ x1 : Int, ∃ l5 : List (Int), ∃ A6 : Option Addr, ∃ cap6 : Nat, ∃ fp5 : List Nat, ∃ l6 : List (List (Bool)), ∃ A7 : Option Addr, ∃ cap7 : Nat, ∃ fp6 : List Nat, ∃ fr4 : List Nat, ∃ l7 : List (List (Bool)), ∃ A8 : Option Addr, ∃ cap8 : Nat, ∃ fp7 : List Nat, ∃ fr5 : List Nat, (x1, l5, l6, l7) = s1 ∧ Fr 162 [(0, .pointer (some ⟨b0, 0, none⟩)), (3, .slice A1 (y1).length cap1), (4, .pointer (some ⟨b2, 0, none⟩)), (5, .int .i64 (x1))] a' ∧ Sl 1 encI w' fp0_0 A0_0 l0_0 ∧ Sl 1 encI w' fp0_1 A0_1 l0_1 ∧ Cl w' b0 26 [.slice A0_0 (l0_0).length cap0_0, .slice A0_1 (l0_1).length cap0_1] ∧ OwR 1 encI 24 2 w' fp1 fr1 A1 cap1 y1 ∧ Cl w' b2 94 [.slice A6 (l5).length cap6, .slice A7 (l6).length cap7, .slice A8 (l7).length cap8] ∧ Ow 1 encI 2 w' fp5 A6 cap6 l5 ∧ OwR 1 encB 120 4 w' fp6 fr4 A7 cap7 l6 ∧ OwR 1 encB 120 4 w' fp7 fr5 A8 cap8 l7 ∧ (∀ x ∈ fp5, w0.heap.size ≤ x) ∧ (∀ x ∈ (fp6 ++ fr4), w0.heap.size ≤ x) ∧ (∀ x ∈ (fp7 ++ fr5), w0.heap.size ≤ x) ∧ Dj (fp1 ++ fr1) fp5 ∧ Dj [b2] fp5 ∧ Dj (fp6 ++ fr4) fp5 ∧ Dj (fp7 ++ fr5) fp5 ∧ Dj (fp1 ++ fr1) (fp6 ++ fr4) ∧ Dj [b2] (fp6 ++ fr4) ∧ Dj (fp7 ++ fr5) (fp6 ++ fr4) ∧ Dj (fp1 ++ fr1) (fp7 ++ fr5) ∧ Dj [b2] (fp7 ++ fr5) ∧ Chg [] w0 w' ∧ w0.heap.size ≤ w'.heap.size) hr1 (fun hst => ⟨0, ([] : List (Int)), (some ⟨b1, 0, none⟩), 0, [b1], [], none, 0, [], [], [], none, 0, [], [], rfl, Fr.of hst (by kernel_rfl), F0_0, F0_1, F0, F1, F3, F2, OwR.nil _, OwR.nil _, G2, (lowApp lowNil lowNil), (lowApp lowNil lowNil), D1, (D3).symm, (Dj.app Dj.nil Dj.nil).symm, (Dj.app Dj.nil Dj.nil).symm, (Dj.app Dj.nil Dj.nil), (Dj.app Dj.nil Dj.nil), (Dj.app Dj.nil Dj.nil), (Dj.app Dj.nil Dj.nil), (Dj.app Dj.nil Dj.nil), hB, hZ⟩) ?_
  rintro _ c1 a' w4 ⟨x1, l5, A6, cap6, fp5, l6, A7, cap7, fp6, fr4, l7, A8, cap8, fp7, fr5, rfl, hF1, F4, F5, F6, F7, F8, F9, F10, F11, G4, G5, G6, D4, D5, D6, D7, D8, D9, D10, D11, D12, hB, hZ⟩ hx1
  refine Fr.goOn hF1 (by kernel_rfl) ?_
  have hm := hx1
  unfold m_spec_l03OfPieces_bimplChannel_s9 at hm
  refine cW_seq ?_
  refine cW_seq ?_
  refine cW_region ?_
  refine wS_pure 4 [(20, .bool (decide (x1 < (((y1).length : Int))))), (19, .int .i64 (((y1).length : Int))), (18, .slice A1 (y1).length cap1), (17, .int .i64 (x1))] (by kernel_rfl) ?_
  refine wS_end (by rfl) ?_
  refine eX_then ?_
  refine cW_cond (t := decide (x1 < (((y1).length : Int)))) (by kernel_rfl) (fun hb1 => ?_) (fun hb1 => ?_)
  ·have hm := condT hb1 hm
   refine cW_skip ?_
   refine eX_then ?_
   refine cW_seq ?_
   refine cW_block ?_
   refine cW_seq ?_
   refine cW_region ?_
   refine wS_pure 2 [(24, .int .i64 (x1)), (23, .slice A1 (y1).length cap1)] (by kernel_rfl) ?_
   obtain ⟨x2, hx2, hm⟩ := bindE hm
   refine wS_idx (d := 25) (T := 28) (A := A1) (n := (y1).length) (cap := cap1) (kd := .i64) (m := x1) (by kernel_rfl) sl28 ((F7.slr encI_ok).is hx2) ?_
   obtain ⟨A9, cap9, hc4, F12, K1⟩ := OwR.row F7 encI_ok hx2
   have G7 := low_inr G1
   have Dm1 := (F7.dj).symm
   refine wS_load1 (d := 26) (T := 24) (ad := (elA A1 1 (x1) 0)) (v := .slice A9 (x2).length cap9) (by kernel_rfl) vt24 hc4 ?_
   refine wS_pure 1 [(6, .slice A9 (x2).length cap9)] (by kernel_rfl) ?_
   refine wS_end (by rfl) ?_
   refine eX_then ?_
   refine cW_seq ?_
   refine cW_region ?_
   refine wS_pure 2 [(28, .int .i64 (((y1).length : Int))), (27, .slice A1 (y1).length cap1)] (by kernel_rfl) ?_
   obtain ⟨_, hk1, hm⟩ := bindE hm
   replace hk1 := mkE hk1
   refine wS_make (enc := encB) (x0 := (false : Bool)) (d := 29) (t := 120) (T := 4) (k1 := .i64) (k2 := .i64) (m := ((y1).length : Int)) (by kernel_rfl) el120 encB_ok (by rfl) hk1.1 hk1.2 ?_
   intro b3 w5 G8 F13 hc5
   have D13 : Dj (fp1 ++ fr1) [b3] := Dj.of F7.low (low1 G8)
   have D14 : Dj [b2] [b3] := Dj.of (lt1 F8.lt) (low1 G8)
   have D15 : Dj fp5 [b3] := Dj.of F9.low (low1 G8)
   have D16 : Dj (fp6 ++ fr4) [b3] := Dj.of F10.low (low1 G8)
   have D17 : Dj (fp7 ++ fr5) [b3] := Dj.of F11.low (low1 G8)
   have D18 : Dj fr1 [b3] := Dj.of F12.low (low1 G8)
   replace F4 := F4.chg hc5 Dj.nil
   replace F5 := F5.chg hc5 Dj.nil
   replace F6 := F6.chg hc5 notNil
   replace F7 := F7.chg hc5 Dj.nil
   replace F8 := F8.chg hc5 notNil
   replace F9 := F9.chg hc5 Dj.nil
   replace F10 := F10.chg hc5 Dj.nil
   replace F11 := F11.chg hc5 Dj.nil
   replace F12 := F12.chg hc5 Dj.nil
   replace hB := hB.inS hc5 inNil
   replace G8 := Nat.le_trans hZ G8
   replace G8 := low1 G8
   replace hZ := Nat.le_trans hZ hc5.size
   refine wS_pure 1 [(7, .slice (some ⟨b3, 0, none⟩) (List.replicate (Int.toNat (((y1).length : Int))) ((false : Bool))).length (Int.toNat (((y1).length : Int))))] (by kernel_rfl) ?_
   refine wS_end (by rfl) ?_
   refine eX_then ?_
   refine cW_seq ?_
   refine cW_region ?_
   refine wS_pure 2 [(31, .int .i64 (((y1).length : Int))), (30, .slice A1 (y1).length cap1)] (by kernel_rfl) ?_
   obtain ⟨_, hk2, hm⟩ := bindE hm
   replace hk2 := mkE hk2
   refine wS_make (enc := encB) (x0 := (false : Bool)) (d := 32) (t := 120) (T := 4) (k1 := .i64) (k2 := .i64) (m := ((y1).length : Int)) (by kernel_rfl) el120 encB_ok (by rfl) hk2.1 hk2.2 ?_
   intro b4 w6 G9 F14 hc6
   have D19 : Dj (fp1 ++ fr1) [b4] := Dj.of F7.low (low1 G9)
   have D20 : Dj [b2] [b4] := Dj.of (lt1 F8.lt) (low1 G9)
   have D21 : Dj fp5 [b4] := Dj.of F9.low (low1 G9)
   have D22 : Dj (fp6 ++ fr4) [b4] := Dj.of F10.low (low1 G9)
   have D23 : Dj (fp7 ++ fr5) [b4] := Dj.of F11.low (low1 G9)
   have D24 : Dj fr1 [b4] := Dj.of F12.low (low1 G9)
   have D25 : Dj [b3] [b4] := Dj.of F13.low (low1 G9)
   replace F4 := F4.chg hc6 Dj.nil
   replace F5 := F5.chg hc6 Dj.nil
   replace F6 := F6.chg hc6 notNil
   replace F7 := F7.chg hc6 Dj.nil
   replace F8 := F8.chg hc6 notNil
   replace F9 := F9.chg hc6 Dj.nil
   replace F10 := F10.chg hc6 Dj.nil
   replace F11 := F11.chg hc6 Dj.nil
   replace F12 := F12.chg hc6 Dj.nil
   replace F13 := F13.chg hc6 Dj.nil
   replace hB := hB.inS hc6 inNil
   replace G9 := Nat.le_trans hZ G9
   replace G9 := low1 G9
   replace hZ := Nat.le_trans hZ hc6.size
   refine wS_pure 1 [(8, .slice (some ⟨b4, 0, none⟩) (List.replicate (Int.toNat (((y1).length : Int))) ((false : Bool))).length (Int.toNat (((y1).length : Int))))] (by kernel_rfl) ?_
   refine wS_end (by rfl) ?_
   refine eX_then ?_
   refine cW_seq ?_
   refine cW_seq ?_
   refine cW_region ?_
   refine wS_pure 1 [(9, .int .i64 (0))] (by kernel_rfl) ?_
   refine wS_end (by rfl) ?_
   refine eX_then ?_
   obtain ⟨r2, hr2, hm⟩ := bindE hm
   have hm2 := hm
   refine cW_cut (fun a' w' => ∃ l8 : List (Bool), ∃ l9 : List (Bool), (l8, l9) = r2 ∧ Fr 162 [(0, .pointer (some ⟨b0, 0, none⟩)), (3, .slice A1 (y1).length cap1), (4, .pointer (some ⟨b2, 0, none⟩)), (5, .int .i64 (x1)), (7, .slice (some ⟨b3, 0, none⟩) (l8).length (Int.toNat (((y1).length : Int)))), (8, .slice (some ⟨b4, 0, none⟩) (l9).length (Int.toNat (((y1).length : Int))))] a' ∧ Sl 1 encI w' fp0_0 A0_0 l0_0 ∧ Sl 1 encI w' fp0_1 A0_1 l0_1 ∧ Cl w' b0 26 [.slice A0_0 (l0_0).length cap0_0, .slice A0_1 (l0_1).length cap0_1] ∧ OwR 1 encI 24 2 w' fp1 fr1 A1 cap1 y1 ∧ Cl w' b2 94 [.slice A6 (l5).length cap6, .slice A7 (l6).length cap7, .slice A8 (l7).length cap8] ∧ Ow 1 encI 2 w' fp5 A6 cap6 l5 ∧ OwR 1 encB 120 4 w' fp6 fr4 A7 cap7 l6 ∧ OwR 1 encB 120 4 w' fp7 fr5 A8 cap8 l7 ∧ Ow 1 encB 4 w' [b3] (some ⟨b3, 0, none⟩) (Int.toNat (((y1).length : Int))) l8 ∧ Ow 1 encB 4 w' [b4] (some ⟨b4, 0, none⟩) (Int.toNat (((y1).length : Int))) l9 ∧ Chg [] w0 w' ∧ w0.heap.size ≤ w'.heap.size) ?_ ?_
   ·refine cW_block ?_
    refine cW_loop _ (fun (s2 : Int × (List (Bool)) × (List (Bool))) a' w' => ∃ x3 : Int, ∃ l10 : List (Bool), ∃ l11 : List (Bool), (x3, l10, l11) = s2 ∧ Fr 162 [(0, .pointer (some ⟨b0, 0, none⟩)), (3, .slice A1 (y1).length cap1), (4, .pointer (some ⟨b2, 0, none⟩)), (5, .int .i64 (x1)), (6, .slice A9 (x2).length cap9), (7, .slice (some ⟨b3, 0, none⟩) (l10).length (Int.toNat (((y1).length : Int)))), (8, .slice (some ⟨b4, 0, none⟩) (l11).length (Int.toNat (((y1).length : Int)))), (9, .int .i64 (x3))] a' ∧ Sl 1 encI w' fp0_0 A0_0 l0_0 ∧ Sl 1 encI w' fp0_1 A0_1 l0_1 ∧ Cl w' b0 26 [.slice A0_0 (l0_0).length cap0_0, .slice A0_1 (l0_1).length cap0_1] ∧ OwR 1 encI 24 2 w' fp1 fr1 A1 cap1 y1 ∧ Cl w' b2 94 [.slice A6 (l5).length cap6, .slice A7 (l6).length cap7, .slice A8 (l7).length cap8] ∧ Ow 1 encI 2 w' fp5 A6 cap6 l5 ∧ OwR 1 encB 120 4 w' fp6 fr4 A7 cap7 l6 ∧ OwR 1 encB 120 4 w' fp7 fr5 A8 cap8 l7 ∧ Sl 1 encI w' fr1 A9 x2 ∧ Ow 1 encB 4 w' [b3] (some ⟨b3, 0, none⟩) (Int.toNat (((y1).length : Int))) l10 ∧ Ow 1 encB 4 w' [b4] (some ⟨b4, 0, none⟩) (Int.toNat (((y1).length : Int))) l11 ∧ Chg [] w0 w' ∧ w0.heap.size ≤ w'.heap.size) hr2 (fun hst => ⟨0, List.replicate (Int.toNat (((y1).length : Int))) ((false : Bool)), List.replicate (Int.toNat (((y1).length : Int))) ((false : Bool)), rfl, Fr.of hst (by kernel_rfl), F4, F5, F6, F7, F8, F9, F10, F11, F12, F13, F14, hB, hZ⟩) ?_
    rintro _ c2 a' w7 ⟨x3, l10, l11, rfl, hF2, F15, F16, F17, F18, F19, F20, F21, F22, F23, F24, F25, hB, hZ⟩ hx3
    refine Fr.goOn hF2 (by kernel_rfl) ?_
    have hm := hx3
    unfold m_spec_l03OfPieces_bimplChannel_s12 at hm
    refine cW_seq ?_
    refine cW_seq ?_
    refine cW_region ?_
    refine wS_pure 4 [(36, .bool (decide (x3 < (((y1).length : Int))))), (35, .int .i64 (((y1).length : Int))), (34, .slice A1 (y1).length cap1), (33, .int .i64 (x3))] (by kernel_rfl) ?_
    refine wS_end (by rfl) ?_
    refine eX_then ?_
    refine cW_cond (t := decide (x3 < (((y1).length : Int)))) (by kernel_rfl) (fun hb2 => ?_) (fun hb2 => ?_)
    ·have hm := condT hb2 hm
     refine cW_skip ?_
     refine eX_then ?_
     refine cW_seq ?_
     refine cW_block ?_
     refine cW_seq ?_
     refine cW_region ?_
     refine wS_pure 2 [(40, .int .i64 (x3)), (39, .slice A1 (y1).length cap1)] (by kernel_rfl) ?_
     obtain ⟨x4, hx4, hm⟩ := bindE hm
     refine wS_idx (d := 41) (T := 28) (A := A1) (n := (y1).length) (cap := cap1) (kd := .i64) (m := x3) (by kernel_rfl) sl28 ((F18.slr encI_ok).is hx4) ?_
     obtain ⟨A10, cap10, hc7, F26, K2⟩ := OwR.row F18 encI_ok hx4
     have G10 := low_inr G1
     have Dm2 := (F18.dj).symm
     refine wS_load1 (d := 42) (T := 24) (ad := (elA A1 1 (x3) 0)) (v := .slice A10 (x4).length cap10) (by kernel_rfl) vt24 hc7 ?_
     refine wS_pure 1 [(10, .slice A10 (x4).length cap10)] (by kernel_rfl) ?_
     refine wS_end (by rfl) ?_
     refine eX_then ?_
     refine cW_seq ?_
     obtain ⟨s3, hs1, hm⟩ := bindE hm
     refine cW_cut (fun a' w' => ∃ l12 : List (Bool), l12 = s3 ∧ Fr 162 [(0, .pointer (some ⟨b0, 0, none⟩)), (3, .slice A1 (y1).length cap1), (4, .pointer (some ⟨b2, 0, none⟩)), (5, .int .i64 (x1)), (6, .slice A9 (x2).length cap9), (7, .slice (some ⟨b3, 0, none⟩) (l12).length (Int.toNat (((y1).length : Int)))), (8, .slice (some ⟨b4, 0, none⟩) (l11).length (Int.toNat (((y1).length : Int)))), (9, .int .i64 (x3)), (10, .slice A10 (x4).length cap10)] a' ∧ Sl 1 encI w' fp0_0 A0_0 l0_0 ∧ Sl 1 encI w' fp0_1 A0_1 l0_1 ∧ Cl w' b0 26 [.slice A0_0 (l0_0).length cap0_0, .slice A0_1 (l0_1).length cap0_1] ∧ OwR 1 encI 24 2 w' fp1 fr1 A1 cap1 y1 ∧ Cl w' b2 94 [.slice A6 (l5).length cap6, .slice A7 (l6).length cap7, .slice A8 (l7).length cap8] ∧ Ow 1 encI 2 w' fp5 A6 cap6 l5 ∧ OwR 1 encB 120 4 w' fp6 fr4 A7 cap7 l6 ∧ OwR 1 encB 120 4 w' fp7 fr5 A8 cap8 l7 ∧ Sl 1 encI w' fr1 A9 x2 ∧ Ow 1 encB 4 w' [b3] (some ⟨b3, 0, none⟩) (Int.toNat (((y1).length : Int))) l12 ∧ Ow 1 encB 4 w' [b4] (some ⟨b4, 0, none⟩) (Int.toNat (((y1).length : Int))) l11 ∧ Sl 1 encI w' fr1 A10 x4 ∧ Chg [] w0 w' ∧ w0.heap.size ≤ w'.heap.size) ?_ ?_
     ·have hm := hs1
      refine cW_drawnTail [] 27 (by kernel_rfl) (by kernel_rfl) (fun w8 hc8 => ?_)
      replace F15 := F15.chg hc8 Dj.nil
      replace F16 := F16.chg hc8 Dj.nil
      replace F17 := F17.chg hc8 notNil
      replace F18 := F18.chg hc8 Dj.nil
      replace F19 := F19.chg hc8 notNil
      replace F20 := F20.chg hc8 Dj.nil
      replace F21 := F21.chg hc8 Dj.nil
      replace F22 := F22.chg hc8 Dj.nil
      replace F23 := F23.chg hc8 Dj.nil
      replace F24 := F24.chg hc8 Dj.nil
      replace F25 := F25.chg hc8 Dj.nil
      replace F26 := F26.chg hc8 Dj.nil
      replace hB := hB.inS hc8 inNil
      replace hZ := Nat.le_trans hZ hc8.size
      have hS := Chg.refl [] w8
      have Z1 := F15
      have Z2 := F16
      have Z3 := F17
      have Z4 := F18
      have Z5 := F19
      have Z6 := F20
      have Z7 := F21
      have Z8 := F22
      have Z9 := F23
      have Z10 := F24
      have Z11 := F25
      have Z12 := F26
      refine wH_take [0, 1, 2] [2, 1, 0] [(45, .slice A9 (x2).length cap9), (44, .int .i64 (x3)), (43, .slice (some ⟨b3, 0, none⟩) (l10).length (Int.toNat (((y1).length : Int))))] (by kernel_rfl) (qT (qT (qT (qB (qT (qL (qB (qT (qT (qB (qT (qL (qB (qT (qT qZ))))))))))))))) (by kernel_rfl) ?_
      obtain ⟨x5, hx5, hm⟩ := bindE hm
      refine wH_idx (i := 3) (d := 46) (T := 24) (A := A9) (n := (x2).length) (cap := cap9) (kd := .i64) (m := 0) (by kernel_rfl) (qT (qT (qT (qB (qT (qL (qB (qT (qT (qB (qT (qL (qB (qT (qT qZ))))))))))))))) (by kernel_rfl) (by kernel_rfl) sl24 (F23.is hx5) ?_
      refine wH_load1 (i := 4) (d := 47) (T := 2) (ad := (elA A9 1 (0) 0)) (v := .int .i64 (x5)) (by kernel_rfl) (qT (qT (qT (qB (qT (qL (qB (qT (qT (qB (qT (qL (qB (qT (qT qZ))))))))))))))) (by kernel_rfl) (by kernel_rfl) vt2 (fun W hW => Sl.cell (Z9.chg hW Dj.nil) hx5 0 (by rfl)) ?_
      refine wH_take [5] [5, 4, 3, 2, 1, 0] [(48, .slice A10 (x4).length cap10)] (by kernel_rfl) (qT (qT (qT (qB (qT (qL (qB (qT (qT (qB (qT (qL (qB (qT (qT qZ))))))))))))))) (by kernel_rfl) ?_
      obtain ⟨x6, hx6, hm⟩ := bindE hm
      refine wH_idx (i := 6) (d := 49) (T := 24) (A := A10) (n := (x4).length) (cap := cap10) (kd := .i64) (m := 0) (by kernel_rfl) (qT (qT (qT (qB (qT (qL (qB (qT (qT (qB (qT (qL (qB (qT (qT qZ))))))))))))))) (by kernel_rfl) (by kernel_rfl) sl24 (F26.is hx6) ?_
      refine wH_load1 (i := 7) (d := 50) (T := 2) (ad := (elA A10 1 (0) 0)) (v := .int .i64 (x6)) (by kernel_rfl) (qT (qT (qT (qB (qT (qL (qB (qT (qT (qB (qT (qL (qB (qT (qT qZ))))))))))))))) (by kernel_rfl) (by kernel_rfl) vt2 (fun W hW => Sl.cell (Z12.chg hW Dj.nil) hx6 0 (by rfl)) ?_
      refine wH_take [8, 9] [9, 8, 7, 6, 5, 4, 3, 2, 1, 0] [(52, .bool (x5 != x6)), (51, .bool (x5 != x6))] (by kernel_rfl) (qT (qT (qT (qB (qT (qL (qB (qT (qT (qB (qT (qL (qB (qT (qT qZ))))))))))))))) (by kernel_rfl) ?_
      refine wH_bool (x5 != x6) (fun hb3 => ?_) (fun hb3 => ?_)
      ·have hm := condT hb3 hm
       rewrite [hb3]
       refine wH_take [10] [10, 9, 8, 7, 6, 5, 4, 3, 2, 1, 0] [(53, .slice A9 (x2).length cap9)] (by kernel_rfl) (qT (qT (qT (qB (qT (qL (qB (qT (qT (qB (qT (qL (qB (qT (qT qZ))))))))))))))) (by kernel_rfl) ?_
       obtain ⟨x7, hx7, hm⟩ := bindE hm
       refine wH_idx (i := 11) (d := 54) (T := 24) (A := A9) (n := (x2).length) (cap := cap9) (kd := .i64) (m := 1) (by kernel_rfl) (qT (qT (qT (qB (qT (qL (qB (qT (qT (qB (qT (qL (qB (qT (qT qZ))))))))))))))) (by kernel_rfl) (by kernel_rfl) sl24 (F23.is hx7) ?_
       refine wH_load1 (i := 12) (d := 55) (T := 2) (ad := (elA A9 1 (1) 0)) (v := .int .i64 (x7)) (by kernel_rfl) (qT (qT (qT (qB (qT (qL (qB (qT (qT (qB (qT (qL (qB (qT (qT qZ))))))))))))))) (by kernel_rfl) (by kernel_rfl) vt2 (fun W hW => Sl.cell (Z9.chg hW Dj.nil) hx7 0 (by rfl)) ?_
       refine wH_take [13] [13, 12, 11, 10, 9, 8, 7, 6, 5, 4, 3, 2, 1, 0] [(56, .slice A10 (x4).length cap10)] (by kernel_rfl) (qT (qT (qT (qB (qT (qL (qB (qT (qT (qB (qT (qL (qB (qT (qT qZ))))))))))))))) (by kernel_rfl) ?_
       obtain ⟨x8, hx8, hm⟩ := bindE hm
       refine wH_idx (i := 14) (d := 57) (T := 24) (A := A10) (n := (x4).length) (cap := cap10) (kd := .i64) (m := 2) (by kernel_rfl) (qT (qT (qT (qB (qT (qL (qB (qT (qT (qB (qT (qL (qB (qT (qT qZ))))))))))))))) (by kernel_rfl) (by kernel_rfl) sl24 (F26.is hx8) ?_
       refine wH_load1 (i := 15) (d := 58) (T := 2) (ad := (elA A10 1 (2) 0)) (v := .int .i64 (x8)) (by kernel_rfl) (qT (qT (qT (qB (qT (qL (qB (qT (qT (qB (qT (qL (qB (qT (qT qZ))))))))))))))) (by kernel_rfl) (by kernel_rfl) vt2 (fun W hW => Sl.cell (Z12.chg hW Dj.nil) hx8 0 (by rfl)) ?_
       refine wH_take [16, 17, 18] [18, 17, 16, 15, 14, 13, 12, 11, 10, 9, 8, 7, 6, 5, 4, 3, 2, 1, 0] [(61, .bool (decide (x7 ≤ x8))), (60, .bool (decide (x7 ≤ x8))), (59, .bool (decide (x7 ≤ x8)))] (by kernel_rfl) (qT (qT (qT (qB (qT (qL (qB (qT (qT (qB (qT (qL (qB (qT (qT qZ))))))))))))))) (by kernel_rfl) ?_
       refine wH_bool (decide (x7 ≤ x8)) (fun hb4 => ?_) (fun hb4 => ?_)
       ·have hm := condT hb4 hm
        rewrite [hb4]
        refine wH_take [19] [19, 18, 17, 16, 15, 14, 13, 12, 11, 10, 9, 8, 7, 6, 5, 4, 3, 2, 1, 0] [(62, .slice A10 (x4).length cap10)] (by kernel_rfl) (qT (qT (qT (qB (qT (qL (qB (qT (qT (qB (qT (qL (qB (qT (qT qZ))))))))))))))) (by kernel_rfl) ?_
        obtain ⟨x9, hx9, hm⟩ := bindE hm
        refine wH_idx (i := 20) (d := 63) (T := 24) (A := A10) (n := (x4).length) (cap := cap10) (kd := .i64) (m := 1) (by kernel_rfl) (qT (qT (qT (qB (qT (qL (qB (qT (qT (qB (qT (qL (qB (qT (qT qZ))))))))))))))) (by kernel_rfl) (by kernel_rfl) sl24 (F26.is hx9) ?_
        refine wH_load1 (i := 21) (d := 64) (T := 2) (ad := (elA A10 1 (1) 0)) (v := .int .i64 (x9)) (by kernel_rfl) (qT (qT (qT (qB (qT (qL (qB (qT (qT (qB (qT (qL (qB (qT (qT qZ))))))))))))))) (by kernel_rfl) (by kernel_rfl) vt2 (fun W hW => Sl.cell (Z12.chg hW Dj.nil) hx9 0 (by rfl)) ?_
        refine wH_take [22] [22, 21, 20, 19, 18, 17, 16, 15, 14, 13, 12, 11, 10, 9, 8, 7, 6, 5, 4, 3, 2, 1, 0] [(65, .slice A9 (x2).length cap9)] (by kernel_rfl) (qT (qT (qT (qB (qT (qL (qB (qT (qT (qB (qT (qL (qB (qT (qT qZ))))))))))))))) (by kernel_rfl) ?_
        obtain ⟨x10, hx10, hm⟩ := bindE hm
        refine wH_idx (i := 23) (d := 66) (T := 24) (A := A9) (n := (x2).length) (cap := cap9) (kd := .i64) (m := 2) (by kernel_rfl) (qT (qT (qT (qB (qT (qL (qB (qT (qT (qB (qT (qL (qB (qT (qT qZ))))))))))))))) (by kernel_rfl) (by kernel_rfl) sl24 (F23.is hx10) ?_
        refine wH_load1 (i := 24) (d := 67) (T := 2) (ad := (elA A9 1 (2) 0)) (v := .int .i64 (x10)) (by kernel_rfl) (qT (qT (qT (qB (qT (qL (qB (qT (qT (qB (qT (qL (qB (qT (qT qZ))))))))))))))) (by kernel_rfl) (by kernel_rfl) vt2 (fun W hW => Sl.cell (Z9.chg hW Dj.nil) hx10 0 (by rfl)) ?_
        refine wH_take [25, 26] [26, 25, 24, 23, 22, 21, 20, 19, 18, 17, 16, 15, 14, 13, 12, 11, 10, 9, 8, 7, 6, 5, 4, 3, 2, 1, 0] [(69, .bool (decide (x9 ≤ x10))), (68, .bool (decide (x9 ≤ x10)))] (by kernel_rfl) (qT (qT (qT (qB (qT (qL (qB (qT (qT (qB (qT (qL (qB (qT (qT qZ))))))))))))))) (by kernel_rfl) ?_
        refine wH_done (by kernel_rfl) ?_
        refine eX_tail ?_
        obtain ⟨x11, hx11, hm⟩ := bindE hm
        refine wS_idx (d := 70) (T := 120) (A := (some ⟨b3, 0, none⟩)) (n := (l10).length) (cap := (Int.toNat (((y1).length : Int)))) (kd := .i64) (m := x3) (by kernel_rfl) sl120 ((F24.sl encB_ok).is hx11) ?_
        refine wS_storeEl (x := x11) (decide (x9 ≤ x10)) (T := 4) (U := 4) (cap := (Int.toNat (((y1).length : Int)))) (j := 0) (A := (some ⟨b3, 0, none⟩)) (v := .bool (decide (x9 ≤ x10))) (vs := [.bool (decide (x9 ≤ x10))]) (m := x3) (by kernel_rfl) (by rfl) sz4 (by rfl) encB_ok F24 hx11 (by simp only [List.length_cons, List.length_nil]; omega) (by rfl) ?_
        intro w9 F27 hc9
        replace F15 := F15.chg hc9 (Dj.of L0_0 G8)
        replace F16 := F16.chg hc9 (Dj.of L0_1 G8)
        replace F17 := F17.chg hc9 (dj1 (Dj.of L0 G8))
        replace F18 := F18.chg hc9 D13
        replace F19 := F19.chg hc9 (dj1 D14)
        replace F20 := F20.chg hc9 D15
        replace F21 := F21.chg hc9 D16
        replace F22 := F22.chg hc9 D17
        replace F23 := F23.chg hc9 D18
        replace F25 := F25.chg hc9 (D25).symm
        replace F26 := F26.chg hc9 ((Dj.inr (D13).symm)).symm
        replace hB := hB.inS hc9 (inLow G8)
        replace hZ := Nat.le_trans hZ hc9.size
        clear F24
        rewrite [show (l10).length = (l10.set (Int.toNat x3) (decide (x9 ≤ x10))).length from (List.length_set ..).symm]
        refine wS_end (by rfl) ?_
        have hq : (some (l10.set (Int.toNat x3) (decide (x9 ≤ x10))) : Option ((List (Bool)))) = some _ := hm
        replace hq := someE hq
        subst hq
        exact eX_J (fun hst => ⟨l10.set (Int.toNat x3) (decide (x9 ≤ x10)), rfl, Fr.of hst (by kernel_rfl), F15, F16, F17, F18, F19, F20, F21, F22, F23, F27, F25, F26, hB, hZ⟩)
       ·have hm := condF hb4 hm
        rewrite [hb4]
        refine wH_take [19, 20, 21, 22, 23, 24, 25, 26] [26, 25, 24, 23, 22, 21, 20, 19, 18, 17, 16, 15, 14, 13, 12, 11, 10, 9, 8, 7, 6, 5, 4, 3, 2, 1, 0] [(69, .bool (false)), (68, undef), (67, undef), (66, undef), (65, undef), (64, undef), (63, undef), (62, undef)] (by kernel_rfl) (qT (qT (qT (qB (qT (qL (qB (qT (qT (qB (qT (qL (qB (qT (qT qZ))))))))))))))) (by kernel_rfl) ?_
        refine wH_done (by kernel_rfl) ?_
        refine eX_tail ?_
        obtain ⟨x12, hx12, hm⟩ := bindE hm
        refine wS_idx (d := 70) (T := 120) (A := (some ⟨b3, 0, none⟩)) (n := (l10).length) (cap := (Int.toNat (((y1).length : Int)))) (kd := .i64) (m := x3) (by kernel_rfl) sl120 ((F24.sl encB_ok).is hx12) ?_
        refine wS_storeEl (x := x12) false (T := 4) (U := 4) (cap := (Int.toNat (((y1).length : Int)))) (j := 0) (A := (some ⟨b3, 0, none⟩)) (v := .bool (false)) (vs := [.bool (false)]) (m := x3) (by kernel_rfl) (by rfl) sz4 (by rfl) encB_ok F24 hx12 (by simp only [List.length_cons, List.length_nil]; omega) (by rfl) ?_
        intro w10 F28 hc10
        replace F15 := F15.chg hc10 (Dj.of L0_0 G8)
        replace F16 := F16.chg hc10 (Dj.of L0_1 G8)
        replace F17 := F17.chg hc10 (dj1 (Dj.of L0 G8))
        replace F18 := F18.chg hc10 D13
        replace F19 := F19.chg hc10 (dj1 D14)
        replace F20 := F20.chg hc10 D15
        replace F21 := F21.chg hc10 D16
        replace F22 := F22.chg hc10 D17
        replace F23 := F23.chg hc10 D18
        replace F25 := F25.chg hc10 (D25).symm
        replace F26 := F26.chg hc10 ((Dj.inr (D13).symm)).symm
        replace hB := hB.inS hc10 (inLow G8)
        replace hZ := Nat.le_trans hZ hc10.size
        clear F24
        rewrite [show (l10).length = (l10.set (Int.toNat x3) false).length from (List.length_set ..).symm]
        refine wS_end (by rfl) ?_
        have hq : (some (l10.set (Int.toNat x3) false) : Option ((List (Bool)))) = some _ := hm
        replace hq := someE hq
        subst hq
        exact eX_J (fun hst => ⟨l10.set (Int.toNat x3) false, rfl, Fr.of hst (by kernel_rfl), F15, F16, F17, F18, F19, F20, F21, F22, F23, F28, F25, F26, hB, hZ⟩)
      ·have hm := condF hb3 hm
       rewrite [hb3]
       refine wH_take [10, 11, 12, 13, 14, 15, 16, 17, 18, 19, 20, 21, 22, 23, 24, 25, 26] [26, 25, 24, 23, 22, 21, 20, 19, 18, 17, 16, 15, 14, 13, 12, 11, 10, 9, 8, 7, 6, 5, 4, 3, 2, 1, 0] [(69, .bool (false)), (68, undef), (67, undef), (66, undef), (65, undef), (64, undef), (63, undef), (62, undef), (61, .bool (false)), (60, .bool (false)), (59, undef), (58, undef), (57, undef), (56, undef), (55, undef), (54, undef), (53, undef)] (by kernel_rfl) (qT (qT (qT (qB (qT (qL (qB (qT (qT (qB (qT (qL (qB (qT (qT qZ))))))))))))))) (by kernel_rfl) ?_
       refine wH_done (by kernel_rfl) ?_
       refine eX_tail ?_
       obtain ⟨x13, hx13, hm⟩ := bindE hm
       refine wS_idx (d := 70) (T := 120) (A := (some ⟨b3, 0, none⟩)) (n := (l10).length) (cap := (Int.toNat (((y1).length : Int)))) (kd := .i64) (m := x3) (by kernel_rfl) sl120 ((F24.sl encB_ok).is hx13) ?_
       refine wS_storeEl (x := x13) false (T := 4) (U := 4) (cap := (Int.toNat (((y1).length : Int)))) (j := 0) (A := (some ⟨b3, 0, none⟩)) (v := .bool (false)) (vs := [.bool (false)]) (m := x3) (by kernel_rfl) (by rfl) sz4 (by rfl) encB_ok F24 hx13 (by simp only [List.length_cons, List.length_nil]; omega) (by rfl) ?_
       intro w11 F29 hc11
       replace F15 := F15.chg hc11 (Dj.of L0_0 G8)
       replace F16 := F16.chg hc11 (Dj.of L0_1 G8)
       replace F17 := F17.chg hc11 (dj1 (Dj.of L0 G8))
       replace F18 := F18.chg hc11 D13
       replace F19 := F19.chg hc11 (dj1 D14)
       replace F20 := F20.chg hc11 D15
       replace F21 := F21.chg hc11 D16
       replace F22 := F22.chg hc11 D17
       replace F23 := F23.chg hc11 D18
       replace F25 := F25.chg hc11 (D25).symm
       replace F26 := F26.chg hc11 ((Dj.inr (D13).symm)).symm
       replace hB := hB.inS hc11 (inLow G8)
       replace hZ := Nat.le_trans hZ hc11.size
       clear F24
       rewrite [show (l10).length = (l10.set (Int.toNat x3) false).length from (List.length_set ..).symm]
       refine wS_end (by rfl) ?_
       have hq : (some (l10.set (Int.toNat x3) false) : Option ((List (Bool)))) = some _ := hm
       replace hq := someE hq
       subst hq
       exact eX_J (fun hst => ⟨l10.set (Int.toNat x3) false, rfl, Fr.of hst (by kernel_rfl), F15, F16, F17, F18, F19, F20, F21, F22, F23, F29, F25, F26, hB, hZ⟩)
     ·rintro a' w12 ⟨l12, hJ, hF3, F30, F31, F32, F33, F34, F35, F36, F37, F38, F39, F40, F41, hB, hZ⟩
      subst hJ
      refine Fr.goX hF3 (by kernel_rfl) ?_
      refine eX_then ?_
      refine cW_seq ?_
      refine cW_drawnTail [] 6 (by kernel_rfl) (by kernel_rfl) (fun w13 hc12 => ?_)
      replace F30 := F30.chg hc12 Dj.nil
      replace F31 := F31.chg hc12 Dj.nil
      replace F32 := F32.chg hc12 notNil
      replace F33 := F33.chg hc12 Dj.nil
      replace F34 := F34.chg hc12 notNil
      replace F35 := F35.chg hc12 Dj.nil
      replace F36 := F36.chg hc12 Dj.nil
      replace F37 := F37.chg hc12 Dj.nil
      replace F38 := F38.chg hc12 Dj.nil
      replace F39 := F39.chg hc12 Dj.nil
      replace F40 := F40.chg hc12 Dj.nil
      replace F41 := F41.chg hc12 Dj.nil
      replace hB := hB.inS hc12 inNil
      replace hZ := Nat.le_trans hZ hc12.size
      have hS := Chg.refl [] w13
      have Z13 := F30
      have Z14 := F31
      have Z15 := F32
      have Z16 := F33
      have Z17 := F34
      have Z18 := F35
      have Z19 := F36
      have Z20 := F37
      have Z21 := F38
      have Z22 := F39
      have Z23 := F40
      have Z24 := F41
      refine wH_take [0] [0] [(71, .slice A9 (x2).length cap9)] (by kernel_rfl) (qT (qT (qB (qT (qL (qB (qT (qT (qB (qT (qL (qB (qT (qT qZ)))))))))))))) (by kernel_rfl) ?_
      obtain ⟨x14, hx14, hm⟩ := bindE hm
      refine wH_idx (i := 1) (d := 72) (T := 24) (A := A9) (n := (x2).length) (cap := cap9) (kd := .i64) (m := 1) (by kernel_rfl) (qT (qT (qB (qT (qL (qB (qT (qT (qB (qT (qL (qB (qT (qT qZ)))))))))))))) (by kernel_rfl) (by kernel_rfl) sl24 (F38.is hx14) ?_
      refine wH_load1 (i := 2) (d := 73) (T := 2) (ad := (elA A9 1 (1) 0)) (v := .int .i64 (x14)) (by kernel_rfl) (qT (qT (qB (qT (qL (qB (qT (qT (qB (qT (qL (qB (qT (qT qZ)))))))))))))) (by kernel_rfl) (by kernel_rfl) vt2 (fun W hW => Sl.cell (Z21.chg hW Dj.nil) hx14 0 (by rfl)) ?_
      refine wH_take [3] [3, 2, 1, 0] [(74, .slice A10 (x4).length cap10)] (by kernel_rfl) (qT (qT (qB (qT (qL (qB (qT (qT (qB (qT (qL (qB (qT (qT qZ)))))))))))))) (by kernel_rfl) ?_
      obtain ⟨x15, hx15, hm⟩ := bindE hm
      refine wH_idx (i := 4) (d := 75) (T := 24) (A := A10) (n := (x4).length) (cap := cap10) (kd := .i64) (m := 1) (by kernel_rfl) (qT (qT (qB (qT (qL (qB (qT (qT (qB (qT (qL (qB (qT (qT qZ)))))))))))))) (by kernel_rfl) (by kernel_rfl) sl24 (F41.is hx15) ?_
      refine wH_load1 (i := 5) (d := 76) (T := 2) (ad := (elA A10 1 (1) 0)) (v := .int .i64 (x15)) (by kernel_rfl) (qT (qT (qB (qT (qL (qB (qT (qT (qB (qT (qL (qB (qT (qT qZ)))))))))))))) (by kernel_rfl) (by kernel_rfl) vt2 (fun W hW => Sl.cell (Z24.chg hW Dj.nil) hx15 0 (by rfl)) ?_
      refine wH_done (by kernel_rfl) ?_
      refine eX_tail ?_
      obtain ⟨y2, hy2, hm⟩ := bindE hm
      refine wS_calls (d := 77) (f := 99) (vs := [.int .i64 (x14), .int .i64 (x15)]) (by kernel_rfl) ent99 (c_spec_l00Max hy2) ?_
      rintro _ w14 ⟨rfl, hc13⟩
      replace F30 := F30.chg hc13 Dj.nil
      replace F31 := F31.chg hc13 Dj.nil
      replace F32 := F32.chg hc13 notNil
      replace F33 := F33.chg hc13 Dj.nil
      replace F34 := F34.chg hc13 notNil
      replace F35 := F35.chg hc13 Dj.nil
      replace F36 := F36.chg hc13 Dj.nil
      replace F37 := F37.chg hc13 Dj.nil
      replace F38 := F38.chg hc13 Dj.nil
      replace F39 := F39.chg hc13 Dj.nil
      replace F40 := F40.chg hc13 Dj.nil
      replace F41 := F41.chg hc13 Dj.nil
      replace hB := hB.inS hc13 inNil
      replace hZ := Nat.le_trans hZ hc13.size
      refine ⟨.int .i64 (y2), rfl, ?_⟩
      refine wS_pure 1 [(11, .int .i64 (y2))] (by kernel_rfl) ?_
      refine wS_end (by rfl) ?_
      refine eX_then ?_
      obtain ⟨r3, hr3, hm⟩ := bindE hm
      have hm3 := hm
      refine cW_cut (fun a' w' => ∃ l13 : List (Bool), l13 = r3 ∧ Fr 162 [(0, .pointer (some ⟨b0, 0, none⟩)), (3, .slice A1 (y1).length cap1), (4, .pointer (some ⟨b2, 0, none⟩)), (5, .int .i64 (x1)), (6, .slice A9 (x2).length cap9), (7, .slice (some ⟨b3, 0, none⟩) (l12).length (Int.toNat (((y1).length : Int)))), (8, .slice (some ⟨b4, 0, none⟩) (l13).length (Int.toNat (((y1).length : Int)))), (9, .int .i64 (x3))] a' ∧ Sl 1 encI w' fp0_0 A0_0 l0_0 ∧ Sl 1 encI w' fp0_1 A0_1 l0_1 ∧ Cl w' b0 26 [.slice A0_0 (l0_0).length cap0_0, .slice A0_1 (l0_1).length cap0_1] ∧ OwR 1 encI 24 2 w' fp1 fr1 A1 cap1 y1 ∧ Cl w' b2 94 [.slice A6 (l5).length cap6, .slice A7 (l6).length cap7, .slice A8 (l7).length cap8] ∧ Ow 1 encI 2 w' fp5 A6 cap6 l5 ∧ OwR 1 encB 120 4 w' fp6 fr4 A7 cap7 l6 ∧ OwR 1 encB 120 4 w' fp7 fr5 A8 cap8 l7 ∧ Sl 1 encI w' fr1 A9 x2 ∧ Ow 1 encB 4 w' [b3] (some ⟨b3, 0, none⟩) (Int.toNat (((y1).length : Int))) l12 ∧ Ow 1 encB 4 w' [b4] (some ⟨b4, 0, none⟩) (Int.toNat (((y1).length : Int))) l13 ∧ Chg [] w0 w' ∧ w0.heap.size ≤ w'.heap.size) ?_ ?_
      ·refine cW_block ?_
       refine cW_loop _ (fun (s4 : Int × (List (Bool))) a' w' => ∃ x16 : Int, ∃ l14 : List (Bool), (x16, l14) = s4 ∧ Fr 162 [(0, .pointer (some ⟨b0, 0, none⟩)), (3, .slice A1 (y1).length cap1), (4, .pointer (some ⟨b2, 0, none⟩)), (5, .int .i64 (x1)), (6, .slice A9 (x2).length cap9), (7, .slice (some ⟨b3, 0, none⟩) (l12).length (Int.toNat (((y1).length : Int)))), (8, .slice (some ⟨b4, 0, none⟩) (l14).length (Int.toNat (((y1).length : Int)))), (9, .int .i64 (x3)), (10, .slice A10 (x4).length cap10), (11, .int .i64 (x16))] a' ∧ Sl 1 encI w' fp0_0 A0_0 l0_0 ∧ Sl 1 encI w' fp0_1 A0_1 l0_1 ∧ Cl w' b0 26 [.slice A0_0 (l0_0).length cap0_0, .slice A0_1 (l0_1).length cap0_1] ∧ OwR 1 encI 24 2 w' fp1 fr1 A1 cap1 y1 ∧ Cl w' b2 94 [.slice A6 (l5).length cap6, .slice A7 (l6).length cap7, .slice A8 (l7).length cap8] ∧ Ow 1 encI 2 w' fp5 A6 cap6 l5 ∧ OwR 1 encB 120 4 w' fp6 fr4 A7 cap7 l6 ∧ OwR 1 encB 120 4 w' fp7 fr5 A8 cap8 l7 ∧ Sl 1 encI w' fr1 A9 x2 ∧ Ow 1 encB 4 w' [b3] (some ⟨b3, 0, none⟩) (Int.toNat (((y1).length : Int))) l12 ∧ Ow 1 encB 4 w' [b4] (some ⟨b4, 0, none⟩) (Int.toNat (((y1).length : Int))) l14 ∧ Sl 1 encI w' fr1 A10 x4 ∧ Chg [] w0 w' ∧ w0.heap.size ≤ w'.heap.size) hr3 (fun hst => ⟨y2, l11, rfl, Fr.of hst (by kernel_rfl), F30, F31, F32, F33, F34, F35, F36, F37, F38, F39, F40, F41, hB, hZ⟩) ?_
       rintro _ c3 a' w15 ⟨x16, l14, rfl, hF4, F42, F43, F44, F45, F46, F47, F48, F49, F50, F51, F52, F53, hB, hZ⟩ hx16
       refine Fr.goOn hF4 (by kernel_rfl) ?_
       have hm := hx16
       unfold m_spec_l03OfPieces_bimplChannel_s13 at hm
       refine cW_seq ?_
       refine cW_seq ?_
       obtain ⟨s5, hs2, hm⟩ := bindE hm
       refine cW_cut (fun a' w' => ∃ x17 : Bool, x17 = s5 ∧ Fr 162 [(0, .pointer (some ⟨b0, 0, none⟩)), (3, .slice A1 (y1).length cap1), (4, .pointer (some ⟨b2, 0, none⟩)), (5, .int .i64 (x1)), (6, .slice A9 (x2).length cap9), (7, .slice (some ⟨b3, 0, none⟩) (l12).length (Int.toNat (((y1).length : Int)))), (8, .slice (some ⟨b4, 0, none⟩) (l14).length (Int.toNat (((y1).length : Int)))), (9, .int .i64 (x3)), (10, .slice A10 (x4).length cap10), (11, .int .i64 (x16)), (95, .bool (x17))] a' ∧ Sl 1 encI w' fp0_0 A0_0 l0_0 ∧ Sl 1 encI w' fp0_1 A0_1 l0_1 ∧ Cl w' b0 26 [.slice A0_0 (l0_0).length cap0_0, .slice A0_1 (l0_1).length cap0_1] ∧ OwR 1 encI 24 2 w' fp1 fr1 A1 cap1 y1 ∧ Cl w' b2 94 [.slice A6 (l5).length cap6, .slice A7 (l6).length cap7, .slice A8 (l7).length cap8] ∧ Ow 1 encI 2 w' fp5 A6 cap6 l5 ∧ OwR 1 encB 120 4 w' fp6 fr4 A7 cap7 l6 ∧ OwR 1 encB 120 4 w' fp7 fr5 A8 cap8 l7 ∧ Sl 1 encI w' fr1 A9 x2 ∧ Ow 1 encB 4 w' [b3] (some ⟨b3, 0, none⟩) (Int.toNat (((y1).length : Int))) l12 ∧ Ow 1 encB 4 w' [b4] (some ⟨b4, 0, none⟩) (Int.toNat (((y1).length : Int))) l14 ∧ Sl 1 encI w' fr1 A10 x4 ∧ Chg [] w0 w' ∧ w0.heap.size ≤ w'.heap.size) ?_ ?_
       ·have hm := hs2
        refine cW_drawnTail [] 16 (by kernel_rfl) (by kernel_rfl) (fun w16 hc14 => ?_)
        replace F42 := F42.chg hc14 Dj.nil
        replace F43 := F43.chg hc14 Dj.nil
        replace F44 := F44.chg hc14 notNil
        replace F45 := F45.chg hc14 Dj.nil
        replace F46 := F46.chg hc14 notNil
        replace F47 := F47.chg hc14 Dj.nil
        replace F48 := F48.chg hc14 Dj.nil
        replace F49 := F49.chg hc14 Dj.nil
        replace F50 := F50.chg hc14 Dj.nil
        replace F51 := F51.chg hc14 Dj.nil
        replace F52 := F52.chg hc14 Dj.nil
        replace F53 := F53.chg hc14 Dj.nil
        replace hB := hB.inS hc14 inNil
        replace hZ := Nat.le_trans hZ hc14.size
        have hS := Chg.refl [] w16
        have Z25 := F42
        have Z26 := F43
        have Z27 := F44
        have Z28 := F45
        have Z29 := F46
        have Z30 := F47
        have Z31 := F48
        have Z32 := F49
        have Z33 := F50
        have Z34 := F51
        have Z35 := F52
        have Z36 := F53
        refine wH_take [0, 1] [1, 0] [(79, .slice A9 (x2).length cap9), (78, .int .i64 (x16))] (by kernel_rfl) (qT (qT (qT (qT (qL (qB (qT (qB (qT (qL (qB (qT (qT (qB (qT (qL (qB (qT (qT qZ))))))))))))))))))) (by kernel_rfl) ?_
        obtain ⟨x18, hx17, hm⟩ := bindE hm
        refine wH_idx (i := 2) (d := 80) (T := 24) (A := A9) (n := (x2).length) (cap := cap9) (kd := .i64) (m := 2) (by kernel_rfl) (qT (qT (qT (qT (qL (qB (qT (qB (qT (qL (qB (qT (qT (qB (qT (qL (qB (qT (qT qZ))))))))))))))))))) (by kernel_rfl) (by kernel_rfl) sl24 (F50.is hx17) ?_
        refine wH_load1 (i := 3) (d := 81) (T := 2) (ad := (elA A9 1 (2) 0)) (v := .int .i64 (x18)) (by kernel_rfl) (qT (qT (qT (qT (qL (qB (qT (qB (qT (qL (qB (qT (qT (qB (qT (qL (qB (qT (qT qZ))))))))))))))))))) (by kernel_rfl) (by kernel_rfl) vt2 (fun W hW => Sl.cell (Z33.chg hW Dj.nil) hx17 0 (by rfl)) ?_
        refine wH_take [4] [4, 3, 2, 1, 0] [(82, .slice A10 (x4).length cap10)] (by kernel_rfl) (qT (qT (qT (qT (qL (qB (qT (qB (qT (qL (qB (qT (qT (qB (qT (qL (qB (qT (qT qZ))))))))))))))))))) (by kernel_rfl) ?_
        obtain ⟨x19, hx18, hm⟩ := bindE hm
        refine wH_idx (i := 5) (d := 83) (T := 24) (A := A10) (n := (x4).length) (cap := cap10) (kd := .i64) (m := 2) (by kernel_rfl) (qT (qT (qT (qT (qL (qB (qT (qB (qT (qL (qB (qT (qT (qB (qT (qL (qB (qT (qT qZ))))))))))))))))))) (by kernel_rfl) (by kernel_rfl) sl24 (F53.is hx18) ?_
        refine wH_load1 (i := 6) (d := 84) (T := 2) (ad := (elA A10 1 (2) 0)) (v := .int .i64 (x19)) (by kernel_rfl) (qT (qT (qT (qT (qL (qB (qT (qB (qT (qL (qB (qT (qT (qB (qT (qL (qB (qT (qT qZ))))))))))))))))))) (by kernel_rfl) (by kernel_rfl) vt2 (fun W hW => Sl.cell (Z36.chg hW Dj.nil) hx18 0 (by rfl)) ?_
        refine wH_all [7] (by rfl) (by kernel_rfl) (by simp) ⟨⟨by kernel_rfl, ?_⟩, trivial⟩
        obtain ⟨y3, hy3, hm⟩ := bindE hm
        refine wS_calls (d := 85) (f := 100) (vs := [.int .i64 (x18), .int .i64 (x19)]) (by kernel_rfl) ent100 (c_spec_l00Min hy3) ?_
        rintro _ w17 ⟨rfl, hc15⟩
        replace F42 := F42.chg hc15 Dj.nil
        replace F43 := F43.chg hc15 Dj.nil
        replace F44 := F44.chg hc15 notNil
        replace F45 := F45.chg hc15 Dj.nil
        replace F46 := F46.chg hc15 notNil
        replace F47 := F47.chg hc15 Dj.nil
        replace F48 := F48.chg hc15 Dj.nil
        replace F49 := F49.chg hc15 Dj.nil
        replace F50 := F50.chg hc15 Dj.nil
        replace F51 := F51.chg hc15 Dj.nil
        replace F52 := F52.chg hc15 Dj.nil
        replace F53 := F53.chg hc15 Dj.nil
        replace hB := hB.inS hc15 inNil
        have hSz := hS
        replace hS := hS.inS hc15 inNil
        replace hZ := Nat.le_trans hZ hc15.size
        refine ⟨.int .i64 (y3), rfl, ?_⟩
        refine wS_end (by kernel_rfl) ?_
        refine eX_KH hS ?_
        refine wH_take [8, 9] [9, 8, 7, 6, 5, 4, 3, 2, 1, 0] [(87, .bool (decide (x16 ≤ y3))), (86, .bool (decide (x16 ≤ y3)))] (by kernel_rfl) (qT (qT (qT (qT (qL (qB (qT (qB (qT (qL (qB (qT (qT (qB (qT (qL (qB (qT (qT qZ))))))))))))))))))) (by kernel_rfl) ?_
        refine wH_bool (decide (x16 ≤ y3)) (fun hb5 => ?_) (fun hb5 => ?_)
        ·have hm := condT hb5 hm
         rewrite [hb5]
         refine wH_take [10] [10, 9, 8, 7, 6, 5, 4, 3, 2, 1, 0] [(88, .slice A9 (x2).length cap9)] (by kernel_rfl) (qT (qT (qT (qT (qL (qB (qT (qB (qT (qL (qB (qT (qT (qB (qT (qL (qB (qT (qT qZ))))))))))))))))))) (by kernel_rfl) ?_
         obtain ⟨x20, hx19, hm⟩ := bindE hm
         refine wH_idx (i := 11) (d := 89) (T := 24) (A := A9) (n := (x2).length) (cap := cap9) (kd := .i64) (m := 0) (by kernel_rfl) (qT (qT (qT (qT (qL (qB (qT (qB (qT (qL (qB (qT (qT (qB (qT (qL (qB (qT (qT qZ))))))))))))))))))) (by kernel_rfl) (by kernel_rfl) sl24 (F50.is hx19) ?_
         refine wH_load1 (i := 12) (d := 90) (T := 2) (ad := (elA A9 1 (0) 0)) (v := .int .i64 (x20)) (by kernel_rfl) (qT (qT (qT (qT (qL (qB (qT (qB (qT (qL (qB (qT (qT (qB (qT (qL (qB (qT (qT qZ))))))))))))))))))) (by kernel_rfl) (by kernel_rfl) vt2 (fun W hW => Sl.cell (Z33.chg hW Dj.nil) hx19 0 (by rfl)) ?_
         refine wH_take [13] [13, 12, 11, 10, 9, 8, 7, 6, 5, 4, 3, 2, 1, 0] [(91, .slice A10 (x4).length cap10)] (by kernel_rfl) (qT (qT (qT (qT (qL (qB (qT (qB (qT (qL (qB (qT (qT (qB (qT (qL (qB (qT (qT qZ))))))))))))))))))) (by kernel_rfl) ?_
         obtain ⟨x21, hx20, hm⟩ := bindE hm
         refine wH_idx (i := 14) (d := 92) (T := 24) (A := A10) (n := (x4).length) (cap := cap10) (kd := .i64) (m := 0) (by kernel_rfl) (qT (qT (qT (qT (qL (qB (qT (qB (qT (qL (qB (qT (qT (qB (qT (qL (qB (qT (qT qZ))))))))))))))))))) (by kernel_rfl) (by kernel_rfl) sl24 (F53.is hx20) ?_
         refine wH_load1 (i := 15) (d := 93) (T := 2) (ad := (elA A10 1 (0) 0)) (v := .int .i64 (x21)) (by kernel_rfl) (qT (qT (qT (qT (qL (qB (qT (qB (qT (qL (qB (qT (qT (qB (qT (qL (qB (qT (qT qZ))))))))))))))))))) (by kernel_rfl) (by kernel_rfl) vt2 (fun W hW => Sl.cell (Z36.chg hW Dj.nil) hx20 0 (by rfl)) ?_
         refine wH_done (by kernel_rfl) ?_
         refine eX_tail ?_
         refine wS_pure 2 [(95, .bool (x20 != x21)), (94, .bool (x20 != x21))] (by kernel_rfl) ?_
         refine wS_end (by rfl) ?_
         have hq : (some (x20 != x21) : Option (Bool)) = some _ := hm
         replace hq := someE hq
         subst hq
         exact eX_J (fun hst => ⟨x20 != x21, rfl, Fr.of hst (by kernel_rfl), F42, F43, F44, F45, F46, F47, F48, F49, F50, F51, F52, F53, hB, hZ⟩)
        ·have hm := condF hb5 hm
         rewrite [hb5]
         refine wH_take [10, 11, 12, 13, 14, 15] [15, 14, 13, 12, 11, 10, 9, 8, 7, 6, 5, 4, 3, 2, 1, 0] [(93, undef), (92, undef), (91, undef), (90, undef), (89, undef), (88, undef)] (by kernel_rfl) (qT (qT (qT (qT (qL (qB (qT (qB (qT (qL (qB (qT (qT (qB (qT (qL (qB (qT (qT qZ))))))))))))))))))) (by kernel_rfl) ?_
         refine wH_done (by kernel_rfl) ?_
         refine eX_tail ?_
         refine wS_pure 2 [(95, .bool (false)), (94, undef)] (by kernel_rfl) ?_
         refine wS_end (by rfl) ?_
         have hq : (some false : Option (Bool)) = some _ := hm
         replace hq := someE hq
         subst hq
         exact eX_J (fun hst => ⟨false, rfl, Fr.of hst (by kernel_rfl), F42, F43, F44, F45, F46, F47, F48, F49, F50, F51, F52, F53, hB, hZ⟩)
       ·rintro a' w18 ⟨x17, hJ, hF5, F54, F55, F56, F57, F58, F59, F60, F61, F62, F63, F64, F65, hB, hZ⟩
        subst hJ
        refine Fr.goX hF5 (by kernel_rfl) ?_
        refine eX_then ?_
        refine cW_cond (t := x17) (by kernel_rfl) (fun hb6 => ?_) (fun hb6 => ?_)
        ·have hm := condT hb6 hm
         refine cW_skip ?_
         refine eX_then ?_
         refine cW_seq ?_
         refine cW_block ?_
         obtain ⟨s6, hs3, hm⟩ := bindE hm
         refine cW_cut (fun a' w' => ∃ l15 : List (Bool), l15 = s6 ∧ Fr 162 [(0, .pointer (some ⟨b0, 0, none⟩)), (3, .slice A1 (y1).length cap1), (4, .pointer (some ⟨b2, 0, none⟩)), (5, .int .i64 (x1)), (6, .slice A9 (x2).length cap9), (7, .slice (some ⟨b3, 0, none⟩) (l12).length (Int.toNat (((y1).length : Int)))), (8, .slice (some ⟨b4, 0, none⟩) (l15).length (Int.toNat (((y1).length : Int)))), (9, .int .i64 (x3)), (10, .slice A10 (x4).length cap10), (11, .int .i64 (x16))] a' ∧ Sl 1 encI w' fp0_0 A0_0 l0_0 ∧ Sl 1 encI w' fp0_1 A0_1 l0_1 ∧ Cl w' b0 26 [.slice A0_0 (l0_0).length cap0_0, .slice A0_1 (l0_1).length cap0_1] ∧ OwR 1 encI 24 2 w' fp1 fr1 A1 cap1 y1 ∧ Cl w' b2 94 [.slice A6 (l5).length cap6, .slice A7 (l6).length cap7, .slice A8 (l7).length cap8] ∧ Ow 1 encI 2 w' fp5 A6 cap6 l5 ∧ OwR 1 encB 120 4 w' fp6 fr4 A7 cap7 l6 ∧ OwR 1 encB 120 4 w' fp7 fr5 A8 cap8 l7 ∧ Sl 1 encI w' fr1 A9 x2 ∧ Ow 1 encB 4 w' [b3] (some ⟨b3, 0, none⟩) (Int.toNat (((y1).length : Int))) l12 ∧ Ow 1 encB 4 w' [b4] (some ⟨b4, 0, none⟩) (Int.toNat (((y1).length : Int))) l15 ∧ Sl 1 encI w' fr1 A10 x4 ∧ Chg [] w0 w' ∧ w0.heap.size ≤ w'.heap.size) ?_ ?_
         ·have hm := hs3
          refine cW_drawnTail [] 32 (by kernel_rfl) (by kernel_rfl) (fun w19 hc16 => ?_)
          replace F54 := F54.chg hc16 Dj.nil
          replace F55 := F55.chg hc16 Dj.nil
          replace F56 := F56.chg hc16 notNil
          replace F57 := F57.chg hc16 Dj.nil
          replace F58 := F58.chg hc16 notNil
          replace F59 := F59.chg hc16 Dj.nil
          replace F60 := F60.chg hc16 Dj.nil
          replace F61 := F61.chg hc16 Dj.nil
          replace F62 := F62.chg hc16 Dj.nil
          replace F63 := F63.chg hc16 Dj.nil
          replace F64 := F64.chg hc16 Dj.nil
          replace F65 := F65.chg hc16 Dj.nil
          replace hB := hB.inS hc16 inNil
          replace hZ := Nat.le_trans hZ hc16.size
          have hS := Chg.refl [] w19
          have Z37 := F54
          have Z38 := F55
          have Z39 := F56
          have Z40 := F57
          have Z41 := F58
          have Z42 := F59
          have Z43 := F60
          have Z44 := F61
          have Z45 := F62
          have Z46 := F63
          have Z47 := F64
          have Z48 := F65
          refine wH_take [0, 1, 2, 3] [3, 2, 1, 0] [(101, .int .i64 (x3)), (100, .slice (some ⟨b4, 0, none⟩) (l14).length (Int.toNat (((y1).length : Int)))), (99, .int .i64 (x3)), (98, .slice (some ⟨b4, 0, none⟩) (l14).length (Int.toNat (((y1).length : Int))))] (by kernel_rfl) (qT (qT (qB (qT (qL (qB (qT (qB (qT (qL (qB (qT (qT (qB (qT (qL (qB (qT (qT qZ))))))))))))))))))) (by kernel_rfl) ?_
          obtain ⟨x22, hx21, hm⟩ := bindE hm
          refine wH_idx (i := 4) (d := 102) (T := 120) (A := (some ⟨b4, 0, none⟩)) (n := (l14).length) (cap := (Int.toNat (((y1).length : Int)))) (kd := .i64) (m := x3) (by kernel_rfl) (qT (qT (qB (qT (qL (qB (qT (qB (qT (qL (qB (qT (qT (qB (qT (qL (qB (qT (qT qZ))))))))))))))))))) (by kernel_rfl) (by kernel_rfl) sl120 ((F64.sl encB_ok).is hx21) ?_
          refine wH_load1 (i := 5) (d := 103) (T := 4) (ad := (elA (some ⟨b4, 0, none⟩) 1 (x3) 0)) (v := .bool (x22)) (by kernel_rfl) (qT (qT (qB (qT (qL (qB (qT (qB (qT (qL (qB (qT (qT (qB (qT (qL (qB (qT (qT qZ))))))))))))))))))) (by kernel_rfl) (by kernel_rfl) vt4 (fun W hW => Sl.cell ((Z47.chg hW Dj.nil).sl encB_ok) hx21 0 (by rfl)) ?_
          refine wH_take [6] [6, 5, 4, 3, 2, 1, 0] [(104, .bool (x22))] (by kernel_rfl) (qT (qT (qB (qT (qL (qB (qT (qB (qT (qL (qB (qT (qT (qB (qT (qL (qB (qT (qT qZ))))))))))))))))))) (by kernel_rfl) ?_
          refine wH_bool x22 (fun hb7 => ?_) (fun hb7 => ?_)
          ·have hm := condT hb7 hm
           subst hb7
           refine wH_take [7, 8, 9, 10, 11, 12, 13, 14, 15, 16, 17, 18, 19, 20, 21, 22, 23, 24, 25, 26, 27, 28, 29, 30, 31] [31, 30, 29, 28, 27, 26, 25, 24, 23, 22, 21, 20, 19, 18, 17, 16, 15, 14, 13, 12, 11, 10, 9, 8, 7, 6, 5, 4, 3, 2, 1, 0] [(129, .bool (true)), (128, undef), (127, undef), (126, undef), (125, undef), (124, undef), (123, undef), (122, undef), (121, undef), (120, undef), (119, undef), (118, undef), (117, undef), (116, undef), (115, undef), (114, undef), (113, undef), (112, undef), (111, undef), (110, undef), (109, undef), (108, undef), (107, undef), (106, undef), (105, undef)] (by kernel_rfl) (qT (qT (qB (qT (qL (qB (qT (qB (qT (qL (qB (qT (qT (qB (qT (qL (qB (qT (qT qZ))))))))))))))))))) (by kernel_rfl) ?_
           refine wH_done (by kernel_rfl) ?_
           refine eX_tail ?_
           obtain ⟨x23, hx22, hm⟩ := bindE hm
           refine wS_idx (d := 130) (T := 120) (A := (some ⟨b4, 0, none⟩)) (n := (l14).length) (cap := (Int.toNat (((y1).length : Int)))) (kd := .i64) (m := x3) (by kernel_rfl) sl120 ((F64.sl encB_ok).is hx22) ?_
           refine wS_storeEl (x := x23) true (T := 4) (U := 4) (cap := (Int.toNat (((y1).length : Int)))) (j := 0) (A := (some ⟨b4, 0, none⟩)) (v := .bool (true)) (vs := [.bool (true)]) (m := x3) (by kernel_rfl) (by rfl) sz4 (by rfl) encB_ok F64 hx22 (by simp only [List.length_cons, List.length_nil]; omega) (by rfl) ?_
           intro w20 F66 hc17
           replace F54 := F54.chg hc17 (Dj.of L0_0 G9)
           replace F55 := F55.chg hc17 (Dj.of L0_1 G9)
           replace F56 := F56.chg hc17 (dj1 (Dj.of L0 G9))
           replace F57 := F57.chg hc17 D19
           replace F58 := F58.chg hc17 (dj1 D20)
           replace F59 := F59.chg hc17 D21
           replace F60 := F60.chg hc17 D22
           replace F61 := F61.chg hc17 D23
           replace F62 := F62.chg hc17 D24
           replace F63 := F63.chg hc17 D25
           replace F65 := F65.chg hc17 ((Dj.inr (D19).symm)).symm
           replace hB := hB.inS hc17 (inLow G9)
           replace hZ := Nat.le_trans hZ hc17.size
           clear F64
           rewrite [show (l14).length = (l14.set (Int.toNat x3) true).length from (List.length_set ..).symm]
           refine wS_end (by rfl) ?_
           have hq : (some (l14.set (Int.toNat x3) true) : Option ((List (Bool)))) = some _ := hm
           replace hq := someE hq
           subst hq
           exact eX_J (fun hst => ⟨l14.set (Int.toNat x3) true, rfl, Fr.of hst (by kernel_rfl), F54, F55, F56, F57, F58, F59, F60, F61, F62, F63, F66, F65, hB, hZ⟩)
          ·have hm := condF hb7 hm
           subst hb7
           refine wH_take [7, 8, 9] [9, 8, 7, 6, 5, 4, 3, 2, 1, 0] [(107, .pointer (some ⟨b0, 0, none⟩)), (106, .pointer (some ⟨b0, 0, none⟩)), (105, .pointer (some ⟨b0, 0, none⟩))] (by kernel_rfl) (qT (qT (qB (qT (qL (qB (qT (qB (qT (qL (qB (qT (qT (qB (qT (qL (qB (qT (qT qZ))))))))))))))))))) (by kernel_rfl) ?_
           refine wH_load1 (i := 10) (d := 108) (T := 24) (ad := ⟨b0, 0, none⟩) (v := .slice A0_0 (l0_0).length cap0_0) (by kernel_rfl) (qT (qT (qB (qT (qL (qB (qT (qB (qT (qL (qB (qT (qT (qB (qT (qL (qB (qT (qT qZ))))))))))))))))))) (by kernel_rfl) (by kernel_rfl) vt24 (fun W hW => (Z39.chg hW notNil).cell 0) ?_
           refine wH_take [11] [11, 10, 9, 8, 7, 6, 5, 4, 3, 2, 1, 0] [(109, .int .i64 (x16))] (by kernel_rfl) (qT (qT (qB (qT (qL (qB (qT (qB (qT (qL (qB (qT (qT (qB (qT (qL (qB (qT (qT qZ))))))))))))))))))) (by kernel_rfl) ?_
           obtain ⟨x24, hx23, hm⟩ := bindE hm
           refine wH_idx (i := 12) (d := 110) (T := 24) (A := A0_0) (n := (l0_0).length) (cap := cap0_0) (kd := .i64) (m := x16) (by kernel_rfl) (qT (qT (qB (qT (qL (qB (qT (qB (qT (qL (qB (qT (qT (qB (qT (qL (qB (qT (qT qZ))))))))))))))))))) (by kernel_rfl) (by kernel_rfl) sl24 (F54.is hx23) ?_
           refine wH_load1 (i := 13) (d := 111) (T := 2) (ad := (elA A0_0 1 (x16) 0)) (v := .int .i64 (x24)) (by kernel_rfl) (qT (qT (qB (qT (qL (qB (qT (qB (qT (qL (qB (qT (qT (qB (qT (qL (qB (qT (qT qZ))))))))))))))))))) (by kernel_rfl) (by kernel_rfl) vt2 (fun W hW => Sl.cell (Z37.chg hW Dj.nil) hx23 0 (by rfl)) ?_
           refine wH_take [14] [14, 13, 12, 11, 10, 9, 8, 7, 6, 5, 4, 3, 2, 1, 0] [(112, .slice A9 (x2).length cap9)] (by kernel_rfl) (qT (qT (qB (qT (qL (qB (qT (qB (qT (qL (qB (qT (qT (qB (qT (qL (qB (qT (qT qZ))))))))))))))))))) (by kernel_rfl) ?_
           obtain ⟨x25, hx24, hm⟩ := bindE hm
           refine wH_idx (i := 15) (d := 113) (T := 24) (A := A9) (n := (x2).length) (cap := cap9) (kd := .i64) (m := 0) (by kernel_rfl) (qT (qT (qB (qT (qL (qB (qT (qB (qT (qL (qB (qT (qT (qB (qT (qL (qB (qT (qT qZ))))))))))))))))))) (by kernel_rfl) (by kernel_rfl) sl24 (F62.is hx24) ?_
           refine wH_load1 (i := 16) (d := 114) (T := 2) (ad := (elA A9 1 (0) 0)) (v := .int .i64 (x25)) (by kernel_rfl) (qT (qT (qB (qT (qL (qB (qT (qB (qT (qL (qB (qT (qT (qB (qT (qL (qB (qT (qT qZ))))))))))))))))))) (by kernel_rfl) (by kernel_rfl) vt2 (fun W hW => Sl.cell (Z45.chg hW Dj.nil) hx24 0 (by rfl)) ?_
           refine wH_take [17, 18] [18, 17, 16, 15, 14, 13, 12, 11, 10, 9, 8, 7, 6, 5, 4, 3, 2, 1, 0] [(116, .bool (x24 == x25)), (115, .bool (x24 == x25))] (by kernel_rfl) (qT (qT (qB (qT (qL (qB (qT (qB (qT (qL (qB (qT (qT (qB (qT (qL (qB (qT (qT qZ))))))))))))))))))) (by kernel_rfl) ?_
           refine wH_bool (x24 == x25) (fun hb8 => ?_) (fun hb8 => ?_)
           ·have hm := condT hb8 hm
            rewrite [hb8]
            refine wH_take [19, 20, 21] [21, 20, 19, 18, 17, 16, 15, 14, 13, 12, 11, 10, 9, 8, 7, 6, 5, 4, 3, 2, 1, 0] [(119, .pointer (some ⟨b0, 1, none⟩)), (118, .pointer (some ⟨b0, 0, none⟩)), (117, .pointer (some ⟨b0, 0, none⟩))] (by kernel_rfl) (qT (qT (qB (qT (qL (qB (qT (qB (qT (qL (qB (qT (qT (qB (qT (qL (qB (qT (qT qZ))))))))))))))))))) (by kernel_rfl) ?_
            refine wH_load1 (i := 22) (d := 120) (T := 24) (ad := ⟨b0, 1, none⟩) (v := .slice A0_1 (l0_1).length cap0_1) (by kernel_rfl) (qT (qT (qB (qT (qL (qB (qT (qB (qT (qL (qB (qT (qT (qB (qT (qL (qB (qT (qT qZ))))))))))))))))))) (by kernel_rfl) (by kernel_rfl) vt24 (fun W hW => (Z39.chg hW notNil).cell 1) ?_
            refine wH_take [23] [23, 22, 21, 20, 19, 18, 17, 16, 15, 14, 13, 12, 11, 10, 9, 8, 7, 6, 5, 4, 3, 2, 1, 0] [(121, .int .i64 (x16))] (by kernel_rfl) (qT (qT (qB (qT (qL (qB (qT (qB (qT (qL (qB (qT (qT (qB (qT (qL (qB (qT (qT qZ))))))))))))))))))) (by kernel_rfl) ?_
            obtain ⟨x26, hx25, hm⟩ := bindE hm
            refine wH_idx (i := 24) (d := 122) (T := 24) (A := A0_1) (n := (l0_1).length) (cap := cap0_1) (kd := .i64) (m := x16) (by kernel_rfl) (qT (qT (qB (qT (qL (qB (qT (qB (qT (qL (qB (qT (qT (qB (qT (qL (qB (qT (qT qZ))))))))))))))))))) (by kernel_rfl) (by kernel_rfl) sl24 (F55.is hx25) ?_
            refine wH_load1 (i := 25) (d := 123) (T := 2) (ad := (elA A0_1 1 (x16) 0)) (v := .int .i64 (x26)) (by kernel_rfl) (qT (qT (qB (qT (qL (qB (qT (qB (qT (qL (qB (qT (qT (qB (qT (qL (qB (qT (qT qZ))))))))))))))))))) (by kernel_rfl) (by kernel_rfl) vt2 (fun W hW => Sl.cell (Z38.chg hW Dj.nil) hx25 0 (by rfl)) ?_
            refine wH_take [26] [26, 25, 24, 23, 22, 21, 20, 19, 18, 17, 16, 15, 14, 13, 12, 11, 10, 9, 8, 7, 6, 5, 4, 3, 2, 1, 0] [(124, .slice A10 (x4).length cap10)] (by kernel_rfl) (qT (qT (qB (qT (qL (qB (qT (qB (qT (qL (qB (qT (qT (qB (qT (qL (qB (qT (qT qZ))))))))))))))))))) (by kernel_rfl) ?_
            obtain ⟨x27, hx26, hm⟩ := bindE hm
            refine wH_idx (i := 27) (d := 125) (T := 24) (A := A10) (n := (x4).length) (cap := cap10) (kd := .i64) (m := 0) (by kernel_rfl) (qT (qT (qB (qT (qL (qB (qT (qB (qT (qL (qB (qT (qT (qB (qT (qL (qB (qT (qT qZ))))))))))))))))))) (by kernel_rfl) (by kernel_rfl) sl24 (F65.is hx26) ?_
            refine wH_load1 (i := 28) (d := 126) (T := 2) (ad := (elA A10 1 (0) 0)) (v := .int .i64 (x27)) (by kernel_rfl) (qT (qT (qB (qT (qL (qB (qT (qB (qT (qL (qB (qT (qT (qB (qT (qL (qB (qT (qT qZ))))))))))))))))))) (by kernel_rfl) (by kernel_rfl) vt2 (fun W hW => Sl.cell (Z48.chg hW Dj.nil) hx26 0 (by rfl)) ?_
            refine wH_take [29, 30, 31] [31, 30, 29, 28, 27, 26, 25, 24, 23, 22, 21, 20, 19, 18, 17, 16, 15, 14, 13, 12, 11, 10, 9, 8, 7, 6, 5, 4, 3, 2, 1, 0] [(129, .bool (x26 == x27)), (128, .bool (x26 == x27)), (127, .bool (x26 == x27))] (by kernel_rfl) (qT (qT (qB (qT (qL (qB (qT (qB (qT (qL (qB (qT (qT (qB (qT (qL (qB (qT (qT qZ))))))))))))))))))) (by kernel_rfl) ?_
            refine wH_done (by kernel_rfl) ?_
            refine eX_tail ?_
            obtain ⟨x28, hx27, hm⟩ := bindE hm
            refine wS_idx (d := 130) (T := 120) (A := (some ⟨b4, 0, none⟩)) (n := (l14).length) (cap := (Int.toNat (((y1).length : Int)))) (kd := .i64) (m := x3) (by kernel_rfl) sl120 ((F64.sl encB_ok).is hx27) ?_
            refine wS_storeEl (x := x28) (x26 == x27) (T := 4) (U := 4) (cap := (Int.toNat (((y1).length : Int)))) (j := 0) (A := (some ⟨b4, 0, none⟩)) (v := .bool (x26 == x27)) (vs := [.bool (x26 == x27)]) (m := x3) (by kernel_rfl) (by rfl) sz4 (by rfl) encB_ok F64 hx27 (by simp only [List.length_cons, List.length_nil]; omega) (by rfl) ?_
            intro w21 F67 hc18
            replace F54 := F54.chg hc18 (Dj.of L0_0 G9)
            replace F55 := F55.chg hc18 (Dj.of L0_1 G9)
            replace F56 := F56.chg hc18 (dj1 (Dj.of L0 G9))
            replace F57 := F57.chg hc18 D19
            replace F58 := F58.chg hc18 (dj1 D20)
            replace F59 := F59.chg hc18 D21
            replace F60 := F60.chg hc18 D22
            replace F61 := F61.chg hc18 D23
            replace F62 := F62.chg hc18 D24
            replace F63 := F63.chg hc18 D25
            replace F65 := F65.chg hc18 ((Dj.inr (D19).symm)).symm
            replace hB := hB.inS hc18 (inLow G9)
            replace hZ := Nat.le_trans hZ hc18.size
            clear F64
            rewrite [show (l14).length = (l14.set (Int.toNat x3) (x26 == x27)).length from (List.length_set ..).symm]
            refine wS_end (by rfl) ?_
            have hq : (some (l14.set (Int.toNat x3) (x26 == x27)) : Option ((List (Bool)))) = some _ := hm
            replace hq := someE hq
            subst hq
            exact eX_J (fun hst => ⟨l14.set (Int.toNat x3) (x26 == x27), rfl, Fr.of hst (by kernel_rfl), F54, F55, F56, F57, F58, F59, F60, F61, F62, F63, F67, F65, hB, hZ⟩)
           ·have hm := condF hb8 hm
            rewrite [hb8]
            refine wH_take [19, 20, 21, 22, 23, 24, 25, 26, 27, 28, 29, 30, 31] [31, 30, 29, 28, 27, 26, 25, 24, 23, 22, 21, 20, 19, 18, 17, 16, 15, 14, 13, 12, 11, 10, 9, 8, 7, 6, 5, 4, 3, 2, 1, 0] [(129, .bool (false)), (128, .bool (false)), (127, undef), (126, undef), (125, undef), (124, undef), (123, undef), (122, undef), (121, undef), (120, undef), (119, undef), (118, undef), (117, undef)] (by kernel_rfl) (qT (qT (qB (qT (qL (qB (qT (qB (qT (qL (qB (qT (qT (qB (qT (qL (qB (qT (qT qZ))))))))))))))))))) (by kernel_rfl) ?_
            refine wH_done (by kernel_rfl) ?_
            refine eX_tail ?_
            obtain ⟨x29, hx28, hm⟩ := bindE hm
            refine wS_idx (d := 130) (T := 120) (A := (some ⟨b4, 0, none⟩)) (n := (l14).length) (cap := (Int.toNat (((y1).length : Int)))) (kd := .i64) (m := x3) (by kernel_rfl) sl120 ((F64.sl encB_ok).is hx28) ?_
            refine wS_storeEl (x := x29) false (T := 4) (U := 4) (cap := (Int.toNat (((y1).length : Int)))) (j := 0) (A := (some ⟨b4, 0, none⟩)) (v := .bool (false)) (vs := [.bool (false)]) (m := x3) (by kernel_rfl) (by rfl) sz4 (by rfl) encB_ok F64 hx28 (by simp only [List.length_cons, List.length_nil]; omega) (by rfl) ?_
            intro w22 F68 hc19
            replace F54 := F54.chg hc19 (Dj.of L0_0 G9)
            replace F55 := F55.chg hc19 (Dj.of L0_1 G9)
            replace F56 := F56.chg hc19 (dj1 (Dj.of L0 G9))
            replace F57 := F57.chg hc19 D19
            replace F58 := F58.chg hc19 (dj1 D20)
            replace F59 := F59.chg hc19 D21
            replace F60 := F60.chg hc19 D22
            replace F61 := F61.chg hc19 D23
            replace F62 := F62.chg hc19 D24
            replace F63 := F63.chg hc19 D25
            replace F65 := F65.chg hc19 ((Dj.inr (D19).symm)).symm
            replace hB := hB.inS hc19 (inLow G9)
            replace hZ := Nat.le_trans hZ hc19.size
            clear F64
            rewrite [show (l14).length = (l14.set (Int.toNat x3) false).length from (List.length_set ..).symm]
            refine wS_end (by rfl) ?_
            have hq : (some (l14.set (Int.toNat x3) false) : Option ((List (Bool)))) = some _ := hm
            replace hq := someE hq
            subst hq
            exact eX_J (fun hst => ⟨l14.set (Int.toNat x3) false, rfl, Fr.of hst (by kernel_rfl), F54, F55, F56, F57, F58, F59, F60, F61, F62, F63, F68, F65, hB, hZ⟩)
         ·rintro a' w23 ⟨l15, hJ, hF6, F69, F70, F71, F72, F73, F74, F75, F76, F77, F78, F79, F80, hB, hZ⟩
          subst hJ
          refine Fr.goX hF6 (by kernel_rfl) ?_
          refine eX_block ?_
          refine eX_then ?_
          refine cW_region ?_
          refine wS_pure 3 [(11, .int .i64 (wr (x16 + 1))), (97, .int .i64 (wr (x16 + 1))), (96, .int .i64 (x16))] (by kernel_rfl) ?_
          refine wS_end (by rfl) ?_
          have hq : (some (Ctl.next ((wr (x16 + 1), l15))) : Option (Ctl (Int × (List (Bool))) ((List (Bool))))) = some _ := hm
          replace hq := someE hq
          subst hq
          exact eX_next hx16 (fun hst => ⟨wr (x16 + 1), l15, rfl, Fr.of hst (by kernel_rfl), F69, F70, F71, F72, F73, F74, F75, F76, F77, F78, F79, F80, hB, hZ⟩)
        ·have hm := condF hb6 hm
         refine cW_exit ?_
         refine eX_then_exit ?_
         have hq : (some (Ctl.out l14) : Option (Ctl (Int × (List (Bool))) ((List (Bool))))) = some _ := hm
         replace hq := someE hq
         subst hq
         refine eX_outX hx16 (fun hr4 => ?_)
         replace hr4 := hr4.symm
         subst hr4
         refine eX_block_hit ?_
         exact eX_J (fun hst => ⟨l14, rfl, Fr.of hst (by kernel_rfl), F54, F55, F56, F57, F58, F59, F60, F61, F62, F63, F64, hB, hZ⟩)
      ·rintro a' w24 ⟨l13, hJ, hF7, F81, F82, F83, F84, F85, F86, F87, F88, F89, F90, F91, hB, hZ⟩
       subst hJ
       refine Fr.goX hF7 (by kernel_rfl) ?_
       refine eX_block ?_
       refine eX_then ?_
       refine cW_region ?_
       refine wS_pure 3 [(9, .int .i64 (wr (x3 + 1))), (38, .int .i64 (wr (x3 + 1))), (37, .int .i64 (x3))] (by kernel_rfl) ?_
       refine wS_end (by rfl) ?_
       have hq : (some (Ctl.next ((wr (x3 + 1), l12, l13))) : Option (Ctl (Int × (List (Bool)) × (List (Bool))) ((List (Bool)) × (List (Bool))))) = some _ := hm
       replace hq := someE hq
       subst hq
       exact eX_next hx3 (fun hst => ⟨wr (x3 + 1), l12, l13, rfl, Fr.of hst (by kernel_rfl), F81, F82, F83, F84, F85, F86, F87, F88, F89, F90, F91, hB, hZ⟩)
    ·have hm := condF hb2 hm
     refine cW_exit ?_
     refine eX_then_exit ?_
     have hq : (some (Ctl.out ((l10, l11))) : Option (Ctl (Int × (List (Bool)) × (List (Bool))) ((List (Bool)) × (List (Bool))))) = some _ := hm
     replace hq := someE hq
     subst hq
     refine eX_outX hx3 (fun hr5 => ?_)
     replace hr5 := hr5.symm
     subst hr5
     refine eX_block_hit ?_
     exact eX_J (fun hst => ⟨l10, l11, rfl, Fr.of hst (by kernel_rfl), F15, F16, F17, F18, F19, F20, F21, F22, F24, F25, hB, hZ⟩)
   ·rintro a' w25 ⟨l8, l9, hJ, hF8, F92, F93, F94, F95, F96, F97, F98, F99, F100, F101, hB, hZ⟩
    subst hJ
    refine Fr.goX hF8 (by kernel_rfl) ?_
    refine eX_then ?_
    refine cW_seq ?_
    refine cW_region ?_
    refine wS_pure 4 [(134, .pointer (some ⟨b2, 0, none⟩)), (133, .pointer (some ⟨b2, 0, none⟩)), (132, .pointer (some ⟨b2, 0, none⟩)), (131, .pointer (some ⟨b2, 0, none⟩))] (by kernel_rfl) ?_
    refine wS_load1 (d := 135) (T := 24) (ad := ⟨b2, 0, none⟩) (v := .slice A6 (l5).length cap6) (by kernel_rfl) vt24 ((F96).cell 0) ?_
    refine wS_pure 1 [(136, .int .i64 (x1))] (by kernel_rfl) ?_
    refine wS_bs (enc := encI) ([x1] : List (Int)) [.int .i64 (x1)] (d := 137) (t := 24) (T := 2) (n := 1) (ps := [(0, .int .i64 (x1))]) (by kernel_rfl) el24 encI_ok (by rfl) (by omega) (by omega) (by kernel_rfl) (by rfl) ?_
    intro b5 w26 G11 F102 hc20
    have D26 : Dj (fp1 ++ fr1) [b5] := Dj.of F95.low (low1 G11)
    have D27 : Dj [b2] [b5] := Dj.of (lt1 F96.lt) (low1 G11)
    have D28 : Dj fp5 [b5] := Dj.of F97.low (low1 G11)
    have D29 : Dj (fp6 ++ fr4) [b5] := Dj.of F98.low (low1 G11)
    have D30 : Dj (fp7 ++ fr5) [b5] := Dj.of F99.low (low1 G11)
    have D31 : Dj [b3] [b5] := Dj.of F100.low (low1 G11)
    have D32 : Dj [b4] [b5] := Dj.of F101.low (low1 G11)
    replace F92 := F92.chg hc20 Dj.nil
    replace F93 := F93.chg hc20 Dj.nil
    replace F94 := F94.chg hc20 notNil
    replace F95 := F95.chg hc20 Dj.nil
    replace F96 := F96.chg hc20 notNil
    replace F97 := F97.chg hc20 Dj.nil
    replace F98 := F98.chg hc20 Dj.nil
    replace F99 := F99.chg hc20 Dj.nil
    replace F100 := F100.chg hc20 Dj.nil
    replace F101 := F101.chg hc20 Dj.nil
    replace hB := hB.inS hc20 inNil
    replace G11 := Nat.le_trans hZ G11
    replace G11 := low1 G11
    replace hZ := Nat.le_trans hZ hc20.size
    obtain ⟨_, hk3, hm⟩ := bindE hm
    replace hk3 := apE hk3
    refine wS_append (enc := encI) (l := (l5 : List (Int))) (l2 := (([x1] : List (Int)) : List (Int))) (d := 138) (t := 24) (T := 2) (A := A6) (A2 := (some ⟨b5, 0, none⟩)) (cap := cap6) (cap2 := 1) (by kernel_rfl) el24 encI_ok F97 (F102.sl encI_ok) (by rfl) hk3 ?_
    intro w27 fp8 A11 cap11 F103 hc21 hp1
    have G12 := low_ap G4 hZ hp1
    have D33 : Dj (fp1 ++ fr1) fp8 := Dj.ap D4 F95.low hp1
    have D34 : Dj [b2] fp8 := Dj.ap D5 (lt1 F96.lt) hp1
    have D35 : Dj (fp6 ++ fr4) fp8 := Dj.ap D6 F98.low hp1
    have D36 : Dj (fp7 ++ fr5) fp8 := Dj.ap D7 F99.low hp1
    have D37 : Dj [b3] fp8 := Dj.ap (D15).symm F100.low hp1
    have D38 : Dj [b4] fp8 := Dj.ap (D21).symm F101.low hp1
    have D39 : Dj [b5] fp8 := Dj.ap (D28).symm F102.low hp1
    replace F92 := F92.chg hc21 (Dj.of L0_0 G4)
    replace F93 := F93.chg hc21 (Dj.of L0_1 G4)
    replace F94 := F94.chg hc21 (dj1 (Dj.of L0 G4))
    replace F95 := F95.chg hc21 D4
    replace F96 := F96.chg hc21 (dj1 D5)
    replace F98 := F98.chg hc21 D6
    replace F99 := F99.chg hc21 D7
    replace F100 := F100.chg hc21 (D15).symm
    replace F101 := F101.chg hc21 (D21).symm
    replace F102 := F102.chg hc21 (D28).symm
    replace hB := hB.inS hc21 (inLow G4)
    replace hZ := Nat.le_trans hZ hc21.size
    refine wS_pure 2 [(140, .pointer (some ⟨b2, 0, none⟩)), (139, .pointer (some ⟨b2, 0, none⟩))] (by kernel_rfl) ?_
    refine wS_store (T := 24) (g := b2) (o := 0) (ad := ⟨b2, 0, none⟩) (v := .slice A11 (l5 ++ (([x1] : List (Int)))).length cap11) (vs := [.slice A11 (l5 ++ (([x1] : List (Int)))).length cap11]) (by kernel_rfl) (by rfl) sz24 (by rfl) (by rfl) F96 (by simp only [List.length_cons, List.length_nil]; omega) ?_
    intro w28 F104 hc22
    replace F92 := F92.chg hc22 (Dj.of L0_0 (low1 G3))
    replace F93 := F93.chg hc22 (Dj.of L0_1 (low1 G3))
    replace F94 := F94.chg hc22 (dj1 (Dj.of L0 (low1 G3)))
    replace F95 := F95.chg hc22 D2
    replace F98 := F98.chg hc22 (D9).symm
    replace F99 := F99.chg hc22 (D12).symm
    replace F100 := F100.chg hc22 (D14).symm
    replace F101 := F101.chg hc22 (D20).symm
    replace F102 := F102.chg hc22 (D27).symm
    replace F103 := F103.chg hc22 (D34).symm
    replace hB := hB.inS hc22 (inLow (low1 G3))
    replace hZ := Nat.le_trans hZ hc22.size
    replace F104 : Cl w28 b2 94 [.slice A11 (l5 ++ (([x1] : List (Int)))).length cap11, .slice A7 (l6).length cap7, .slice A8 (l7).length cap8] := F104
    clear F96
    refine wS_end (by rfl) ?_
    refine eX_then ?_
    refine cW_seq ?_
    refine cW_region ?_
    refine wS_pure 4 [(144, .pointer (some ⟨b2, 1, none⟩)), (143, .pointer (some ⟨b2, 0, none⟩)), (142, .pointer (some ⟨b2, 0, none⟩)), (141, .pointer (some ⟨b2, 0, none⟩))] (by kernel_rfl) ?_
    refine wS_load1 (d := 145) (T := 92) (ad := ⟨b2, 1, none⟩) (v := .slice A7 (l6).length cap7) (by kernel_rfl) vt92 ((F104).cell 1) ?_
    refine wS_pure 1 [(146, .slice (some ⟨b3, 0, none⟩) (l8).length (Int.toNat (((y1).length : Int))))] (by kernel_rfl) ?_
    refine wS_row1 (k := 1) (enc := encB) (l := l8) (d := 147) (t := 92) (T := 120) (B := (some ⟨b3, 0, none⟩)) (c := (Int.toNat (((y1).length : Int)))) (by kernel_rfl) el92 F100 ?_
    intro b6 w29 G13 F105 hc23
    have D40 : Dj (fp1 ++ fr1) ([b6] ++ [b3]) := Dj.app (Dj.of F95.low (low1 G13)) D13
    have D41 : Dj [b2] ([b6] ++ [b3]) := Dj.app (Dj.of (lt1 F104.lt) (low1 G13)) D14
    have D42 : Dj (fp6 ++ fr4) ([b6] ++ [b3]) := Dj.app (Dj.of F98.low (low1 G13)) D16
    have D43 : Dj (fp7 ++ fr5) ([b6] ++ [b3]) := Dj.app (Dj.of F99.low (low1 G13)) D17
    have D44 : Dj [b4] ([b6] ++ [b3]) := Dj.app (Dj.of F101.low (low1 G13)) (D25).symm
    have D45 : Dj [b5] ([b6] ++ [b3]) := Dj.app (Dj.of F102.low (low1 G13)) (D31).symm
    have D46 : Dj fp8 ([b6] ++ [b3]) := Dj.app (Dj.of F103.low (low1 G13)) (D37).symm
    replace F92 := F92.chg hc23 Dj.nil
    replace F93 := F93.chg hc23 Dj.nil
    replace F94 := F94.chg hc23 notNil
    replace F95 := F95.chg hc23 Dj.nil
    replace F104 := F104.chg hc23 notNil
    replace F98 := F98.chg hc23 Dj.nil
    replace F99 := F99.chg hc23 Dj.nil
    replace F100 := F100.chg hc23 Dj.nil
    replace F101 := F101.chg hc23 Dj.nil
    replace F102 := F102.chg hc23 Dj.nil
    replace F103 := F103.chg hc23 Dj.nil
    replace hB := hB.inS hc23 inNil
    replace G13 := Nat.le_trans hZ G13
    replace G13 := lowApp (low1 G13) G8
    replace hZ := Nat.le_trans hZ hc23.size
    replace F100 := (F100.sl encB_ok)
    obtain ⟨_, hk4, hm⟩ := bindE hm
    replace hk4 := apE hk4
    refine wS_appendR (k := 1) (enc := encB) (ll := (l6 : List (List (Bool)))) (ll2 := (([l8] : List (List (Bool))) : List (List (Bool)))) (d := 148) (t := 92) (T := 120) (A := A7) (A2 := (some ⟨b6, 0, none⟩)) (cap := cap7) (cap2 := 1) (by kernel_rfl) el92 F98 F105 (by rfl) D42 hk4 ?_
    intro w30 fp9 A12 cap12 F106 hc24 hp2
    have G14 := lowApp (low_ap (low_inl G5) hZ hp2) (lowApp (low_inr G5) (low_inr G13))
    have D47 : Dj (fp1 ++ fr1) (fp9 ++ (fr4 ++ [b3])) := Dj.app (Dj.ap (Dj.inl D8) F95.low hp2) (Dj.app (Dj.inr D8) (Dj.inr D40))
    have D48 : Dj [b2] (fp9 ++ (fr4 ++ [b3])) := Dj.app (Dj.ap (Dj.inl D9) (lt1 F104.lt) hp2) (Dj.app (Dj.inr D9) (Dj.inr D41))
    have D49 : Dj (fp7 ++ fr5) (fp9 ++ (fr4 ++ [b3])) := Dj.app (Dj.ap (Dj.inl D10) F99.low hp2) (Dj.app (Dj.inr D10) (Dj.inr D43))
    have D50 : Dj [b4] (fp9 ++ (fr4 ++ [b3])) := Dj.app (Dj.ap (Dj.inl (D22).symm) F101.low hp2) (Dj.app (Dj.inr (D22).symm) (Dj.inr D44))
    have D51 : Dj [b5] (fp9 ++ (fr4 ++ [b3])) := Dj.app (Dj.ap (Dj.inl (D29).symm) F102.low hp2) (Dj.app (Dj.inr (D29).symm) (Dj.inr D45))
    have D52 : Dj fp8 (fp9 ++ (fr4 ++ [b3])) := Dj.app (Dj.ap (Dj.inl (D35).symm) F103.low hp2) (Dj.app (Dj.inr (D35).symm) (Dj.inr D46))
    replace F92 := F92.chg hc24 (Dj.inl (Dj.of L0_0 G5))
    replace F93 := F93.chg hc24 (Dj.inl (Dj.of L0_1 G5))
    replace F94 := F94.chg hc24 (dj1 (Dj.inl (Dj.of L0 G5)))
    replace F95 := F95.chg hc24 (Dj.inl D8)
    replace F104 := F104.chg hc24 (dj1 (Dj.inl D9))
    replace F99 := F99.chg hc24 (Dj.inl D10)
    replace F101 := F101.chg hc24 (Dj.inl (D22).symm)
    replace F102 := F102.chg hc24 (Dj.inl (D29).symm)
    replace F103 := F103.chg hc24 (Dj.inl (D35).symm)
    replace hB := hB.inS hc24 (memS_inl (inLow G5))
    replace hZ := Nat.le_trans hZ hc24.size
    refine wS_pure 2 [(150, .pointer (some ⟨b2, 1, none⟩)), (149, .pointer (some ⟨b2, 0, none⟩))] (by kernel_rfl) ?_
    refine wS_store (T := 92) (g := b2) (o := 1) (ad := ⟨b2, 1, none⟩) (v := .slice A12 (l6 ++ (([l8] : List (List (Bool))))).length cap12) (vs := [.slice A12 (l6 ++ (([l8] : List (List (Bool))))).length cap12]) (by kernel_rfl) (by rfl) sz92 (by rfl) (by rfl) F104 (by simp only [List.length_cons, List.length_nil]; omega) ?_
    intro w31 F107 hc25
    replace F92 := F92.chg hc25 (Dj.of L0_0 (low1 G3))
    replace F93 := F93.chg hc25 (Dj.of L0_1 (low1 G3))
    replace F94 := F94.chg hc25 (dj1 (Dj.of L0 (low1 G3)))
    replace F95 := F95.chg hc25 D2
    replace F99 := F99.chg hc25 (D12).symm
    replace F101 := F101.chg hc25 (D20).symm
    replace F102 := F102.chg hc25 (D27).symm
    replace F103 := F103.chg hc25 (D34).symm
    replace F106 := F106.chg hc25 (D48).symm
    replace hB := hB.inS hc25 (inLow (low1 G3))
    replace hZ := Nat.le_trans hZ hc25.size
    replace F107 : Cl w31 b2 94 [.slice A11 (l5 ++ (([x1] : List (Int)))).length cap11, .slice A12 (l6 ++ (([l8] : List (List (Bool))))).length cap12, .slice A8 (l7).length cap8] := F107
    clear F104
    refine wS_end (by rfl) ?_
    refine eX_then ?_
    refine cW_prune [(0, .pointer (some ⟨b0, 0, none⟩)), (3, .slice A1 (y1).length cap1), (4, .pointer (some ⟨b2, 0, none⟩)), (5, .int .i64 (x1)), (8, .slice (some ⟨b4, 0, none⟩) (l9).length (Int.toNat (((y1).length : Int))))] (by kernel_rfl) (by kernel_rfl) (fun a1 => ?_)
    refine cW_region ?_
    refine wS_pure 4 [(154, .pointer (some ⟨b2, 2, none⟩)), (153, .pointer (some ⟨b2, 0, none⟩)), (152, .pointer (some ⟨b2, 0, none⟩)), (151, .pointer (some ⟨b2, 0, none⟩))] (by kernel_rfl) ?_
    refine wS_load1 (d := 155) (T := 92) (ad := ⟨b2, 2, none⟩) (v := .slice A8 (l7).length cap8) (by kernel_rfl) vt92 ((F107).cell 2) ?_
    refine wS_pure 1 [(156, .slice (some ⟨b4, 0, none⟩) (l9).length (Int.toNat (((y1).length : Int))))] (by kernel_rfl) ?_
    refine wS_row1 (k := 1) (enc := encB) (l := l9) (d := 157) (t := 92) (T := 120) (B := (some ⟨b4, 0, none⟩)) (c := (Int.toNat (((y1).length : Int)))) (by kernel_rfl) el92 F101 ?_
    intro b7 w32 G15 F108 hc26
    have D53 : Dj (fp1 ++ fr1) ([b7] ++ [b4]) := Dj.app (Dj.of F95.low (low1 G15)) D19
    have D54 : Dj [b2] ([b7] ++ [b4]) := Dj.app (Dj.of (lt1 F107.lt) (low1 G15)) D20
    have D55 : Dj (fp7 ++ fr5) ([b7] ++ [b4]) := Dj.app (Dj.of F99.low (low1 G15)) D23
    have D56 : Dj [b5] ([b7] ++ [b4]) := Dj.app (Dj.of F102.low (low1 G15)) (D32).symm
    have D57 : Dj fp8 ([b7] ++ [b4]) := Dj.app (Dj.of F103.low (low1 G15)) (D38).symm
    have D58 : Dj (fp9 ++ (fr4 ++ [b3])) ([b7] ++ [b4]) := Dj.app (Dj.of F106.low (low1 G15)) (D50).symm
    replace F92 := F92.chg hc26 Dj.nil
    replace F93 := F93.chg hc26 Dj.nil
    replace F94 := F94.chg hc26 notNil
    replace F95 := F95.chg hc26 Dj.nil
    replace F107 := F107.chg hc26 notNil
    replace F99 := F99.chg hc26 Dj.nil
    replace F101 := F101.chg hc26 Dj.nil
    replace F102 := F102.chg hc26 Dj.nil
    replace F103 := F103.chg hc26 Dj.nil
    replace F106 := F106.chg hc26 Dj.nil
    replace hB := hB.inS hc26 inNil
    replace G15 := Nat.le_trans hZ G15
    replace G15 := lowApp (low1 G15) G9
    replace hZ := Nat.le_trans hZ hc26.size
    replace F101 := (F101.sl encB_ok)
    obtain ⟨_, hk5, hm⟩ := bindE hm
    replace hk5 := apE hk5
    refine wS_appendR (k := 1) (enc := encB) (ll := (l7 : List (List (Bool)))) (ll2 := (([l9] : List (List (Bool))) : List (List (Bool)))) (d := 158) (t := 92) (T := 120) (A := A8) (A2 := (some ⟨b7, 0, none⟩)) (cap := cap8) (cap2 := 1) (by kernel_rfl) el92 F99 F108 (by rfl) D55 hk5 ?_
    intro w33 fp10 A13 cap13 F109 hc27 hp3
    have G16 := lowApp (low_ap (low_inl G6) hZ hp3) (lowApp (low_inr G6) (low_inr G15))
    have D59 : Dj (fp1 ++ fr1) (fp10 ++ (fr5 ++ [b4])) := Dj.app (Dj.ap (Dj.inl D11) F95.low hp3) (Dj.app (Dj.inr D11) (Dj.inr D53))
    have D60 : Dj [b2] (fp10 ++ (fr5 ++ [b4])) := Dj.app (Dj.ap (Dj.inl D12) (lt1 F107.lt) hp3) (Dj.app (Dj.inr D12) (Dj.inr D54))
    have D61 : Dj [b5] (fp10 ++ (fr5 ++ [b4])) := Dj.app (Dj.ap (Dj.inl (D30).symm) F102.low hp3) (Dj.app (Dj.inr (D30).symm) (Dj.inr D56))
    have D62 : Dj fp8 (fp10 ++ (fr5 ++ [b4])) := Dj.app (Dj.ap (Dj.inl (D36).symm) F103.low hp3) (Dj.app (Dj.inr (D36).symm) (Dj.inr D57))
    have D63 : Dj (fp9 ++ (fr4 ++ [b3])) (fp10 ++ (fr5 ++ [b4])) := Dj.app (Dj.ap (Dj.inl (D49).symm) F106.low hp3) (Dj.app (Dj.inr (D49).symm) (Dj.inr D58))
    replace F92 := F92.chg hc27 (Dj.inl (Dj.of L0_0 G6))
    replace F93 := F93.chg hc27 (Dj.inl (Dj.of L0_1 G6))
    replace F94 := F94.chg hc27 (dj1 (Dj.inl (Dj.of L0 G6)))
    replace F95 := F95.chg hc27 (Dj.inl D11)
    replace F107 := F107.chg hc27 (dj1 (Dj.inl D12))
    replace F102 := F102.chg hc27 (Dj.inl (D30).symm)
    replace F103 := F103.chg hc27 (Dj.inl (D36).symm)
    replace F106 := F106.chg hc27 (Dj.inl (D49).symm)
    replace hB := hB.inS hc27 (memS_inl (inLow G6))
    replace hZ := Nat.le_trans hZ hc27.size
    refine wS_pure 2 [(160, .pointer (some ⟨b2, 2, none⟩)), (159, .pointer (some ⟨b2, 0, none⟩))] (by kernel_rfl) ?_
    refine wS_store (T := 92) (g := b2) (o := 2) (ad := ⟨b2, 2, none⟩) (v := .slice A13 (l7 ++ (([l9] : List (List (Bool))))).length cap13) (vs := [.slice A13 (l7 ++ (([l9] : List (List (Bool))))).length cap13]) (by kernel_rfl) (by rfl) sz92 (by rfl) (by rfl) F107 (by simp only [List.length_cons, List.length_nil]; omega) ?_
    intro w34 F110 hc28
    replace F92 := F92.chg hc28 (Dj.of L0_0 (low1 G3))
    replace F93 := F93.chg hc28 (Dj.of L0_1 (low1 G3))
    replace F94 := F94.chg hc28 (dj1 (Dj.of L0 (low1 G3)))
    replace F95 := F95.chg hc28 D2
    replace F102 := F102.chg hc28 (D27).symm
    replace F103 := F103.chg hc28 (D34).symm
    replace F106 := F106.chg hc28 (D48).symm
    replace F109 := F109.chg hc28 (D60).symm
    replace hB := hB.inS hc28 (inLow (low1 G3))
    replace hZ := Nat.le_trans hZ hc28.size
    replace F110 : Cl w34 b2 94 [.slice A11 (l5 ++ (([x1] : List (Int)))).length cap11, .slice A12 (l6 ++ (([l8] : List (List (Bool))))).length cap12, .slice A13 (l7 ++ (([l9] : List (List (Bool))))).length cap13] := F110
    clear F107
    refine wS_end (by rfl) ?_
    refine eX_block ?_
    refine eX_then ?_
    refine cW_region ?_
    refine wS_pure 3 [(5, .int .i64 (wr (x1 + 1))), (22, .int .i64 (wr (x1 + 1))), (21, .int .i64 (x1))] (by kernel_rfl) ?_
    refine wS_end (by rfl) ?_
    have hq : (some (Ctl.next ((wr (x1 + 1), l5 ++ (([x1] : List (Int))), l6 ++ (([l8] : List (List (Bool)))), l7 ++ (([l9] : List (List (Bool))))))) : Option (Ctl (Int × (List (Int)) × (List (List (Bool))) × (List (List (Bool)))) ((List (Int)) × (List (List (Bool))) × (List (List (Bool)))))) = some _ := hm
    replace hq := someE hq
    subst hq
    exact eX_next hx1 (fun hst => ⟨wr (x1 + 1), l5 ++ (([x1] : List (Int))), A11, cap11, fp8, l6 ++ (([l8] : List (List (Bool)))), A12, cap12, fp9, (fr4 ++ [b3]), l7 ++ (([l9] : List (List (Bool)))), A13, cap13, fp10, (fr5 ++ [b4]), rfl, Fr.of hst (by kernel_rfl), F92, F93, F94, F95, F110, F103, F106, F109, G12, G14, G16, D33, D34, (D52).symm, (D62).symm, D47, D48, (D63).symm, D59, D60, hB, hZ⟩)
  ·have hm := condF hb1 hm
   refine cW_exit ?_
   refine eX_then_exit ?_
   have hq : (some (Ctl.out ((l5, l6, l7))) : Option (Ctl (Int × (List (Int)) × (List (List (Bool))) × (List (List (Bool)))) ((List (Int)) × (List (List (Bool))) × (List (List (Bool)))))) = some _ := hm
   replace hq := someE hq
   subst hq
   refine eX_outX hx1 (fun hr6 => ?_)
   replace hr6 := hr6.symm
   subst hr6
   refine eX_block_hit ?_
   exact eX_J (fun hst => ⟨l5, A6, cap6, fp5, l6, A7, cap7, fp6, fr4, l7, A8, cap8, fp7, fr5, rfl, Fr.of hst (by kernel_rfl), F8, F9, F10, F11, G4, G5, G6, D5, D6, D7, D9, D10, D12, hB, hZ⟩)
 ·rintro a' w35 ⟨l1, A3, cap3, fp2, l3, A4, cap4, fp3, fr2, l4, A5, cap5, fp4, fr3, hJ, hF9, F111, F112, F113, F114, G17, G18, G19, D64, D65, D66, D67, D68, D69, hB, hZ⟩
  subst hJ
  refine Fr.goX hF9 (by kernel_rfl) ?_
  refine eX_then ?_
  refine cW_seq ?_
  refine cW_region ?_
  refine wS_pure 2 [(2, .pointer (some ⟨b2, 0, none⟩)), (161, .pointer (some ⟨b2, 0, none⟩))] (by kernel_rfl) ?_
  refine wS_end (by rfl) ?_
  refine eX_then ?_
  refine cW_ret ?_
  have hq : (some ((l1, l3, l4)) : Option (((List (Int)) × (List (List (Bool))) × (List (List (Bool)))))) = some _ := hm
  replace hq := someE hq
  subst hq
  refine eX_ret (vs := [.pointer (some ⟨b2, 0, none⟩)]) [.tmp 2] (by rfl) ⟨by (show lkE _ _ _ = _); kernel_rfl, trivial⟩ ?_
  exact ⟨b2, A3, cap3, fp2, A4, cap4, fp3, fr2, A5, cap5, fp4, fr3, rfl, F111, G3, F112, G17, F113, G18, F114, G19, D64, D67, D69, (D65).symm, (D66).symm, (D68).symm, hB⟩

set_option maxRecDepth 100000 in
/-- spec.FewestWithDoglegs -/
theorem c_spec_FewestWithDoglegs {w0 : World} {l0_0 : List (Int)} {A0_0 : Option Addr} {cap0_0 : Nat} {fp0_0 : List Nat} {l0_1 : List (Int)} {A0_1 : Option Addr} {cap0_1 : Nat} {fp0_1 : List Nat} {r : (List (List (Int))) × (Bool)} (hm : m_spec_FewestWithDoglegs l0_0 l0_1 = some r) (F0_0 : Sl 1 encI w0 fp0_0 A0_0 l0_0) (F0_1 : Sl 1 encI w0 fp0_1 A0_1 l0_1) :
  Calls Tryd.prog 28 #[.agg #[.slice A0_0 (l0_0).length cap0_0, .slice A0_1 (l0_1).length cap0_1]] w0 fun e w' => ∃ A100 cap100 fp100 fr100, e = .returned (.tuple #[.slice A100 (r.1).length cap100, .bool (r.2)]) ∧ OwR 1 encI 24 2 w' fp100 fr100 A100 cap100 r.1 ∧ (∀ x ∈ fp100 ++ fr100, w0.heap.size ≤ x) ∧ Chg [] w0 w' := by
 have L0_0 := F0_0.low
 have L0_1 := F0_1.low
 have hB : Chg [] w0 w0 := Chg.refl _ _
 have hZ := Nat.le_refl w0.heap.size
 unfold m_spec_FewestWithDoglegs at hm
 refine enterE (N := 18) Tryd.func28 (by rfl) Tryd.ntmps28 (by simp) [(0, .agg #[.slice A0_0 (l0_0).length cap0_0, .slice A0_1 (l0_1).length cap0_1])] (by rfl) (by kernel_rfl) (fun a => ?_)
 refine cW_seq ?_
 refine cW_region ?_
 refine wS_box (d := 1) (T := 26) (x := .agg #[.slice A0_0 (l0_0).length cap0_0, .slice A0_1 (l0_1).length cap0_1]) (by kernel_rfl) ?_
 intro b1 w1 G1 F1 hc1
 replace F1 : Cl w1 b1 26 [.slice A0_0 (l0_0).length cap0_0, .slice A0_1 (l0_1).length cap0_1] := F1
 replace F0_0 := F0_0.chg hc1 Dj.nil
 replace F0_1 := F0_1.chg hc1 Dj.nil
 replace hB := hB.inS hc1 inNil
 replace G1 := Nat.le_trans hZ G1
 replace hZ := Nat.le_trans hZ hc1.size
 refine wS_pure 2 [(3, .bool (false)), (2, .slice none 0 0)] (by kernel_rfl) ?_
 refine wS_end (by rfl) ?_
 refine eX_then ?_
 refine cW_seq ?_
 refine cW_seq ?_
 refine cW_region ?_
 obtain ⟨y1, hy1, hm⟩ := bindE hm
 refine wS_calls (d := 5) (f := 60) (vs := [.pointer (some ⟨b1, 0, none⟩)]) (by kernel_rfl) ent60 (c_spec_l03Is_bimplChannel hy1 F0_0 F0_1 F1) ?_
 rintro _ w2 ⟨rfl, hc2⟩
 replace F0_0 := F0_0.chg hc2 Dj.nil
 replace F0_1 := F0_1.chg hc2 Dj.nil
 replace F1 := F1.chg hc2 notNil
 replace hB := hB.inS hc2 inNil
 replace hZ := Nat.le_trans hZ hc2.size
 refine ⟨.bool (y1), rfl, ?_⟩
 refine wS_pure 1 [(6, .bool (!y1))] (by kernel_rfl) ?_
 refine wS_end (by rfl) ?_
 refine eX_then ?_
 refine cW_cond (t := !y1) (by kernel_rfl) (fun hb1 => ?_) (fun hb1 => ?_)
 ·have hm := condT hb1 hm
  refine cW_seq ?_
  refine cW_region ?_
  refine wS_pure 2 [(3, .bool (false)), (2, .slice none 0 0)] (by kernel_rfl) ?_
  refine wS_end (by rfl) ?_
  refine eX_then ?_
  refine cW_ret ?_
  refine eX_then_ret ?_
  have hq : (some (([], false)) : Option ((List (List (Int))) × (Bool))) = some _ := hm
  replace hq := someE hq
  subst hq
  refine eX_ret (vs := [.slice none 0 0, .bool (false)]) [.tmp 2, .tmp 3] (by rfl) ⟨by (show lkE _ _ _ = _); kernel_rfl, ⟨by (show lkE _ _ _ = _); kernel_rfl, trivial⟩⟩ ?_
  exact ⟨none, 0, [], [], rfl, OwR.nil _, (lowApp lowNil lowNil), hB⟩
 ·have hm := condF hb1 hm
  refine cW_skip ?_
  refine eX_then ?_
  refine cW_seq ?_
  refine cW_region ?_
  obtain ⟨y2, hy2, hm⟩ := bindE hm
  refine wS_calls (d := 7) (f := 69) (vs := [.pointer (some ⟨b1, 0, none⟩)]) (by kernel_rfl) ent69 (c_spec_l03OfPieces_bimplChannel hy2 F0_0 F0_1 F1) ?_
  rintro _ w3 ⟨b2, A1, cap1, fp1, A2, cap2, fp2, fr1, A3, cap3, fp3, fr2, rfl, F2, G2, F3, G3, F4, G4, F5, G5, D1, D2, D3, D4, D5, D6, hc3⟩
  have D7 : Dj [b1] [b2] := Dj.of (lt1 F1.lt) (low1 G2)
  have D8 : Dj [b1] fp1 := Dj.of (lt1 F1.lt) G3
  have D9 : Dj [b1] (fp2 ++ fr1) := Dj.of (lt1 F1.lt) G4
  have D10 : Dj [b1] (fp3 ++ fr2) := Dj.of (lt1 F1.lt) G5
  replace F0_0 := F0_0.chg hc3 Dj.nil
  replace F0_1 := F0_1.chg hc3 Dj.nil
  replace F1 := F1.chg hc3 notNil
  replace hB := hB.inS hc3 inNil
  replace G2 := Nat.le_trans hZ G2
  replace G3 := low_le hZ G3
  replace G4 := low_le hZ G4
  replace G5 := low_le hZ G5
  replace hZ := Nat.le_trans hZ hc3.size
  refine ⟨.pointer (some ⟨b2, 0, none⟩), rfl, ?_⟩
  refine wS_pure 1 [(4, .pointer (some ⟨b2, 0, none⟩))] (by kernel_rfl) ?_
  refine wS_end (by rfl) ?_
  refine eX_then ?_
  refine cW_seq ?_
  refine cW_seq ?_
  refine cW_region ?_
  refine wS_pure 3 [(10, .pointer (some ⟨b2, 0, none⟩)), (9, .pointer (some ⟨b2, 0, none⟩)), (8, .pointer (some ⟨b2, 0, none⟩))] (by kernel_rfl) ?_
  refine wS_load1 (d := 11) (T := 24) (ad := ⟨b2, 0, none⟩) (v := .slice A1 (y2.1).length cap1) (by kernel_rfl) vt24 ((F2).cell 0) ?_
  refine wS_pure 2 [(13, .bool (decide ((((y2.1).length : Int)) > 12))), (12, .int .i64 (((y2.1).length : Int)))] (by kernel_rfl) ?_
  refine wS_end (by rfl) ?_
  refine eX_then ?_
  refine cW_cond (t := decide ((((y2.1).length : Int)) > 12)) (by kernel_rfl) (fun hb2 => ?_) (fun hb2 => ?_)
  ·have hm := condT hb2 hm
   refine cW_seq ?_
   refine cW_region ?_
   refine wS_pure 2 [(3, .bool (false)), (2, .slice none 0 0)] (by kernel_rfl) ?_
   refine wS_end (by rfl) ?_
   refine eX_then ?_
   refine cW_ret ?_
   refine eX_then_ret ?_
   have hq : (some (([], false)) : Option ((List (List (Int))) × (Bool))) = some _ := hm
   replace hq := someE hq
   subst hq
   refine eX_ret (vs := [.slice none 0 0, .bool (false)]) [.tmp 2, .tmp 3] (by rfl) ⟨by (show lkE _ _ _ = _); kernel_rfl, ⟨by (show lkE _ _ _ = _); kernel_rfl, trivial⟩⟩ ?_
   exact ⟨none, 0, [], [], rfl, OwR.nil _, (lowApp lowNil lowNil), hB⟩
  ·have hm := condF hb2 hm
   refine cW_skip ?_
   refine eX_then ?_
   refine cW_seq ?_
   refine cW_region ?_
   refine wS_pure 1 [(14, .pointer (some ⟨b2, 0, none⟩))] (by kernel_rfl) ?_
   obtain ⟨y3, hy3, hm⟩ := bindE hm
   refine wS_calls (d := 15) (f := 64) (vs := [.pointer (some ⟨b2, 0, none⟩)]) (by kernel_rfl) ent64 (c_spec_l03Fewest_bspecl03Things hy3 (F3.sl encI_ok) (F4.slr encB_ok) (F5.slr encB_ok) F2) ?_
   rintro _ w4 ⟨A4, cap4, fp4, fr3, rfl, F6, G6, hc4⟩
   have D11 : Dj [b1] (fp4 ++ fr3) := Dj.of (lt1 F1.lt) G6
   have D12 : Dj [b2] (fp4 ++ fr3) := Dj.of (lt1 F2.lt) G6
   have D13 : Dj fp1 (fp4 ++ fr3) := Dj.of F3.low G6
   have D14 : Dj (fp2 ++ fr1) (fp4 ++ fr3) := Dj.of F4.low G6
   have D15 : Dj (fp3 ++ fr2) (fp4 ++ fr3) := Dj.of F5.low G6
   replace F0_0 := F0_0.chg hc4 Dj.nil
   replace F0_1 := F0_1.chg hc4 Dj.nil
   replace F1 := F1.chg hc4 notNil
   replace F2 := F2.chg hc4 notNil
   replace F3 := F3.chg hc4 Dj.nil
   replace F4 := F4.chg hc4 Dj.nil
   replace F5 := F5.chg hc4 Dj.nil
   replace hB := hB.inS hc4 inNil
   replace G6 := low_le hZ G6
   replace hZ := Nat.le_trans hZ hc4.size
   refine ⟨.tuple #[.slice A4 (y3.1).length cap4, .bool (y3.2)], rfl, ?_⟩
   refine wS_pure 4 [(3, .bool (y3.2)), (2, .slice A4 (y3.1).length cap4), (17, .bool (y3.2)), (16, .slice A4 (y3.1).length cap4)] (by kernel_rfl) ?_
   refine wS_end (by rfl) ?_
   refine eX_then ?_
   refine cW_ret ?_
   have hq : (some ((y3.1, y3.2)) : Option ((List (List (Int))) × (Bool))) = some _ := hm
   replace hq := someE hq
   subst hq
   refine eX_ret (vs := [.slice A4 (y3.1).length cap4, .bool (y3.2)]) [.tmp 2, .tmp 3] (by rfl) ⟨by (show lkE _ _ _ = _); kernel_rfl, ⟨by (show lkE _ _ _ = _); kernel_rfl, trivial⟩⟩ ?_
   exact ⟨A4, cap4, fp4, fr3, rfl, F6, G6, hB⟩

set_option maxRecDepth 100000 in
/-- impl.FewestWithDoglegs$1 -/
theorem c_impl_FewestWithDoglegs_1 {w0 : World} {p0 : Int} {r : (Int)} (hm : m_impl_FewestWithDoglegs_1 p0 = some r)  :
  Calls Tryd.prog 72 #[.int .i64 (p0)] w0 fun e w' => e = .returned (.int .i64 (r)) ∧ Chg [] w0 w' := by
 have hB : Chg [] w0 w0 := Chg.refl _ _
 have hZ := Nat.le_refl w0.heap.size
 unfold m_impl_FewestWithDoglegs_1 at hm
 refine enterE (N := 4) Tryd.func72 (by rfl) Tryd.ntmps72 (by simp) [(0, .int .i64 (p0))] (by rfl) (by kernel_rfl) (fun a => ?_)
 refine cW_seq ?_
 refine cW_region ?_
 refine wS_pure 1 [(2, .int .i64 (0))] (by kernel_rfl) ?_
 refine wS_end (by rfl) ?_
 refine eX_then ?_
 refine cW_seq ?_
 refine cW_region ?_
 refine wS_pure 2 [(2, .int .i64 (p0)), (3, .int .i64 (p0))] (by kernel_rfl) ?_
 refine wS_end (by rfl) ?_
 refine eX_then ?_
 refine cW_ret ?_
 have hq : (some p0 : Option ((Int))) = some _ := hm
 replace hq := someE hq
 subst hq
 refine eX_ret (vs := [.int .i64 (p0)]) [.tmp 2] (by rfl) ⟨by (show lkE _ _ _ = _); kernel_rfl, trivial⟩ ?_
 exact ⟨rfl, hB⟩

set_option maxRecDepth 100000 in
/-- impl.Channel).pieces -/
theorem c_impl_Channel_pieces_bimplChannel {w0 : World} {l0_0 : List (Int)} {A0_0 : Option Addr} {cap0_0 : Nat} {fp0_0 : List Nat} {l0_1 : List (Int)} {A0_1 : Option Addr} {cap0_1 : Nat} {fp0_1 : List Nat} {b0 : Nat} {r : (List (List (Int)))} (hm : m_impl_Channel_pieces_bimplChannel l0_0 l0_1 = some r) (F0_0 : Sl 1 encI w0 fp0_0 A0_0 l0_0) (F0_1 : Sl 1 encI w0 fp0_1 A0_1 l0_1) (F0 : Cl w0 b0 26 [.slice A0_0 (l0_0).length cap0_0, .slice A0_1 (l0_1).length cap0_1]) :
  Calls Tryd.prog 70 #[.pointer (some ⟨b0, 0, none⟩)] w0 fun e w' => ∃ A100 cap100 fp100 fr100, e = .returned (.slice A100 (r).length cap100) ∧ OwR 1 encI 24 2 w' fp100 fr100 A100 cap100 r ∧ (∀ x ∈ fp100 ++ fr100, w0.heap.size ≤ x) ∧ Chg [] w0 w' := by
 have L0_0 := F0_0.low
 have L0_1 := F0_1.low
 have L0 := lt1 F0.lt
 have hB : Chg [] w0 w0 := Chg.refl _ _
 have hZ := Nat.le_refl w0.heap.size
 unfold m_impl_Channel_pieces_bimplChannel at hm
 refine enterE (N := 41) Tryd.func70 (by rfl) Tryd.ntmps70 (by simp) [(0, .pointer (some ⟨b0, 0, none⟩))] (by rfl) (by kernel_rfl) (fun a => ?_)
 refine cW_seq ?_
 refine cW_region ?_
 refine wS_pure 1 [(2, .slice none 0 0)] (by kernel_rfl) ?_
 refine wS_end (by rfl) ?_
 refine eX_then ?_
 refine cW_seq ?_
 refine cW_region ?_
 refine wS_rows0 (k := 1) (enc := encI) (d := 8) (t := 28) (T := 24) (T2 := 2) (by kernel_rfl) el28 ?_
 intro b1 w1 G1 F1 hc1
 replace F0_0 := F0_0.chg hc1 Dj.nil
 replace F0_1 := F0_1.chg hc1 Dj.nil
 replace F0 := F0.chg hc1 notNil
 replace hB := hB.inS hc1 inNil
 replace G1 := Nat.le_trans hZ G1
 replace G1 := low1 G1
 replace hZ := Nat.le_trans hZ hc1.size
 replace G1 := lowApp G1 lowNil
 refine wS_pure 1 [(3, .slice (some ⟨b1, 0, none⟩) (([] : List (List (Int)))).length 0)] (by kernel_rfl) ?_
 refine wS_end (by rfl) ?_
 refine eX_then ?_
 refine cW_seq ?_
 refine cW_seq ?_
 refine cW_region ?_
 refine wS_pure 1 [(9, .pointer (some ⟨b0, 0, none⟩))] (by kernel_rfl) ?_
 obtain ⟨y1, hy1, hm⟩ := bindE hm
 refine wS_calls (d := 10) (f := 39) (vs := [.pointer (some ⟨b0, 0, none⟩)]) (by kernel_rfl) ent39 (c_impl_Channel_nets_bimplChannel hy1 F0_0 F0_1 F0) ?_
 rintro _ w2 ⟨A1, cap1, fp1, rfl, F2, G2, hc2⟩
 have D1 : Dj ([b1] ++ []) fp1 := Dj.of F1.low G2
 replace F0_0 := F0_0.chg hc2 Dj.nil
 replace F0_1 := F0_1.chg hc2 Dj.nil
 replace F0 := F0.chg hc2 notNil
 replace F1 := F1.chg hc2 Dj.nil
 replace hB := hB.inS hc2 inNil
 replace G2 := low_le hZ G2
 replace hZ := Nat.le_trans hZ hc2.size
 refine ⟨.slice A1 (y1).length cap1, rfl, ?_⟩
 refine wS_pure 2 [(12, .int .i64 (0)), (11, .int .i64 (((y1).length : Int)))] (by kernel_rfl) ?_
 refine wS_end (by rfl) ?_
 refine eX_then ?_
 obtain ⟨r1, hr1, hm⟩ := bindE hm
 have hm1 := hm
 refine cW_cut (fun a' w' => ∃ l1 : List (List (Int)), ∃ A3 : Option Addr, ∃ cap3 : Nat, ∃ fp2 : List Nat, ∃ fr1 : List Nat, l1 = r1 ∧ Fr 41 [(3, .slice A3 (l1).length cap3)] a' ∧ OwR 1 encI 24 2 w' fp2 fr1 A3 cap3 l1 ∧ (∀ x ∈ (fp2 ++ fr1), w0.heap.size ≤ x) ∧ Chg [] w0 w' ∧ w0.heap.size ≤ w'.heap.size) ?_ ?_
 ·refine cW_block ?_
  refine cW_loop _ (fun (s1 : (List (List (Int))) × Int) a' w' => ∃ l2 : List (List (Int)), ∃ A4 : Option Addr, ∃ cap4 : Nat, ∃ fp3 : List Nat, ∃ fr2 : List Nat, ∃ x1 : Int, (l2, x1) = s1 ∧ Fr 41 [(0, .pointer (some ⟨b0, 0, none⟩)), (3, .slice A4 (l2).length cap4), (10, .slice A1 (y1).length cap1), (11, .int .i64 (((y1).length : Int))), (12, .int .i64 (x1))] a' ∧ Sl 1 encI w' fp0_0 A0_0 l0_0 ∧ Sl 1 encI w' fp0_1 A0_1 l0_1 ∧ Cl w' b0 26 [.slice A0_0 (l0_0).length cap0_0, .slice A0_1 (l0_1).length cap0_1] ∧ Ow 1 encI 2 w' fp1 A1 cap1 y1 ∧ OwR 1 encI 24 2 w' fp3 fr2 A4 cap4 l2 ∧ (∀ x ∈ (fp3 ++ fr2), w0.heap.size ≤ x) ∧ Dj fp1 (fp3 ++ fr2) ∧ Chg [] w0 w' ∧ w0.heap.size ≤ w'.heap.size) hr1 (fun hst => ⟨([] : List (List (Int))), (some ⟨b1, 0, none⟩), 0, [b1], [], 0, rfl, Fr.of hst (by kernel_rfl), F0_0, F0_1, F0, F2, F1, G1, (D1).symm, hB, hZ⟩) ?_
  rintro _ c1 a' w3 ⟨l2, A4, cap4, fp3, fr2, x1, rfl, hF1, F3, F4, F5, F6, F7, G3, D2, hB, hZ⟩ hx1
  refine Fr.goOn hF1 (by kernel_rfl) ?_
  have hm := hx1
  unfold m_impl_Channel_pieces_bimplChannel_s3 at hm
  refine cW_seq ?_
  refine cW_region ?_
  refine wS_pure 1 [(13, .bool (decide (x1 < (((y1).length : Int)))))] (by kernel_rfl) ?_
  refine wS_end (by rfl) ?_
  refine eX_then ?_
  refine cW_seq ?_
  refine cW_cond (t := decide (x1 < (((y1).length : Int)))) (by kernel_rfl) (fun hb1 => ?_) (fun hb1 => ?_)
  ·have hm := condT hb1 hm
   refine cW_skip ?_
   refine eX_then ?_
   refine cW_seq ?_
   refine cW_block ?_
   refine cW_seq ?_
   refine cW_region ?_
   obtain ⟨x2, hx2, hm⟩ := bindE hm
   refine wS_idx (d := 14) (T := 24) (A := A1) (n := (y1).length) (cap := cap1) (kd := .i64) (m := x1) (by kernel_rfl) sl24 ((F6.sl encI_ok).is hx2) ?_
   refine wS_load1 (d := 15) (T := 2) (ad := (elA A1 1 (x1) 0)) (v := .int .i64 (x2)) (by kernel_rfl) vt2 (Sl.cell (F6.sl encI_ok) hx2 0 (by rfl)) ?_
   refine wS_pure 1 [(5, .int .i64 (x2))] (by kernel_rfl) ?_
   refine wS_end (by rfl) ?_
   refine eX_then ?_
   refine cW_seq ?_
   refine cW_region ?_
   refine wS_pure 2 [(17, .int .i64 (x2)), (16, .pointer (some ⟨b0, 0, none⟩))] (by kernel_rfl) ?_
   obtain ⟨y2, hy2, hm⟩ := bindE hm
   refine wS_calls (d := 18) (f := 73) (vs := [.pointer (some ⟨b0, 0, none⟩), .int .i64 (x2)]) (by kernel_rfl) ent73 (c_impl_Channel_columns_bimplChannel hy2 F3 F4 F5) ?_
   rintro _ w4 ⟨A5, cap5, fp4, rfl, F8, G4, hc3⟩
   have D3 : Dj fp1 fp4 := Dj.of F6.low G4
   have D4 : Dj (fp3 ++ fr2) fp4 := Dj.of F7.low G4
   replace F3 := F3.chg hc3 Dj.nil
   replace F4 := F4.chg hc3 Dj.nil
   replace F5 := F5.chg hc3 notNil
   replace F6 := F6.chg hc3 Dj.nil
   replace F7 := F7.chg hc3 Dj.nil
   replace hB := hB.inS hc3 inNil
   replace G4 := low_le hZ G4
   replace hZ := Nat.le_trans hZ hc3.size
   refine ⟨.slice A5 (y2).length cap5, rfl, ?_⟩
   refine wS_pure 1 [(6, .slice A5 (y2).length cap5)] (by kernel_rfl) ?_
   refine wS_end (by rfl) ?_
   refine eX_then ?_
   refine cW_seq ?_
   refine cW_region ?_
   refine wS_pure 1 [(7, .int .i64 (1))] (by kernel_rfl) ?_
   refine wS_end (by rfl) ?_
   refine eX_then ?_
   obtain ⟨r2, hr2, hm⟩ := bindE hm
   have hm2 := hm
   refine cW_cut (fun a' w' => ∃ l3 : List (List (Int)), ∃ A6 : Option Addr, ∃ cap6 : Nat, ∃ fp5 : List Nat, ∃ fr3 : List Nat, l3 = r2 ∧ Fr 41 [(0, .pointer (some ⟨b0, 0, none⟩)), (3, .slice A6 (l3).length cap6), (10, .slice A1 (y1).length cap1), (11, .int .i64 (((y1).length : Int))), (12, .int .i64 (x1))] a' ∧ Sl 1 encI w' fp0_0 A0_0 l0_0 ∧ Sl 1 encI w' fp0_1 A0_1 l0_1 ∧ Cl w' b0 26 [.slice A0_0 (l0_0).length cap0_0, .slice A0_1 (l0_1).length cap0_1] ∧ Ow 1 encI 2 w' fp1 A1 cap1 y1 ∧ OwR 1 encI 24 2 w' fp5 fr3 A6 cap6 l3 ∧ (∀ x ∈ (fp5 ++ fr3), w0.heap.size ≤ x) ∧ Dj fp1 (fp5 ++ fr3) ∧ Chg [] w0 w' ∧ w0.heap.size ≤ w'.heap.size) ?_ ?_
   ·refine cW_block ?_
    refine cW_loop _ (fun (s2 : (List (List (Int))) × Int) a' w' => ∃ l4 : List (List (Int)), ∃ A7 : Option Addr, ∃ cap7 : Nat, ∃ fp6 : List Nat, ∃ fr4 : List Nat, ∃ x3 : Int, (l4, x3) = s2 ∧ Fr 41 [(0, .pointer (some ⟨b0, 0, none⟩)), (3, .slice A7 (l4).length cap7), (5, .int .i64 (x2)), (6, .slice A5 (y2).length cap5), (7, .int .i64 (x3)), (10, .slice A1 (y1).length cap1), (11, .int .i64 (((y1).length : Int))), (12, .int .i64 (x1))] a' ∧ Sl 1 encI w' fp0_0 A0_0 l0_0 ∧ Sl 1 encI w' fp0_1 A0_1 l0_1 ∧ Cl w' b0 26 [.slice A0_0 (l0_0).length cap0_0, .slice A0_1 (l0_1).length cap0_1] ∧ Ow 1 encI 2 w' fp1 A1 cap1 y1 ∧ Ow 1 encI 2 w' fp4 A5 cap5 y2 ∧ OwR 1 encI 24 2 w' fp6 fr4 A7 cap7 l4 ∧ (∀ x ∈ (fp6 ++ fr4), w0.heap.size ≤ x) ∧ Dj fp1 (fp6 ++ fr4) ∧ Dj fp4 (fp6 ++ fr4) ∧ Chg [] w0 w' ∧ w0.heap.size ≤ w'.heap.size) hr2 (fun hst => ⟨l2, A4, cap4, fp3, fr2, 1, rfl, Fr.of hst (by kernel_rfl), F3, F4, F5, F6, F8, F7, G3, D2, (D4).symm, hB, hZ⟩) ?_
    rintro _ c2 a' w5 ⟨l4, A7, cap7, fp6, fr4, x3, rfl, hF2, F9, F10, F11, F12, F13, F14, G5, D5, D6, hB, hZ⟩ hx3
    refine Fr.goOn hF2 (by kernel_rfl) ?_
    have hm := hx3
    unfold m_impl_Channel_pieces_bimplChannel_s4 at hm
    refine cW_seq ?_
    refine cW_seq ?_
    refine cW_region ?_
    refine wS_pure 4 [(22, .bool (decide (x3 < (((y2).length : Int))))), (21, .int .i64 (((y2).length : Int))), (20, .slice A5 (y2).length cap5), (19, .int .i64 (x3))] (by kernel_rfl) ?_
    refine wS_end (by rfl) ?_
    refine eX_then ?_
    refine cW_cond (t := decide (x3 < (((y2).length : Int)))) (by kernel_rfl) (fun hb2 => ?_) (fun hb2 => ?_)
    ·have hm := condT hb2 hm
     refine cW_skip ?_
     refine eX_then ?_
     refine cW_seq ?_
     refine cW_block ?_
     refine cW_drawnTail [] 13 (by kernel_rfl) (by kernel_rfl) (fun w6 hc4 => ?_)
     replace F9 := F9.chg hc4 Dj.nil
     replace F10 := F10.chg hc4 Dj.nil
     replace F11 := F11.chg hc4 notNil
     replace F12 := F12.chg hc4 Dj.nil
     replace F13 := F13.chg hc4 Dj.nil
     replace F14 := F14.chg hc4 Dj.nil
     replace hB := hB.inS hc4 inNil
     replace hZ := Nat.le_trans hZ hc4.size
     have hS := Chg.refl [] w6
     have Z1 := F9
     have Z2 := F10
     have Z3 := F11
     have Z4 := F12
     have Z5 := F13
     have Z6 := F14
     refine wH_take [0, 1, 2, 3, 4] [4, 3, 2, 1, 0] [(29, .int .i64 (wr (x3 - 1))), (28, .int .i64 (x3)), (27, .slice A5 (y2).length cap5), (26, .int .i64 (x2)), (25, .slice A7 (l4).length cap7)] (by kernel_rfl) (qT (qB (qT (qL (qB (qT (qB (qT (qL (qB (qT (qT qZ)))))))))))) (by kernel_rfl) ?_
     obtain ⟨x4, hx4, hm⟩ := bindE hm
     refine wH_idx (i := 5) (d := 30) (T := 24) (A := A5) (n := (y2).length) (cap := cap5) (kd := .i64) (m := wr (x3 - 1)) (by kernel_rfl) (qT (qB (qT (qL (qB (qT (qB (qT (qL (qB (qT (qT qZ)))))))))))) (by kernel_rfl) (by kernel_rfl) sl24 ((F13.sl encI_ok).is hx4) ?_
     refine wH_load1 (i := 6) (d := 31) (T := 2) (ad := (elA A5 1 (wr (x3 - 1)) 0)) (v := .int .i64 (x4)) (by kernel_rfl) (qT (qB (qT (qL (qB (qT (qB (qT (qL (qB (qT (qT qZ)))))))))))) (by kernel_rfl) (by kernel_rfl) vt2 (fun W hW => Sl.cell ((Z5.chg hW Dj.nil).sl encI_ok) hx4 0 (by rfl)) ?_
     refine wH_take [7, 8] [8, 7, 6, 5, 4, 3, 2, 1, 0] [(33, .int .i64 (x3)), (32, .slice A5 (y2).length cap5)] (by kernel_rfl) (qT (qB (qT (qL (qB (qT (qB (qT (qL (qB (qT (qT qZ)))))))))))) (by kernel_rfl) ?_
     obtain ⟨x5, hx5, hm⟩ := bindE hm
     refine wH_idx (i := 9) (d := 34) (T := 24) (A := A5) (n := (y2).length) (cap := cap5) (kd := .i64) (m := x3) (by kernel_rfl) (qT (qB (qT (qL (qB (qT (qB (qT (qL (qB (qT (qT qZ)))))))))))) (by kernel_rfl) (by kernel_rfl) sl24 ((F13.sl encI_ok).is hx5) ?_
     refine wH_load1 (i := 10) (d := 35) (T := 2) (ad := (elA A5 1 (x3) 0)) (v := .int .i64 (x5)) (by kernel_rfl) (qT (qB (qT (qL (qB (qT (qB (qT (qL (qB (qT (qT qZ)))))))))))) (by kernel_rfl) (by kernel_rfl) vt2 (fun W hW => Sl.cell ((Z5.chg hW Dj.nil).sl encI_ok) hx5 0 (by rfl)) ?_
     refine wH_all [11] (by rfl) (by kernel_rfl) (by simp) ⟨⟨by kernel_rfl, ?_⟩, trivial⟩
     refine wS_bs (enc := encI) ([x2, x4, x5] : List (Int)) [.int .i64 (x2), .int .i64 (x4), .int .i64 (x5)] (d := 36) (t := 24) (T := 2) (n := 3) (ps := [(0, .int .i64 (x2)), (1, .int .i64 (x4)), (2, .int .i64 (x5))]) (by kernel_rfl) el24 encI_ok (by rfl) (by omega) (by omega) (by kernel_rfl) (by rfl) ?_
     intro b2 w7 G6 F15 hc5
     have D7 : Dj fp1 [b2] := Dj.of F12.low (low1 G6)
     have D8 : Dj fp4 [b2] := Dj.of F13.low (low1 G6)
     have D9 : Dj (fp6 ++ fr4) [b2] := Dj.of F14.low (low1 G6)
     replace F9 := F9.chg hc5 Dj.nil
     replace F10 := F10.chg hc5 Dj.nil
     replace F11 := F11.chg hc5 notNil
     replace F12 := F12.chg hc5 Dj.nil
     replace F13 := F13.chg hc5 Dj.nil
     replace F14 := F14.chg hc5 Dj.nil
     replace hB := hB.inS hc5 inNil
     have hSz := hS
     replace hS := hS.inS hc5 inNil
     have Gz1 := low1 (Nat.le_trans hSz.size G6)
     replace G6 := Nat.le_trans hZ G6
     replace G6 := low1 G6
     replace hZ := Nat.le_trans hZ hc5.size
     refine wS_end (by kernel_rfl) ?_
     refine eX_KH hS ?_
     refine wH_all [12] (by rfl) (by kernel_rfl) (by simp) ⟨⟨by kernel_rfl, ?_⟩, trivial⟩
     refine wS_row1 (k := 1) (enc := encI) (l := ([x2, x4, x5] : List (Int))) (d := 37) (t := 28) (T := 24) (B := (some ⟨b2, 0, none⟩)) (c := 3) (by kernel_rfl) el28 F15 ?_
     intro b3 w8 G7 F16 hc6
     have D10 : Dj fp1 ([b3] ++ [b2]) := Dj.app (Dj.of F12.low (low1 G7)) D7
     have D11 : Dj fp4 ([b3] ++ [b2]) := Dj.app (Dj.of F13.low (low1 G7)) D8
     have D12 : Dj (fp6 ++ fr4) ([b3] ++ [b2]) := Dj.app (Dj.of F14.low (low1 G7)) D9
     replace F9 := F9.chg hc6 Dj.nil
     replace F10 := F10.chg hc6 Dj.nil
     replace F11 := F11.chg hc6 notNil
     replace F12 := F12.chg hc6 Dj.nil
     replace F13 := F13.chg hc6 Dj.nil
     replace F14 := F14.chg hc6 Dj.nil
     replace F15 := F15.chg hc6 Dj.nil
     replace hB := hB.inS hc6 inNil
     have hSz := hS
     replace hS := hS.inS hc6 inNil
     replace G7 := Nat.le_trans hZ G7
     replace G7 := lowApp (low1 G7) G6
     replace hZ := Nat.le_trans hZ hc6.size
     replace F15 := (F15.sl encI_ok)
     refine wS_end (by kernel_rfl) ?_
     refine eX_KH hS ?_
     refine wH_done (by kernel_rfl) ?_
     refine eX_tail ?_
     obtain ⟨_, hk1, hm⟩ := bindE hm
     replace hk1 := apE hk1
     refine wS_appendR (k := 1) (enc := encI) (ll := (l4 : List (List (Int)))) (ll2 := (([([x2, x4, x5] : List (Int))] : List (List (Int))) : List (List (Int)))) (d := 38) (t := 28) (T := 24) (A := A7) (A2 := (some ⟨b3, 0, none⟩)) (cap := cap7) (cap2 := 1) (by kernel_rfl) el28 F14 F16 (by rfl) D12 hk1 ?_
     intro w9 fp7 A8 cap8 F17 hc7 hp1
     have G8 := lowApp (low_ap (low_inl G5) hZ hp1) (lowApp (low_inr G5) (low_inr G7))
     have D13 : Dj fp1 (fp7 ++ (fr4 ++ [b2])) := Dj.app (Dj.ap (Dj.inl D5) F12.low hp1) (Dj.app (Dj.inr D5) (Dj.inr D10))
     have D14 : Dj fp4 (fp7 ++ (fr4 ++ [b2])) := Dj.app (Dj.ap (Dj.inl D6) F13.low hp1) (Dj.app (Dj.inr D6) (Dj.inr D11))
     replace F9 := F9.chg hc7 (Dj.inl (Dj.of L0_0 G5))
     replace F10 := F10.chg hc7 (Dj.inl (Dj.of L0_1 G5))
     replace F11 := F11.chg hc7 (dj1 (Dj.inl (Dj.of L0 G5)))
     replace F12 := F12.chg hc7 (Dj.inl D5)
     replace F13 := F13.chg hc7 (Dj.inl D6)
     replace hB := hB.inS hc7 (memS_inl (inLow G5))
     replace hZ := Nat.le_trans hZ hc7.size
     refine wS_pure 1 [(3, .slice A8 (l4 ++ (([([x2, x4, x5] : List (Int))] : List (List (Int))))).length cap8)] (by kernel_rfl) ?_
     refine wS_end (by rfl) ?_
     refine eX_block ?_
     refine eX_then ?_
     refine cW_prune [(0, .pointer (some ⟨b0, 0, none⟩)), (3, .slice A8 (l4 ++ (([([x2, x4, x5] : List (Int))] : List (List (Int))))).length cap8), (5, .int .i64 (x2)), (6, .slice A5 (y2).length cap5), (7, .int .i64 (x3)), (10, .slice A1 (y1).length cap1), (11, .int .i64 (((y1).length : Int))), (12, .int .i64 (x1))] (by kernel_rfl) (by kernel_rfl) (fun a1 => ?_)
     refine cW_region ?_
     refine wS_pure 3 [(7, .int .i64 (wr (x3 + 1))), (24, .int .i64 (wr (x3 + 1))), (23, .int .i64 (x3))] (by kernel_rfl) ?_
     refine wS_end (by rfl) ?_
     have hq : (some (Ctl.next ((l4 ++ (([([x2, x4, x5] : List (Int))] : List (List (Int)))), wr (x3 + 1)))) : Option (Ctl ((List (List (Int))) × Int) ((List (List (Int)))))) = some _ := hm
     replace hq := someE hq
     subst hq
     exact eX_next hx3 (fun hst => ⟨l4 ++ (([([x2, x4, x5] : List (Int))] : List (List (Int)))), A8, cap8, fp7, (fr4 ++ [b2]), wr (x3 + 1), rfl, Fr.of hst (by kernel_rfl), F9, F10, F11, F12, F13, F17, G8, D13, D14, hB, hZ⟩)
    ·have hm := condF hb2 hm
     refine cW_exit ?_
     refine eX_then_exit ?_
     have hq : (some (Ctl.out l4) : Option (Ctl ((List (List (Int))) × Int) ((List (List (Int)))))) = some _ := hm
     replace hq := someE hq
     subst hq
     refine eX_outX hx3 (fun hr3 => ?_)
     replace hr3 := hr3.symm
     subst hr3
     refine eX_block_hit ?_
     exact eX_J (fun hst => ⟨l4, A7, cap7, fp6, fr4, rfl, Fr.of hst (by kernel_rfl), F9, F10, F11, F12, F14, G5, D5, hB, hZ⟩)
   ·rintro a' w10 ⟨l3, A6, cap6, fp5, fr3, hJ, hF3, F18, F19, F20, F21, F22, G9, D15, hB, hZ⟩
    subst hJ
    refine Fr.goX hF3 (by kernel_rfl) ?_
    refine eX_block ?_
    refine eX_then ?_
    refine cW_region ?_
    refine wS_pure 2 [(12, .int .i64 (wr (x1 + 1))), (39, .int .i64 (wr (x1 + 1)))] (by kernel_rfl) ?_
    refine wS_end (by rfl) ?_
    have hq : (some (Ctl.next ((l3, wr (x1 + 1)))) : Option (Ctl ((List (List (Int))) × Int) ((List (List (Int)))))) = some _ := hm
    replace hq := someE hq
    subst hq
    exact eX_next hx1 (fun hst => ⟨l3, A6, cap6, fp5, fr3, wr (x1 + 1), rfl, Fr.of hst (by kernel_rfl), F18, F19, F20, F21, F22, G9, D15, hB, hZ⟩)
  ·have hm := condF hb1 hm
   refine cW_exit ?_
   refine eX_then_exit ?_
   have hq : (some (Ctl.out l2) : Option (Ctl ((List (List (Int))) × Int) ((List (List (Int)))))) = some _ := hm
   replace hq := someE hq
   subst hq
   refine eX_outX hx1 (fun hr4 => ?_)
   replace hr4 := hr4.symm
   subst hr4
   refine eX_block_hit ?_
   exact eX_J (fun hst => ⟨l2, A4, cap4, fp3, fr2, rfl, Fr.of hst (by kernel_rfl), F7, G3, hB, hZ⟩)
 ·rintro a' w11 ⟨l1, A3, cap3, fp2, fr1, hJ, hF4, F23, G10, hB, hZ⟩
  subst hJ
  refine Fr.goX hF4 (by kernel_rfl) ?_
  refine eX_then ?_
  refine cW_seq ?_
  refine cW_region ?_
  refine wS_pure 2 [(2, .slice A3 (l1).length cap3), (40, .slice A3 (l1).length cap3)] (by kernel_rfl) ?_
  refine wS_end (by rfl) ?_
  refine eX_then ?_
  refine cW_ret ?_
  have hq : (some l1 : Option ((List (List (Int))))) = some _ := hm
  replace hq := someE hq
  subst hq
  refine eX_ret (vs := [.slice A3 (l1).length cap3]) [.tmp 2] (by rfl) ⟨by (show lkE _ _ _ = _); kernel_rfl, trivial⟩ ?_
  exact ⟨A3, cap3, fp2, fr1, rfl, F23, G10, hB⟩

set_option maxRecDepth 100000 in
/-- impl.Channel).pieceOrder -/
theorem c_impl_Channel_pieceOrder_bimplChannel {w0 : World} {l0_0 : List (Int)} {A0_0 : Option Addr} {cap0_0 : Nat} {fp0_0 : List Nat} {l0_1 : List (Int)} {A0_1 : Option Addr} {cap0_1 : Nat} {fp0_1 : List Nat} {b0 : Nat} {r : ((List (Int)) × (List (Int)))} (hm : m_impl_Channel_pieceOrder_bimplChannel l0_0 l0_1 = some r) (F0_0 : Sl 1 encI w0 fp0_0 A0_0 l0_0) (F0_1 : Sl 1 encI w0 fp0_1 A0_1 l0_1) (F0 : Cl w0 b0 26 [.slice A0_0 (l0_0).length cap0_0, .slice A0_1 (l0_1).length cap0_1]) :
  Calls Tryd.prog 71 #[.pointer (some ⟨b0, 0, none⟩)] w0 fun e w' => ∃ A100_0 cap100_0 fp100_0, ∃ A100_1 cap100_1 fp100_1, e = .returned (.agg #[.slice A100_0 (r.1).length cap100_0, .slice A100_1 (r.2).length cap100_1]) ∧ Ow 1 encI 3 w' fp100_0 A100_0 cap100_0 r.1 ∧ (∀ x ∈ fp100_0, w0.heap.size ≤ x) ∧ Ow 1 encI 3 w' fp100_1 A100_1 cap100_1 r.2 ∧ (∀ x ∈ fp100_1, w0.heap.size ≤ x) ∧ Dj fp100_0 fp100_1 ∧ Chg [] w0 w' := by
 have L0_0 := F0_0.low
 have L0_1 := F0_1.low
 have L0 := lt1 F0.lt
 have hB : Chg [] w0 w0 := Chg.refl _ _
 have hZ := Nat.le_refl w0.heap.size
 unfold m_impl_Channel_pieceOrder_bimplChannel at hm
 refine enterE (N := 167) Tryd.func71 (by rfl) Tryd.ntmps71 (by simp) [(0, .pointer (some ⟨b0, 0, none⟩))] (by rfl) (by kernel_rfl) (fun a => ?_)
 refine cW_seq ?_
 refine cW_region ?_
 refine wS_alloc (d := 2) (T := 58) (z := .agg #[.slice none 0 0, .slice none 0 0]) (by kernel_rfl) (by kernel_rfl) ?_
 intro b1 w1 G1 F1 hc1
 replace F1 : Cl w1 b1 58 [.slice none 0 0, .slice none 0 0] := F1
 replace F0_0 := F0_0.chg hc1 Dj.nil
 replace F0_1 := F0_1.chg hc1 Dj.nil
 replace F0 := F0.chg hc1 notNil
 replace hB := hB.inS hc1 inNil
 replace G1 := Nat.le_trans hZ G1
 replace hZ := Nat.le_trans hZ hc1.size
 refine wS_end (by rfl) ?_
 refine eX_then ?_
 refine cW_seq ?_
 refine cW_region ?_
 refine wS_pure 1 [(18, .pointer (some ⟨b0, 0, none⟩))] (by kernel_rfl) ?_
 obtain ⟨y1, hy1, hm⟩ := bindE hm
 refine wS_calls (d := 19) (f := 70) (vs := [.pointer (some ⟨b0, 0, none⟩)]) (by kernel_rfl) ent70 (c_impl_Channel_pieces_bimplChannel hy1 F0_0 F0_1 F0) ?_
 rintro _ w2 ⟨A1, cap1, fp1, fr1, rfl, F2, G2, hc2⟩
 have D1 : Dj [b1] (fp1 ++ fr1) := Dj.of (lt1 F1.lt) G2
 replace F0_0 := F0_0.chg hc2 Dj.nil
 replace F0_1 := F0_1.chg hc2 Dj.nil
 replace F0 := F0.chg hc2 notNil
 replace F1 := F1.chg hc2 notNil
 replace hB := hB.inS hc2 inNil
 replace G2 := low_le hZ G2
 replace hZ := Nat.le_trans hZ hc2.size
 refine ⟨.slice A1 (y1).length cap1, rfl, ?_⟩
 refine wS_pure 1 [(20, .pointer (some ⟨b0, 0, none⟩))] (by kernel_rfl) ?_
 obtain ⟨y2, hy2, hm⟩ := bindE hm
 refine wS_calls (d := 21) (f := 39) (vs := [.pointer (some ⟨b0, 0, none⟩)]) (by kernel_rfl) ent39 (c_impl_Channel_nets_bimplChannel hy2 F0_0 F0_1 F0) ?_
 rintro _ w3 ⟨A2, cap2, fp2, rfl, F3, G3, hc3⟩
 have D2 : Dj [b1] fp2 := Dj.of (lt1 F1.lt) G3
 have D3 : Dj (fp1 ++ fr1) fp2 := Dj.of F2.low G3
 replace F0_0 := F0_0.chg hc3 Dj.nil
 replace F0_1 := F0_1.chg hc3 Dj.nil
 replace F0 := F0.chg hc3 notNil
 replace F1 := F1.chg hc3 notNil
 replace F2 := F2.chg hc3 Dj.nil
 replace hB := hB.inS hc3 inNil
 replace G3 := low_le hZ G3
 replace hZ := Nat.le_trans hZ hc3.size
 refine ⟨.slice A2 (y2).length cap2, rfl, ?_⟩
 refine wS_pure 2 [(4, .slice A2 (y2).length cap2), (3, .slice A1 (y1).length cap1)] (by kernel_rfl) ?_
 refine wS_end (by rfl) ?_
 refine eX_then ?_
 refine cW_seq ?_
 refine cW_region ?_
 refine wS_pure 2 [(23, .int .i64 (((y1).length : Int))), (22, .slice A1 (y1).length cap1)] (by kernel_rfl) ?_
 obtain ⟨y3, hy3, hm⟩ := bindE hm
 refine wS_calls (d := 24) (f := 77) (vs := [.int .i64 (((y1).length : Int))]) (by kernel_rfl) ent77 (c_impl_newOrder hy3) ?_
 rintro _ w4 ⟨A3, cap3, fp3, A4, cap4, fp4, rfl, F4, G4, F5, G5, D4, hc4⟩
 have D5 : Dj [b1] fp3 := Dj.of (lt1 F1.lt) G4
 have D6 : Dj (fp1 ++ fr1) fp3 := Dj.of F2.low G4
 have D7 : Dj fp2 fp3 := Dj.of F3.low G4
 have D8 : Dj [b1] fp4 := Dj.of (lt1 F1.lt) G5
 have D9 : Dj (fp1 ++ fr1) fp4 := Dj.of F2.low G5
 have D10 : Dj fp2 fp4 := Dj.of F3.low G5
 replace F0_0 := F0_0.chg hc4 Dj.nil
 replace F0_1 := F0_1.chg hc4 Dj.nil
 replace F0 := F0.chg hc4 notNil
 replace F1 := F1.chg hc4 notNil
 replace F2 := F2.chg hc4 Dj.nil
 replace F3 := F3.chg hc4 Dj.nil
 replace hB := hB.inS hc4 inNil
 replace G4 := low_le hZ G4
 replace G5 := low_le hZ G5
 replace hZ := Nat.le_trans hZ hc4.size
 refine ⟨.agg #[.slice A3 (y3.1).length cap3, .slice A4 (y3.2).length cap4], rfl, ?_⟩
 refine wS_alloc (d := 5) (T := 58) (z := .agg #[.slice none 0 0, .slice none 0 0]) (by kernel_rfl) (by kernel_rfl) ?_
 intro b2 w5 G6 F6 hc5
 replace F6 : Cl w5 b2 58 [.slice none 0 0, .slice none 0 0] := F6
 have D11 : Dj [b1] [b2] := Dj.of (lt1 F1.lt) (low1 G6)
 have D12 : Dj (fp1 ++ fr1) [b2] := Dj.of F2.low (low1 G6)
 have D13 : Dj fp2 [b2] := Dj.of F3.low (low1 G6)
 have D14 : Dj fp3 [b2] := Dj.of F4.low (low1 G6)
 have D15 : Dj fp4 [b2] := Dj.of F5.low (low1 G6)
 replace F0_0 := F0_0.chg hc5 Dj.nil
 replace F0_1 := F0_1.chg hc5 Dj.nil
 replace F0 := F0.chg hc5 notNil
 replace F1 := F1.chg hc5 notNil
 replace F2 := F2.chg hc5 Dj.nil
 replace F3 := F3.chg hc5 Dj.nil
 replace F4 := F4.chg hc5 Dj.nil
 replace F5 := F5.chg hc5 Dj.nil
 replace hB := hB.inS hc5 inNil
 replace G6 := Nat.le_trans hZ G6
 replace hZ := Nat.le_trans hZ hc5.size
 refine wS_store (T := 58) (g := b2) (o := 0) (ad := ⟨b2, 0, none⟩) (v := .agg #[.slice A3 (y3.1).length cap3, .slice A4 (y3.2).length cap4]) (vs := [.slice A3 (y3.1).length cap3, .slice A4 (y3.2).length cap4]) (by kernel_rfl) (by rfl) sz58 (by rfl) (by rfl) F6 (by simp only [List.length_cons, List.length_nil]; omega) ?_
 intro w6 F7 hc6
 replace F0_0 := F0_0.chg hc6 (Dj.of L0_0 (low1 G6))
 replace F0_1 := F0_1.chg hc6 (Dj.of L0_1 (low1 G6))
 replace F0 := F0.chg hc6 (dj1 (Dj.of L0 (low1 G6)))
 replace F1 := F1.chg hc6 (dj1 D11)
 replace F2 := F2.chg hc6 D12
 replace F3 := F3.chg hc6 D13
 replace F4 := F4.chg hc6 D14
 replace F5 := F5.chg hc6 D15
 replace hB := hB.inS hc6 (inLow (low1 G6))
 replace hZ := Nat.le_trans hZ hc6.size
 replace F7 : Cl w6 b2 58 [.slice A3 (y3.1).length cap3, .slice A4 (y3.2).length cap4] := F7
 clear F6
 refine wS_end (by rfl) ?_
 refine eX_then ?_
 refine cW_seq ?_
 refine cW_seq ?_
 refine cW_region ?_
 refine wS_pure 3 [(27, .int .i64 (0)), (26, .int .i64 (((y1).length : Int))), (25, .slice A1 (y1).length cap1)] (by kernel_rfl) ?_
 refine wS_end (by rfl) ?_
 refine eX_then ?_
 obtain ⟨r1, hr1, hm⟩ := bindE hm
 have hm1 := hm
 refine cW_cut (fun a' w' => ∃ l1 : List (Int), l1 = r1 ∧ Fr 167 [(0, .pointer (some ⟨b0, 0, none⟩)), (2, .pointer (some ⟨b1, 0, none⟩)), (3, .slice A1 (y1).length cap1), (4, .slice A2 (y2).length cap2), (5, .pointer (some ⟨b2, 0, none⟩))] a' ∧ Sl 1 encI w' fp0_0 A0_0 l0_0 ∧ Sl 1 encI w' fp0_1 A0_1 l0_1 ∧ Cl w' b0 26 [.slice A0_0 (l0_0).length cap0_0, .slice A0_1 (l0_1).length cap0_1] ∧ Cl w' b1 58 [.slice none 0 0, .slice none 0 0] ∧ OwR 1 encI 24 2 w' fp1 fr1 A1 cap1 y1 ∧ Ow 1 encI 2 w' fp2 A2 cap2 y2 ∧ Ow 1 encI 3 w' fp3 A3 cap3 l1 ∧ Ow 1 encI 3 w' fp4 A4 cap4 y3.2 ∧ Cl w' b2 58 [.slice A3 (l1).length cap3, .slice A4 (y3.2).length cap4] ∧ Chg [] w0 w' ∧ w0.heap.size ≤ w'.heap.size) ?_ ?_
 ·refine cW_block ?_
  refine cW_loop _ (fun (s1 : Int × (List (Int))) a' w' => ∃ x1 : Int, ∃ l2 : List (Int), (x1, l2) = s1 ∧ Fr 167 [(0, .pointer (some ⟨b0, 0, none⟩)), (2, .pointer (some ⟨b1, 0, none⟩)), (3, .slice A1 (y1).length cap1), (4, .slice A2 (y2).length cap2), (5, .pointer (some ⟨b2, 0, none⟩)), (25, .slice A1 (y1).length cap1), (26, .int .i64 (((y1).length : Int))), (27, .int .i64 (x1))] a' ∧ Sl 1 encI w' fp0_0 A0_0 l0_0 ∧ Sl 1 encI w' fp0_1 A0_1 l0_1 ∧ Cl w' b0 26 [.slice A0_0 (l0_0).length cap0_0, .slice A0_1 (l0_1).length cap0_1] ∧ Cl w' b1 58 [.slice none 0 0, .slice none 0 0] ∧ OwR 1 encI 24 2 w' fp1 fr1 A1 cap1 y1 ∧ Ow 1 encI 2 w' fp2 A2 cap2 y2 ∧ Ow 1 encI 3 w' fp3 A3 cap3 l2 ∧ Ow 1 encI 3 w' fp4 A4 cap4 y3.2 ∧ Cl w' b2 58 [.slice A3 (l2).length cap3, .slice A4 (y3.2).length cap4] ∧ Chg [] w0 w' ∧ w0.heap.size ≤ w'.heap.size) hr1 (fun hst => ⟨0, y3.1, rfl, Fr.of hst (by kernel_rfl), F0_0, F0_1, F0, F1, F2, F3, F4, F5, F7, hB, hZ⟩) ?_
  rintro _ c1 a' w7 ⟨x1, l2, rfl, hF1, F8, F9, F10, F11, F12, F13, F14, F15, F16, hB, hZ⟩ hx1
  refine Fr.goOn hF1 (by kernel_rfl) ?_
  have hm := hx1
  unfold m_impl_Channel_pieceOrder_bimplChannel_s3 at hm
  refine cW_seq ?_
  refine cW_region ?_
  refine wS_pure 1 [(28, .bool (decide (x1 < (((y1).length : Int)))))] (by kernel_rfl) ?_
  refine wS_end (by rfl) ?_
  refine eX_then ?_
  refine cW_seq ?_
  refine cW_cond (t := decide (x1 < (((y1).length : Int)))) (by kernel_rfl) (fun hb1 => ?_) (fun hb1 => ?_)
  ·have hm := condT hb1 hm
   refine cW_skip ?_
   refine eX_then ?_
   refine cW_seq ?_
   refine cW_block ?_
   refine cW_seq ?_
   refine cW_region ?_
   refine wS_pure 1 [(29, .int .i64 (x1))] (by kernel_rfl) ?_
   obtain ⟨x2, hx2, hm⟩ := bindE hm
   refine wS_idx (d := 30) (T := 28) (A := A1) (n := (y1).length) (cap := cap1) (kd := .i64) (m := x1) (by kernel_rfl) sl28 ((F12.slr encI_ok).is hx2) ?_
   obtain ⟨A5, cap5, hc7, F17, K1⟩ := OwR.row F12 encI_ok hx2
   have G7 := low_inr G2
   have Dm1 := (F12.dj).symm
   refine wS_load1 (d := 31) (T := 24) (ad := (elA A1 1 (x1) 0)) (v := .slice A5 (x2).length cap5) (by kernel_rfl) vt24 hc7 ?_
   refine wS_pure 2 [(7, .slice A5 (x2).length cap5), (6, .int .i64 (x1))] (by kernel_rfl) ?_
   refine wS_end (by rfl) ?_
   refine eX_then ?_
   refine cW_seq ?_
   refine cW_region ?_
   refine wS_pure 3 [(34, .int .i64 (0)), (33, .int .i64 (((y1).length : Int))), (32, .slice A1 (y1).length cap1)] (by kernel_rfl) ?_
   refine wS_end (by rfl) ?_
   refine eX_then ?_
   obtain ⟨r2, hr2, hm⟩ := bindE hm
   have hm2 := hm
   refine cW_cut (fun a' w' => ∃ l3 : List (Int), l3 = r2 ∧ Fr 167 [(0, .pointer (some ⟨b0, 0, none⟩)), (2, .pointer (some ⟨b1, 0, none⟩)), (3, .slice A1 (y1).length cap1), (4, .slice A2 (y2).length cap2), (5, .pointer (some ⟨b2, 0, none⟩)), (25, .slice A1 (y1).length cap1), (26, .int .i64 (((y1).length : Int))), (27, .int .i64 (x1))] a' ∧ Sl 1 encI w' fp0_0 A0_0 l0_0 ∧ Sl 1 encI w' fp0_1 A0_1 l0_1 ∧ Cl w' b0 26 [.slice A0_0 (l0_0).length cap0_0, .slice A0_1 (l0_1).length cap0_1] ∧ Cl w' b1 58 [.slice none 0 0, .slice none 0 0] ∧ OwR 1 encI 24 2 w' fp1 fr1 A1 cap1 y1 ∧ Ow 1 encI 2 w' fp2 A2 cap2 y2 ∧ Ow 1 encI 3 w' fp3 A3 cap3 l3 ∧ Ow 1 encI 3 w' fp4 A4 cap4 y3.2 ∧ Cl w' b2 58 [.slice A3 (l3).length cap3, .slice A4 (y3.2).length cap4] ∧ Chg [] w0 w' ∧ w0.heap.size ≤ w'.heap.size) ?_ ?_
   ·refine cW_block ?_
    refine cW_loop _ (fun (s2 : Int × (List (Int))) a' w' => ∃ x3 : Int, ∃ l4 : List (Int), (x3, l4) = s2 ∧ Fr 167 [(0, .pointer (some ⟨b0, 0, none⟩)), (2, .pointer (some ⟨b1, 0, none⟩)), (3, .slice A1 (y1).length cap1), (4, .slice A2 (y2).length cap2), (5, .pointer (some ⟨b2, 0, none⟩)), (6, .int .i64 (x1)), (7, .slice A5 (x2).length cap5), (25, .slice A1 (y1).length cap1), (26, .int .i64 (((y1).length : Int))), (27, .int .i64 (x1)), (32, .slice A1 (y1).length cap1), (33, .int .i64 (((y1).length : Int))), (34, .int .i64 (x3))] a' ∧ Sl 1 encI w' fp0_0 A0_0 l0_0 ∧ Sl 1 encI w' fp0_1 A0_1 l0_1 ∧ Cl w' b0 26 [.slice A0_0 (l0_0).length cap0_0, .slice A0_1 (l0_1).length cap0_1] ∧ Cl w' b1 58 [.slice none 0 0, .slice none 0 0] ∧ OwR 1 encI 24 2 w' fp1 fr1 A1 cap1 y1 ∧ Ow 1 encI 2 w' fp2 A2 cap2 y2 ∧ Ow 1 encI 3 w' fp3 A3 cap3 l4 ∧ Ow 1 encI 3 w' fp4 A4 cap4 y3.2 ∧ Cl w' b2 58 [.slice A3 (l4).length cap3, .slice A4 (y3.2).length cap4] ∧ Sl 1 encI w' fr1 A5 x2 ∧ Chg [] w0 w' ∧ w0.heap.size ≤ w'.heap.size) hr2 (fun hst => ⟨0, l2, rfl, Fr.of hst (by kernel_rfl), F8, F9, F10, F11, F12, F13, F14, F15, F16, F17, hB, hZ⟩) ?_
    rintro _ c2 a' w8 ⟨x3, l4, rfl, hF2, F18, F19, F20, F21, F22, F23, F24, F25, F26, F27, hB, hZ⟩ hx3
    refine Fr.goOn hF2 (by kernel_rfl) ?_
    have hm := hx3
    unfold m_impl_Channel_pieceOrder_bimplChannel_s4 at hm
    refine cW_seq ?_
    refine cW_region ?_
    refine wS_pure 1 [(35, .bool (decide (x3 < (((y1).length : Int)))))] (by kernel_rfl) ?_
    refine wS_end (by rfl) ?_
    refine eX_then ?_
    refine cW_seq ?_
    refine cW_cond (t := decide (x3 < (((y1).length : Int)))) (by kernel_rfl) (fun hb2 => ?_) (fun hb2 => ?_)
    ·have hm := condT hb2 hm
     refine cW_skip ?_
     refine eX_then ?_
     refine cW_seq ?_
     refine cW_block ?_
     obtain ⟨s3, hs1, hm⟩ := bindE hm
     refine cW_cut (fun a' w' => ∃ l5 : List (Int), l5 = s3 ∧ Fr 167 [(0, .pointer (some ⟨b0, 0, none⟩)), (2, .pointer (some ⟨b1, 0, none⟩)), (3, .slice A1 (y1).length cap1), (4, .slice A2 (y2).length cap2), (5, .pointer (some ⟨b2, 0, none⟩)), (6, .int .i64 (x1)), (7, .slice A5 (x2).length cap5), (25, .slice A1 (y1).length cap1), (26, .int .i64 (((y1).length : Int))), (27, .int .i64 (x1)), (32, .slice A1 (y1).length cap1), (33, .int .i64 (((y1).length : Int))), (34, .int .i64 (x3))] a' ∧ Sl 1 encI w' fp0_0 A0_0 l0_0 ∧ Sl 1 encI w' fp0_1 A0_1 l0_1 ∧ Cl w' b0 26 [.slice A0_0 (l0_0).length cap0_0, .slice A0_1 (l0_1).length cap0_1] ∧ Cl w' b1 58 [.slice none 0 0, .slice none 0 0] ∧ OwR 1 encI 24 2 w' fp1 fr1 A1 cap1 y1 ∧ Ow 1 encI 2 w' fp2 A2 cap2 y2 ∧ Ow 1 encI 3 w' fp3 A3 cap3 l5 ∧ Ow 1 encI 3 w' fp4 A4 cap4 y3.2 ∧ Cl w' b2 58 [.slice A3 (l5).length cap3, .slice A4 (y3.2).length cap4] ∧ Sl 1 encI w' fr1 A5 x2 ∧ Chg [] w0 w' ∧ w0.heap.size ≤ w'.heap.size) ?_ ?_
     ·have hm := hs1
      refine cW_seq ?_
      refine cW_region ?_
      refine wS_pure 1 [(36, .int .i64 (x3))] (by kernel_rfl) ?_
      obtain ⟨x4, hx4, hm⟩ := bindE hm
      refine wS_idx (d := 37) (T := 28) (A := A1) (n := (y1).length) (cap := cap1) (kd := .i64) (m := x3) (by kernel_rfl) sl28 ((F22.slr encI_ok).is hx4) ?_
      obtain ⟨A6, cap6, hc8, F28, K2⟩ := OwR.row F22 encI_ok hx4
      have G8 := low_inr G2
      have Dm2 := (F22.dj).symm
      refine wS_load1 (d := 38) (T := 24) (ad := (elA A1 1 (x3) 0)) (v := .slice A6 (x4).length cap6) (by kernel_rfl) vt24 hc8 ?_
      refine wS_pure 2 [(9, .slice A6 (x4).length cap6), (8, .int .i64 (x3))] (by kernel_rfl) ?_
      refine wS_end (by rfl) ?_
      refine eX_then ?_
      refine cW_seq ?_
      refine cW_drawnTail [] 23 (by kernel_rfl) (by kernel_rfl) (fun w9 hc9 => ?_)
      replace F18 := F18.chg hc9 Dj.nil
      replace F19 := F19.chg hc9 Dj.nil
      replace F20 := F20.chg hc9 notNil
      replace F21 := F21.chg hc9 notNil
      replace F22 := F22.chg hc9 Dj.nil
      replace F23 := F23.chg hc9 Dj.nil
      replace F24 := F24.chg hc9 Dj.nil
      replace F25 := F25.chg hc9 Dj.nil
      replace F26 := F26.chg hc9 notNil
      replace F27 := F27.chg hc9 Dj.nil
      replace F28 := F28.chg hc9 Dj.nil
      replace hB := hB.inS hc9 inNil
      replace hZ := Nat.le_trans hZ hc9.size
      have hS := Chg.refl [] w9
      have Z1 := F18
      have Z2 := F19
      have Z3 := F20
      have Z4 := F21
      have Z5 := F22
      have Z6 := F23
      have Z7 := F24
      have Z8 := F25
      have Z9 := F26
      have Z10 := F27
      have Z11 := F28
      refine wH_take [0] [0] [(39, .slice A5 (x2).length cap5)] (by kernel_rfl) (qT (qT (qT (qB (qT (qL (qB (qT (qB (qT (qL (qB (qT (qT qZ)))))))))))))) (by kernel_rfl) ?_
      obtain ⟨x5, hx5, hm⟩ := bindE hm
      refine wH_idx (i := 1) (d := 40) (T := 24) (A := A5) (n := (x2).length) (cap := cap5) (kd := .i64) (m := 0) (by kernel_rfl) (qT (qT (qT (qB (qT (qL (qB (qT (qB (qT (qL (qB (qT (qT qZ)))))))))))))) (by kernel_rfl) (by kernel_rfl) sl24 (F27.is hx5) ?_
      refine wH_load1 (i := 2) (d := 41) (T := 2) (ad := (elA A5 1 (0) 0)) (v := .int .i64 (x5)) (by kernel_rfl) (qT (qT (qT (qB (qT (qL (qB (qT (qB (qT (qL (qB (qT (qT qZ)))))))))))))) (by kernel_rfl) (by kernel_rfl) vt2 (fun W hW => Sl.cell (Z10.chg hW Dj.nil) hx5 0 (by rfl)) ?_
      refine wH_take [3] [3, 2, 1, 0] [(42, .slice A6 (x4).length cap6)] (by kernel_rfl) (qT (qT (qT (qB (qT (qL (qB (qT (qB (qT (qL (qB (qT (qT qZ)))))))))))))) (by kernel_rfl) ?_
      obtain ⟨x6, hx6, hm⟩ := bindE hm
      refine wH_idx (i := 4) (d := 43) (T := 24) (A := A6) (n := (x4).length) (cap := cap6) (kd := .i64) (m := 0) (by kernel_rfl) (qT (qT (qT (qB (qT (qL (qB (qT (qB (qT (qL (qB (qT (qT qZ)))))))))))))) (by kernel_rfl) (by kernel_rfl) sl24 (F28.is hx6) ?_
      refine wH_load1 (i := 5) (d := 44) (T := 2) (ad := (elA A6 1 (0) 0)) (v := .int .i64 (x6)) (by kernel_rfl) (qT (qT (qT (qB (qT (qL (qB (qT (qB (qT (qL (qB (qT (qT qZ)))))))))))))) (by kernel_rfl) (by kernel_rfl) vt2 (fun W hW => Sl.cell (Z11.chg hW Dj.nil) hx6 0 (by rfl)) ?_
      refine wH_take [6, 7] [7, 6, 5, 4, 3, 2, 1, 0] [(46, .bool (x5 != x6)), (45, .bool (x5 != x6))] (by kernel_rfl) (qT (qT (qT (qB (qT (qL (qB (qT (qB (qT (qL (qB (qT (qT qZ)))))))))))))) (by kernel_rfl) ?_
      refine wH_bool (x5 != x6) (fun hb3 => ?_) (fun hb3 => ?_)
      ·have hm := condT hb3 hm
       rewrite [hb3]
       refine wH_take [8] [8, 7, 6, 5, 4, 3, 2, 1, 0] [(47, .slice A5 (x2).length cap5)] (by kernel_rfl) (qT (qT (qT (qB (qT (qL (qB (qT (qB (qT (qL (qB (qT (qT qZ)))))))))))))) (by kernel_rfl) ?_
       obtain ⟨x7, hx7, hm⟩ := bindE hm
       refine wH_idx (i := 9) (d := 48) (T := 24) (A := A5) (n := (x2).length) (cap := cap5) (kd := .i64) (m := 1) (by kernel_rfl) (qT (qT (qT (qB (qT (qL (qB (qT (qB (qT (qL (qB (qT (qT qZ)))))))))))))) (by kernel_rfl) (by kernel_rfl) sl24 (F27.is hx7) ?_
       refine wH_load1 (i := 10) (d := 49) (T := 2) (ad := (elA A5 1 (1) 0)) (v := .int .i64 (x7)) (by kernel_rfl) (qT (qT (qT (qB (qT (qL (qB (qT (qB (qT (qL (qB (qT (qT qZ)))))))))))))) (by kernel_rfl) (by kernel_rfl) vt2 (fun W hW => Sl.cell (Z10.chg hW Dj.nil) hx7 0 (by rfl)) ?_
       refine wH_take [11] [11, 10, 9, 8, 7, 6, 5, 4, 3, 2, 1, 0] [(50, .slice A6 (x4).length cap6)] (by kernel_rfl) (qT (qT (qT (qB (qT (qL (qB (qT (qB (qT (qL (qB (qT (qT qZ)))))))))))))) (by kernel_rfl) ?_
       obtain ⟨x8, hx8, hm⟩ := bindE hm
       refine wH_idx (i := 12) (d := 51) (T := 24) (A := A6) (n := (x4).length) (cap := cap6) (kd := .i64) (m := 2) (by kernel_rfl) (qT (qT (qT (qB (qT (qL (qB (qT (qB (qT (qL (qB (qT (qT qZ)))))))))))))) (by kernel_rfl) (by kernel_rfl) sl24 (F28.is hx8) ?_
       refine wH_load1 (i := 13) (d := 52) (T := 2) (ad := (elA A6 1 (2) 0)) (v := .int .i64 (x8)) (by kernel_rfl) (qT (qT (qT (qB (qT (qL (qB (qT (qB (qT (qL (qB (qT (qT qZ)))))))))))))) (by kernel_rfl) (by kernel_rfl) vt2 (fun W hW => Sl.cell (Z11.chg hW Dj.nil) hx8 0 (by rfl)) ?_
       refine wH_take [14, 15, 16] [16, 15, 14, 13, 12, 11, 10, 9, 8, 7, 6, 5, 4, 3, 2, 1, 0] [(55, .bool (decide (x7 ≤ x8))), (54, .bool (decide (x7 ≤ x8))), (53, .bool (decide (x7 ≤ x8)))] (by kernel_rfl) (qT (qT (qT (qB (qT (qL (qB (qT (qB (qT (qL (qB (qT (qT qZ)))))))))))))) (by kernel_rfl) ?_
       refine wH_bool (decide (x7 ≤ x8)) (fun hb4 => ?_) (fun hb4 => ?_)
       ·have hm := condT hb4 hm
        rewrite [hb4]
        refine wH_take [17] [17, 16, 15, 14, 13, 12, 11, 10, 9, 8, 7, 6, 5, 4, 3, 2, 1, 0] [(56, .slice A6 (x4).length cap6)] (by kernel_rfl) (qT (qT (qT (qB (qT (qL (qB (qT (qB (qT (qL (qB (qT (qT qZ)))))))))))))) (by kernel_rfl) ?_
        obtain ⟨x9, hx9, hm⟩ := bindE hm
        refine wH_idx (i := 18) (d := 57) (T := 24) (A := A6) (n := (x4).length) (cap := cap6) (kd := .i64) (m := 1) (by kernel_rfl) (qT (qT (qT (qB (qT (qL (qB (qT (qB (qT (qL (qB (qT (qT qZ)))))))))))))) (by kernel_rfl) (by kernel_rfl) sl24 (F28.is hx9) ?_
        refine wH_load1 (i := 19) (d := 58) (T := 2) (ad := (elA A6 1 (1) 0)) (v := .int .i64 (x9)) (by kernel_rfl) (qT (qT (qT (qB (qT (qL (qB (qT (qB (qT (qL (qB (qT (qT qZ)))))))))))))) (by kernel_rfl) (by kernel_rfl) vt2 (fun W hW => Sl.cell (Z11.chg hW Dj.nil) hx9 0 (by rfl)) ?_
        refine wH_take [20] [20, 19, 18, 17, 16, 15, 14, 13, 12, 11, 10, 9, 8, 7, 6, 5, 4, 3, 2, 1, 0] [(59, .slice A5 (x2).length cap5)] (by kernel_rfl) (qT (qT (qT (qB (qT (qL (qB (qT (qB (qT (qL (qB (qT (qT qZ)))))))))))))) (by kernel_rfl) ?_
        obtain ⟨x10, hx10, hm⟩ := bindE hm
        refine wH_idx (i := 21) (d := 60) (T := 24) (A := A5) (n := (x2).length) (cap := cap5) (kd := .i64) (m := 2) (by kernel_rfl) (qT (qT (qT (qB (qT (qL (qB (qT (qB (qT (qL (qB (qT (qT qZ)))))))))))))) (by kernel_rfl) (by kernel_rfl) sl24 (F27.is hx10) ?_
        refine wH_load1 (i := 22) (d := 61) (T := 2) (ad := (elA A5 1 (2) 0)) (v := .int .i64 (x10)) (by kernel_rfl) (qT (qT (qT (qB (qT (qL (qB (qT (qB (qT (qL (qB (qT (qT qZ)))))))))))))) (by kernel_rfl) (by kernel_rfl) vt2 (fun W hW => Sl.cell (Z10.chg hW Dj.nil) hx10 0 (by rfl)) ?_
        refine wH_done (by kernel_rfl) ?_
        refine eX_tail ?_
        refine wS_pure 2 [(63, .bool (decide (x9 ≤ x10))), (62, .bool (decide (x9 ≤ x10)))] (by kernel_rfl) ?_
        refine wS_end (by rfl) ?_
        refine eX_then ?_
        refine cW_prune [(0, .pointer (some ⟨b0, 0, none⟩)), (2, .pointer (some ⟨b1, 0, none⟩)), (3, .slice A1 (y1).length cap1), (4, .slice A2 (y2).length cap2), (5, .pointer (some ⟨b2, 0, none⟩)), (6, .int .i64 (x1)), (7, .slice A5 (x2).length cap5), (8, .int .i64 (x3)), (25, .slice A1 (y1).length cap1), (26, .int .i64 (((y1).length : Int))), (27, .int .i64 (x1)), (32, .slice A1 (y1).length cap1), (33, .int .i64 (((y1).length : Int))), (34, .int .i64 (x3)), (63, .bool (decide (x9 ≤ x10)))] (by kernel_rfl) (by kernel_rfl) (fun a1 => ?_)
        refine cW_cond (t := decide (x9 ≤ x10)) (by kernel_rfl) (fun hb5 => ?_) (fun hb5 => ?_)
        ·have hm := condT hb5 hm
         refine cW_drawnTail [] 7 (by kernel_rfl) (by kernel_rfl) (fun w10 hc10 => ?_)
         replace F18 := F18.chg hc10 Dj.nil
         replace F19 := F19.chg hc10 Dj.nil
         replace F20 := F20.chg hc10 notNil
         replace F21 := F21.chg hc10 notNil
         replace F22 := F22.chg hc10 Dj.nil
         replace F23 := F23.chg hc10 Dj.nil
         replace F24 := F24.chg hc10 Dj.nil
         replace F25 := F25.chg hc10 Dj.nil
         replace F26 := F26.chg hc10 notNil
         replace F27 := F27.chg hc10 Dj.nil
         replace F28 := F28.chg hc10 Dj.nil
         replace hB := hB.inS hc10 inNil
         replace hZ := Nat.le_trans hZ hc10.size
         have hS := Chg.refl [] w10
         have Z12 := F18
         have Z13 := F19
         have Z14 := F20
         have Z15 := F21
         have Z16 := F22
         have Z17 := F23
         have Z18 := F24
         have Z19 := F25
         have Z20 := F26
         have Z21 := F27
         have Z22 := F28
         refine wH_take [0] [0] [(64, .pointer (some ⟨b2, 0, none⟩))] (by kernel_rfl) (qT (qT (qB (qT (qL (qB (qT (qB (qT (qL (qB (qT (qT qZ))))))))))))) (by kernel_rfl) ?_
         refine wH_load1 (i := 1) (d := 65) (T := 56) (ad := ⟨b2, 0, none⟩) (v := .slice A3 (l4).length cap3) (by kernel_rfl) (qT (qT (qB (qT (qL (qB (qT (qB (qT (qL (qB (qT (qT qZ))))))))))))) (by kernel_rfl) (by kernel_rfl) vt56 (fun W hW => (Z20.chg hW notNil).cell 0) ?_
         refine wH_take [2] [2, 1, 0] [(66, .int .i64 (x1))] (by kernel_rfl) (qT (qT (qB (qT (qL (qB (qT (qB (qT (qL (qB (qT (qT qZ))))))))))))) (by kernel_rfl) ?_
         obtain ⟨x11, hx11, hm⟩ := bindE hm
         refine wH_idx (i := 3) (d := 67) (T := 56) (A := A3) (n := (l4).length) (cap := cap3) (kd := .i64) (m := x1) (by kernel_rfl) (qT (qT (qB (qT (qL (qB (qT (qB (qT (qL (qB (qT (qT qZ))))))))))))) (by kernel_rfl) (by kernel_rfl) sl56 ((F24.sl encI_ok).is hx11) ?_
         refine wH_load1 (i := 4) (d := 68) (T := 3) (ad := (elA A3 1 (x1) 0)) (v := .int .i64 (x11)) (by kernel_rfl) (qT (qT (qB (qT (qL (qB (qT (qB (qT (qL (qB (qT (qT qZ))))))))))))) (by kernel_rfl) (by kernel_rfl) vt3 (fun W hW => Sl.cell ((Z18.chg hW Dj.nil).sl encI_ok) hx11 0 (by rfl)) ?_
         refine wH_take [5] [5, 4, 3, 2, 1, 0] [(69, .int .i64 (x3))] (by kernel_rfl) (qT (qT (qB (qT (qL (qB (qT (qB (qT (qL (qB (qT (qT qZ))))))))))))) (by kernel_rfl) ?_
         obtain ⟨u1, hu1, hm⟩ := bindE hm
         refine wH_shl (i := 6) (d := 70) (x := 1) (y := x3) (yk := .i64) (by kernel_rfl) (qT (qT (qB (qT (qL (qB (qT (qB (qT (qL (qB (qT (qT qZ))))))))))))) (by kernel_rfl) (by kernel_rfl) (p0E hu1) ?_
         refine wH_done (by kernel_rfl) ?_
         refine eX_tail ?_
         refine wS_pure 1 [(71, .int .i64 (orI x11 (shlI 1 x3)))] (by kernel_rfl) ?_
         obtain ⟨x12, hx12, hm⟩ := bindE hm
         refine wS_idx (d := 72) (T := 56) (A := A3) (n := (l4).length) (cap := cap3) (kd := .i64) (m := x1) (by kernel_rfl) sl56 ((F24.sl encI_ok).is hx12) ?_
         refine wS_storeEl (x := x12) (orI x11 (shlI 1 x3)) (T := 3) (U := 3) (cap := cap3) (j := 0) (A := A3) (v := .int .i64 (orI x11 (shlI 1 x3))) (vs := [.int .i64 (orI x11 (shlI 1 x3))]) (m := x1) (by kernel_rfl) (by rfl) sz3 (by rfl) encI_ok F24 hx12 (by simp only [List.length_cons, List.length_nil]; omega) (by rfl) ?_
         intro w11 F29 hc11
         replace F18 := F18.chg hc11 (Dj.of L0_0 G4)
         replace F19 := F19.chg hc11 (Dj.of L0_1 G4)
         replace F20 := F20.chg hc11 (dj1 (Dj.of L0 G4))
         replace F21 := F21.chg hc11 (dj1 D5)
         replace F22 := F22.chg hc11 D6
         replace F23 := F23.chg hc11 D7
         replace F25 := F25.chg hc11 (D4).symm
         replace F26 := F26.chg hc11 (dj1 (D14).symm)
         replace F27 := F27.chg hc11 ((Dj.inr (D6).symm)).symm
         replace F28 := F28.chg hc11 ((Dj.inr (D6).symm)).symm
         replace hB := hB.inS hc11 (inLow G4)
         replace hZ := Nat.le_trans hZ hc11.size
         clear F24
         rewrite [show (l4).length = (l4.set (Int.toNat x1) (orI x11 (shlI 1 x3))).length from (List.length_set ..).symm]
         rewrite [show (l4).length = (l4.set (Int.toNat x1) (orI x11 (shlI 1 x3))).length from (List.length_set ..).symm] at F26
         refine wS_end (by rfl) ?_
         have hq : (some (l4.set (Int.toNat x1) (orI x11 (shlI 1 x3))) : Option ((List (Int)))) = some _ := hm
         replace hq := someE hq
         subst hq
         exact eX_J (fun hst => ⟨l4.set (Int.toNat x1) (orI x11 (shlI 1 x3)), rfl, Fr.of hst (by kernel_rfl), F18, F19, F20, F21, F22, F23, F29, F25, F26, F27, hB, hZ⟩)
        ·have hm := condF hb5 hm
         refine cW_skip ?_
         have hq : (some l4 : Option ((List (Int)))) = some _ := hm
         replace hq := someE hq
         subst hq
         exact eX_J (fun hst => ⟨l4, rfl, Fr.of hst (by kernel_rfl), F18, F19, F20, F21, F22, F23, F24, F25, F26, F27, hB, hZ⟩)
       ·have hm := condF hb4 hm
        rewrite [hb4]
        refine wH_take [17, 18, 19, 20, 21, 22] [22, 21, 20, 19, 18, 17, 16, 15, 14, 13, 12, 11, 10, 9, 8, 7, 6, 5, 4, 3, 2, 1, 0] [(61, undef), (60, undef), (59, undef), (58, undef), (57, undef), (56, undef)] (by kernel_rfl) (qT (qT (qT (qB (qT (qL (qB (qT (qB (qT (qL (qB (qT (qT qZ)))))))))))))) (by kernel_rfl) ?_
        refine wH_done (by kernel_rfl) ?_
        refine eX_tail ?_
        refine wS_pure 2 [(63, .bool (false)), (62, undef)] (by kernel_rfl) ?_
        refine wS_end (by rfl) ?_
        refine eX_then ?_
        refine cW_prune [(0, .pointer (some ⟨b0, 0, none⟩)), (2, .pointer (some ⟨b1, 0, none⟩)), (3, .slice A1 (y1).length cap1), (4, .slice A2 (y2).length cap2), (5, .pointer (some ⟨b2, 0, none⟩)), (6, .int .i64 (x1)), (7, .slice A5 (x2).length cap5), (8, .int .i64 (x3)), (25, .slice A1 (y1).length cap1), (26, .int .i64 (((y1).length : Int))), (27, .int .i64 (x1)), (32, .slice A1 (y1).length cap1), (33, .int .i64 (((y1).length : Int))), (34, .int .i64 (x3)), (63, .bool (false))] (by kernel_rfl) (by kernel_rfl) (fun a2 => ?_)
        refine cW_cond_f (by kernel_rfl) ?_
        refine cW_skip ?_
        have hq : (some l4 : Option ((List (Int)))) = some _ := hm
        replace hq := someE hq
        subst hq
        exact eX_J (fun hst => ⟨l4, rfl, Fr.of hst (by kernel_rfl), F18, F19, F20, F21, F22, F23, F24, F25, F26, F27, hB, hZ⟩)
      ·have hm := condF hb3 hm
       rewrite [hb3]
       refine wH_take [8, 9, 10, 11, 12, 13, 14, 15, 16, 17, 18, 19, 20, 21, 22] [22, 21, 20, 19, 18, 17, 16, 15, 14, 13, 12, 11, 10, 9, 8, 7, 6, 5, 4, 3, 2, 1, 0] [(61, undef), (60, undef), (59, undef), (58, undef), (57, undef), (56, undef), (55, .bool (false)), (54, .bool (false)), (53, undef), (52, undef), (51, undef), (50, undef), (49, undef), (48, undef), (47, undef)] (by kernel_rfl) (qT (qT (qT (qB (qT (qL (qB (qT (qB (qT (qL (qB (qT (qT qZ)))))))))))))) (by kernel_rfl) ?_
       refine wH_done (by kernel_rfl) ?_
       refine eX_tail ?_
       refine wS_pure 2 [(63, .bool (false)), (62, undef)] (by kernel_rfl) ?_
       refine wS_end (by rfl) ?_
       refine eX_then ?_
       refine cW_prune [(0, .pointer (some ⟨b0, 0, none⟩)), (2, .pointer (some ⟨b1, 0, none⟩)), (3, .slice A1 (y1).length cap1), (4, .slice A2 (y2).length cap2), (5, .pointer (some ⟨b2, 0, none⟩)), (6, .int .i64 (x1)), (7, .slice A5 (x2).length cap5), (8, .int .i64 (x3)), (25, .slice A1 (y1).length cap1), (26, .int .i64 (((y1).length : Int))), (27, .int .i64 (x1)), (32, .slice A1 (y1).length cap1), (33, .int .i64 (((y1).length : Int))), (34, .int .i64 (x3)), (63, .bool (false))] (by kernel_rfl) (by kernel_rfl) (fun a3 => ?_)
       refine cW_cond_f (by kernel_rfl) ?_
       refine cW_skip ?_
       have hq : (some l4 : Option ((List (Int)))) = some _ := hm
       replace hq := someE hq
       subst hq
       exact eX_J (fun hst => ⟨l4, rfl, Fr.of hst (by kernel_rfl), F18, F19, F20, F21, F22, F23, F24, F25, F26, F27, hB, hZ⟩)
     ·rintro a' w12 ⟨l5, hJ, hF3, F30, F31, F32, F33, F34, F35, F36, F37, F38, F39, hB, hZ⟩
      subst hJ
      refine Fr.goX hF3 (by kernel_rfl) ?_
      refine eX_block ?_
      refine eX_then ?_
      refine cW_region ?_
      refine wS_pure 2 [(34, .int .i64 (wr (x3 + 1))), (73, .int .i64 (wr (x3 + 1)))] (by kernel_rfl) ?_
      refine wS_end (by rfl) ?_
      have hq : (some (Ctl.next ((wr (x3 + 1), l5))) : Option (Ctl (Int × (List (Int))) ((List (Int))))) = some _ := hm
      replace hq := someE hq
      subst hq
      exact eX_next hx3 (fun hst => ⟨wr (x3 + 1), l5, rfl, Fr.of hst (by kernel_rfl), F30, F31, F32, F33, F34, F35, F36, F37, F38, F39, hB, hZ⟩)
    ·have hm := condF hb2 hm
     refine cW_exit ?_
     refine eX_then_exit ?_
     have hq : (some (Ctl.out l4) : Option (Ctl (Int × (List (Int))) ((List (Int))))) = some _ := hm
     replace hq := someE hq
     subst hq
     refine eX_outX hx3 (fun hr3 => ?_)
     replace hr3 := hr3.symm
     subst hr3
     refine eX_block_hit ?_
     exact eX_J (fun hst => ⟨l4, rfl, Fr.of hst (by kernel_rfl), F18, F19, F20, F21, F22, F23, F24, F25, F26, hB, hZ⟩)
   ·rintro a' w13 ⟨l3, hJ, hF4, F40, F41, F42, F43, F44, F45, F46, F47, F48, hB, hZ⟩
    subst hJ
    refine Fr.goX hF4 (by kernel_rfl) ?_
    refine eX_block ?_
    refine eX_then ?_
    refine cW_region ?_
    refine wS_pure 2 [(27, .int .i64 (wr (x1 + 1))), (74, .int .i64 (wr (x1 + 1)))] (by kernel_rfl) ?_
    refine wS_end (by rfl) ?_
    have hq : (some (Ctl.next ((wr (x1 + 1), l3))) : Option (Ctl (Int × (List (Int))) ((List (Int))))) = some _ := hm
    replace hq := someE hq
    subst hq
    exact eX_next hx1 (fun hst => ⟨wr (x1 + 1), l3, rfl, Fr.of hst (by kernel_rfl), F40, F41, F42, F43, F44, F45, F46, F47, F48, hB, hZ⟩)
  ·have hm := condF hb1 hm
   refine cW_exit ?_
   refine eX_then_exit ?_
   have hq : (some (Ctl.out l2) : Option (Ctl (Int × (List (Int))) ((List (Int))))) = some _ := hm
   replace hq := someE hq
   subst hq
   refine eX_outX hx1 (fun hr4 => ?_)
   replace hr4 := hr4.symm
   subst hr4
   refine eX_block_hit ?_
   exact eX_J (fun hst => ⟨l2, rfl, Fr.of hst (by kernel_rfl), F8, F9, F10, F11, F12, F13, F14, F15, F16, hB, hZ⟩)
 ·rintro a' w14 ⟨l1, hJ, hF5, F49, F50, F51, F52, F53, F54, F55, F56, F57, hB, hZ⟩
  subst hJ
  refine Fr.goX hF5 (by kernel_rfl) ?_
  refine eX_then ?_
  refine cW_seq ?_
  refine cW_seq ?_
  refine cW_region ?_
  refine wS_pure 3 [(77, .pointer (some ⟨b0, 0, none⟩)), (76, .pointer (some ⟨b0, 0, none⟩)), (75, .pointer (some ⟨b0, 0, none⟩))] (by kernel_rfl) ?_
  refine wS_load1 (d := 78) (T := 24) (ad := ⟨b0, 0, none⟩) (v := .slice A0_0 (l0_0).length cap0_0) (by kernel_rfl) vt24 ((F51).cell 0) ?_
  refine wS_pure 2 [(80, .int .i64 (0)), (79, .int .i64 (((l0_0).length : Int)))] (by kernel_rfl) ?_
  refine wS_end (by rfl) ?_
  refine eX_then ?_
  obtain ⟨r3, hr5, hm⟩ := bindE hm
  have hm3 := hm
  refine cW_cut (fun a' w' => ∃ l6 : List (Int), l6 = r3 ∧ Fr 167 [(2, .pointer (some ⟨b1, 0, none⟩)), (5, .pointer (some ⟨b2, 0, none⟩))] a' ∧ Cl w' b1 58 [.slice none 0 0, .slice none 0 0] ∧ Ow 1 encI 3 w' fp3 A3 cap3 l1 ∧ Ow 1 encI 3 w' fp4 A4 cap4 l6 ∧ Cl w' b2 58 [.slice A3 (l1).length cap3, .slice A4 (l6).length cap4] ∧ Chg [] w0 w' ∧ w0.heap.size ≤ w'.heap.size) ?_ ?_
  ·refine cW_block ?_
   refine cW_loop _ (fun (s4 : Int × (List (Int))) a' w' => ∃ x13 : Int, ∃ l7 : List (Int), (x13, l7) = s4 ∧ Fr 167 [(0, .pointer (some ⟨b0, 0, none⟩)), (2, .pointer (some ⟨b1, 0, none⟩)), (3, .slice A1 (y1).length cap1), (4, .slice A2 (y2).length cap2), (5, .pointer (some ⟨b2, 0, none⟩)), (78, .slice A0_0 (l0_0).length cap0_0), (79, .int .i64 (((l0_0).length : Int))), (80, .int .i64 (x13))] a' ∧ Sl 1 encI w' fp0_0 A0_0 l0_0 ∧ Sl 1 encI w' fp0_1 A0_1 l0_1 ∧ Cl w' b0 26 [.slice A0_0 (l0_0).length cap0_0, .slice A0_1 (l0_1).length cap0_1] ∧ Cl w' b1 58 [.slice none 0 0, .slice none 0 0] ∧ OwR 1 encI 24 2 w' fp1 fr1 A1 cap1 y1 ∧ Ow 1 encI 2 w' fp2 A2 cap2 y2 ∧ Ow 1 encI 3 w' fp3 A3 cap3 l1 ∧ Ow 1 encI 3 w' fp4 A4 cap4 l7 ∧ Cl w' b2 58 [.slice A3 (l1).length cap3, .slice A4 (l7).length cap4] ∧ Chg [] w0 w' ∧ w0.heap.size ≤ w'.heap.size) hr5 (fun hst => ⟨0, y3.2, rfl, Fr.of hst (by kernel_rfl), F49, F50, F51, F52, F53, F54, F55, F56, F57, hB, hZ⟩) ?_
   rintro _ c3 a' w15 ⟨x13, l7, rfl, hF6, F58, F59, F60, F61, F62, F63, F64, F65, F66, hB, hZ⟩ hx13
   refine Fr.goOn hF6 (by kernel_rfl) ?_
   have hm := hx13
   unfold m_impl_Channel_pieceOrder_bimplChannel_s13 at hm
   refine cW_seq ?_
   refine cW_region ?_
   refine wS_pure 1 [(81, .bool (decide (x13 < (((l0_0).length : Int)))))] (by kernel_rfl) ?_
   refine wS_end (by rfl) ?_
   refine eX_then ?_
   refine cW_seq ?_
   refine cW_cond (t := decide (x13 < (((l0_0).length : Int)))) (by kernel_rfl) (fun hb6 => ?_) (fun hb6 => ?_)
   ·have hm := condT hb6 hm
    refine cW_skip ?_
    refine eX_then ?_
    refine cW_seq ?_
    refine cW_block ?_
    refine cW_seq ?_
    refine cW_region ?_
    refine wS_pure 1 [(82, .int .i64 (x13))] (by kernel_rfl) ?_
    obtain ⟨x14, hx14, hm⟩ := bindE hm
    refine wS_idx (d := 83) (T := 24) (A := A0_0) (n := (l0_0).length) (cap := cap0_0) (kd := .i64) (m := x13) (by kernel_rfl) sl24 (F58.is hx14) ?_
    refine wS_load1 (d := 84) (T := 2) (ad := (elA A0_0 1 (x13) 0)) (v := .int .i64 (x14)) (by kernel_rfl) vt2 (Sl.cell F58 hx14 0 (by rfl)) ?_
    refine wS_pure 2 [(11, .int .i64 (x14)), (10, .int .i64 (x13))] (by kernel_rfl) ?_
    refine wS_end (by rfl) ?_
    refine eX_then ?_
    refine cW_seq ?_
    refine cW_region ?_
    refine wS_pure 3 [(87, .pointer (some ⟨b0, 1, none⟩)), (86, .pointer (some ⟨b0, 0, none⟩)), (85, .pointer (some ⟨b0, 0, none⟩))] (by kernel_rfl) ?_
    refine wS_load1 (d := 88) (T := 24) (ad := ⟨b0, 1, none⟩) (v := .slice A0_1 (l0_1).length cap0_1) (by kernel_rfl) vt24 ((F60).cell 1) ?_
    refine wS_pure 1 [(89, .int .i64 (x13))] (by kernel_rfl) ?_
    obtain ⟨x15, hx15, hm⟩ := bindE hm
    refine wS_idx (d := 90) (T := 24) (A := A0_1) (n := (l0_1).length) (cap := cap0_1) (kd := .i64) (m := x13) (by kernel_rfl) sl24 (F59.is hx15) ?_
    refine wS_load1 (d := 91) (T := 2) (ad := (elA A0_1 1 (x13) 0)) (v := .int .i64 (x15)) (by kernel_rfl) vt2 (Sl.cell F59 hx15 0 (by rfl)) ?_
    refine wS_pure 3 [(13, .int .i64 (x13)), (12, .int .i64 (x15)), (92, .int .i64 (x13))] (by kernel_rfl) ?_
    refine wS_end (by rfl) ?_
    refine eX_then ?_
    refine cW_prune [(0, .pointer (some ⟨b0, 0, none⟩)), (2, .pointer (some ⟨b1, 0, none⟩)), (3, .slice A1 (y1).length cap1), (4, .slice A2 (y2).length cap2), (5, .pointer (some ⟨b2, 0, none⟩)), (11, .int .i64 (x14)), (12, .int .i64 (x15)), (13, .int .i64 (x13)), (78, .slice A0_0 (l0_0).length cap0_0), (79, .int .i64 (((l0_0).length : Int))), (80, .int .i64 (x13))] (by kernel_rfl) (by kernel_rfl) (fun a4 => ?_)
    refine cW_seq ?_
    refine cW_seq ?_
    refine cW_region ?_
    refine wS_pure 4 [(96, .bool (x14 == x15)), (95, .bool (x14 == x15)), (94, .int .i64 (x15)), (93, .int .i64 (x14))] (by kernel_rfl) ?_
    refine wS_bool (x14 == x15) (fun hb7 => ?_) (fun hb7 => ?_)
    ·have hm := condT hb7 hm
     rewrite [hb7]
     refine wS_pure 11 [(107, .bool (true)), (106, undef), (105, undef), (104, undef), (103, undef), (102, .bool (true)), (101, .bool (true)), (100, undef), (99, undef), (98, undef), (97, undef)] (by kernel_rfl) ?_
     refine wS_end (by rfl) ?_
     refine eX_then ?_
     refine cW_prune [(0, .pointer (some ⟨b0, 0, none⟩)), (2, .pointer (some ⟨b1, 0, none⟩)), (3, .slice A1 (y1).length cap1), (4, .slice A2 (y2).length cap2), (5, .pointer (some ⟨b2, 0, none⟩)), (11, .int .i64 (x14)), (12, .int .i64 (x15)), (13, .int .i64 (x13)), (78, .slice A0_0 (l0_0).length cap0_0), (79, .int .i64 (((l0_0).length : Int))), (80, .int .i64 (x13)), (107, .bool (true))] (by kernel_rfl) (by kernel_rfl) (fun a5 => ?_)
     refine cW_cond_t (by kernel_rfl) ?_
     refine cW_exit ?_
     refine eX_then_exit ?_
     refine eX_block_hit ?_
     refine eX_then ?_
     refine cW_region ?_
     refine wS_pure 2 [(80, .int .i64 (wr (x13 + 1))), (165, .int .i64 (wr (x13 + 1)))] (by kernel_rfl) ?_
     refine wS_end (by rfl) ?_
     have hq : (some (Ctl.next ((wr (x13 + 1), l7))) : Option (Ctl (Int × (List (Int))) ((List (Int))))) = some _ := hm
     replace hq := someE hq
     subst hq
     exact eX_next hx13 (fun hst => ⟨wr (x13 + 1), l7, rfl, Fr.of hst (by kernel_rfl), F58, F59, F60, F61, F62, F63, F64, F65, F66, hB, hZ⟩)
    ·have hm := condF hb7 hm
     rewrite [hb7]
     refine wS_pure 2 [(98, .int .i64 (x14)), (97, .slice A2 (y2).length cap2)] (by kernel_rfl) ?_
     obtain ⟨y4, hy4, hm⟩ := bindE hm
     refine wS_calls (d := 99) (f := 86) (vs := [.slice A2 (y2).length cap2, .int .i64 (x14)]) (by kernel_rfl) ent86 (c_slices_Contains_int64_int64 hy4 (F63.sl encI_ok)) ?_
     rintro _ w16 ⟨rfl, hc12⟩
     replace F58 := F58.chg hc12 Dj.nil
     replace F59 := F59.chg hc12 Dj.nil
     replace F60 := F60.chg hc12 notNil
     replace F61 := F61.chg hc12 notNil
     replace F62 := F62.chg hc12 Dj.nil
     replace F63 := F63.chg hc12 Dj.nil
     replace F64 := F64.chg hc12 Dj.nil
     replace F65 := F65.chg hc12 Dj.nil
     replace F66 := F66.chg hc12 notNil
     replace hB := hB.inS hc12 inNil
     replace hZ := Nat.le_trans hZ hc12.size
     refine ⟨.bool (y4), rfl, ?_⟩
     refine wS_pure 3 [(102, .bool (!y4)), (101, .bool (!y4)), (100, .bool (!y4))] (by kernel_rfl) ?_
     refine wS_bool (!y4) (fun hb8 => ?_) (fun hb8 => ?_)
     ·have hm := condT hb8 hm
      rewrite [hb8]
      refine wS_pure 5 [(107, .bool (true)), (106, undef), (105, undef), (104, undef), (103, undef)] (by kernel_rfl) ?_
      refine wS_end (by rfl) ?_
      refine eX_then ?_
      refine cW_prune [(0, .pointer (some ⟨b0, 0, none⟩)), (2, .pointer (some ⟨b1, 0, none⟩)), (3, .slice A1 (y1).length cap1), (4, .slice A2 (y2).length cap2), (5, .pointer (some ⟨b2, 0, none⟩)), (11, .int .i64 (x14)), (12, .int .i64 (x15)), (13, .int .i64 (x13)), (78, .slice A0_0 (l0_0).length cap0_0), (79, .int .i64 (((l0_0).length : Int))), (80, .int .i64 (x13)), (107, .bool (true))] (by kernel_rfl) (by kernel_rfl) (fun a6 => ?_)
      refine cW_cond_t (by kernel_rfl) ?_
      refine cW_exit ?_
      refine eX_then_exit ?_
      refine eX_block_hit ?_
      refine eX_then ?_
      refine cW_region ?_
      refine wS_pure 2 [(80, .int .i64 (wr (x13 + 1))), (165, .int .i64 (wr (x13 + 1)))] (by kernel_rfl) ?_
      refine wS_end (by rfl) ?_
      have hq : (some (Ctl.next ((wr (x13 + 1), l7))) : Option (Ctl (Int × (List (Int))) ((List (Int))))) = some _ := hm
      replace hq := someE hq
      subst hq
      exact eX_next hx13 (fun hst => ⟨wr (x13 + 1), l7, rfl, Fr.of hst (by kernel_rfl), F58, F59, F60, F61, F62, F63, F64, F65, F66, hB, hZ⟩)
     ·have hm := condF hb8 hm
      rewrite [hb8]
      refine wS_pure 2 [(104, .int .i64 (x15)), (103, .slice A2 (y2).length cap2)] (by kernel_rfl) ?_
      obtain ⟨y5, hy5, hm⟩ := bindE hm
      refine wS_calls (d := 105) (f := 86) (vs := [.slice A2 (y2).length cap2, .int .i64 (x15)]) (by kernel_rfl) ent86 (c_slices_Contains_int64_int64 hy5 (F63.sl encI_ok)) ?_
      rintro _ w17 ⟨rfl, hc13⟩
      replace F58 := F58.chg hc13 Dj.nil
      replace F59 := F59.chg hc13 Dj.nil
      replace F60 := F60.chg hc13 notNil
      replace F61 := F61.chg hc13 notNil
      replace F62 := F62.chg hc13 Dj.nil
      replace F63 := F63.chg hc13 Dj.nil
      replace F64 := F64.chg hc13 Dj.nil
      replace F65 := F65.chg hc13 Dj.nil
      replace F66 := F66.chg hc13 notNil
      replace hB := hB.inS hc13 inNil
      replace hZ := Nat.le_trans hZ hc13.size
      refine ⟨.bool (y5), rfl, ?_⟩
      refine wS_pure 2 [(107, .bool (!y5)), (106, .bool (!y5))] (by kernel_rfl) ?_
      refine wS_end (by rfl) ?_
      refine eX_then ?_
      refine cW_prune [(0, .pointer (some ⟨b0, 0, none⟩)), (2, .pointer (some ⟨b1, 0, none⟩)), (3, .slice A1 (y1).length cap1), (4, .slice A2 (y2).length cap2), (5, .pointer (some ⟨b2, 0, none⟩)), (11, .int .i64 (x14)), (12, .int .i64 (x15)), (13, .int .i64 (x13)), (78, .slice A0_0 (l0_0).length cap0_0), (79, .int .i64 (((l0_0).length : Int))), (80, .int .i64 (x13)), (107, .bool (!y5))] (by kernel_rfl) (by kernel_rfl) (fun a7 => ?_)
      refine cW_cond (t := !y5) (by kernel_rfl) (fun hb9 => ?_) (fun hb9 => ?_)
      ·have hm := condT hb9 hm
       refine cW_exit ?_
       refine eX_then_exit ?_
       refine eX_block_hit ?_
       refine eX_then ?_
       refine cW_region ?_
       refine wS_pure 2 [(80, .int .i64 (wr (x13 + 1))), (165, .int .i64 (wr (x13 + 1)))] (by kernel_rfl) ?_
       refine wS_end (by rfl) ?_
       have hq : (some (Ctl.next ((wr (x13 + 1), l7))) : Option (Ctl (Int × (List (Int))) ((List (Int))))) = some _ := hm
       replace hq := someE hq
       subst hq
       exact eX_next hx13 (fun hst => ⟨wr (x13 + 1), l7, rfl, Fr.of hst (by kernel_rfl), F58, F59, F60, F61, F62, F63, F64, F65, F66, hB, hZ⟩)
      ·have hm := condF hb9 hm
       refine cW_skip ?_
       refine eX_then ?_
       refine cW_seq ?_
       refine cW_region ?_
       refine wS_pure 3 [(110, .int .i64 (0)), (109, .int .i64 (((y1).length : Int))), (108, .slice A1 (y1).length cap1)] (by kernel_rfl) ?_
       refine wS_end (by rfl) ?_
       refine eX_then ?_
       obtain ⟨r4, hr6, hm⟩ := bindE hm
       have hm4 := hm
       refine cW_cut (fun a' w' => ∃ l8 : List (Int), l8 = r4 ∧ Fr 167 [(0, .pointer (some ⟨b0, 0, none⟩)), (2, .pointer (some ⟨b1, 0, none⟩)), (3, .slice A1 (y1).length cap1), (4, .slice A2 (y2).length cap2), (5, .pointer (some ⟨b2, 0, none⟩)), (78, .slice A0_0 (l0_0).length cap0_0), (79, .int .i64 (((l0_0).length : Int))), (80, .int .i64 (x13))] a' ∧ Sl 1 encI w' fp0_0 A0_0 l0_0 ∧ Sl 1 encI w' fp0_1 A0_1 l0_1 ∧ Cl w' b0 26 [.slice A0_0 (l0_0).length cap0_0, .slice A0_1 (l0_1).length cap0_1] ∧ Cl w' b1 58 [.slice none 0 0, .slice none 0 0] ∧ OwR 1 encI 24 2 w' fp1 fr1 A1 cap1 y1 ∧ Ow 1 encI 2 w' fp2 A2 cap2 y2 ∧ Ow 1 encI 3 w' fp3 A3 cap3 l1 ∧ Ow 1 encI 3 w' fp4 A4 cap4 l8 ∧ Cl w' b2 58 [.slice A3 (l1).length cap3, .slice A4 (l8).length cap4] ∧ Chg [] w0 w' ∧ w0.heap.size ≤ w'.heap.size) ?_ ?_
       ·refine cW_block ?_
        refine cW_loop _ (fun (s5 : Int × (List (Int))) a' w' => ∃ x16 : Int, ∃ l9 : List (Int), (x16, l9) = s5 ∧ Fr 167 [(0, .pointer (some ⟨b0, 0, none⟩)), (2, .pointer (some ⟨b1, 0, none⟩)), (3, .slice A1 (y1).length cap1), (4, .slice A2 (y2).length cap2), (5, .pointer (some ⟨b2, 0, none⟩)), (11, .int .i64 (x14)), (12, .int .i64 (x15)), (13, .int .i64 (x13)), (78, .slice A0_0 (l0_0).length cap0_0), (79, .int .i64 (((l0_0).length : Int))), (80, .int .i64 (x13)), (108, .slice A1 (y1).length cap1), (109, .int .i64 (((y1).length : Int))), (110, .int .i64 (x16))] a' ∧ Sl 1 encI w' fp0_0 A0_0 l0_0 ∧ Sl 1 encI w' fp0_1 A0_1 l0_1 ∧ Cl w' b0 26 [.slice A0_0 (l0_0).length cap0_0, .slice A0_1 (l0_1).length cap0_1] ∧ Cl w' b1 58 [.slice none 0 0, .slice none 0 0] ∧ OwR 1 encI 24 2 w' fp1 fr1 A1 cap1 y1 ∧ Ow 1 encI 2 w' fp2 A2 cap2 y2 ∧ Ow 1 encI 3 w' fp3 A3 cap3 l1 ∧ Ow 1 encI 3 w' fp4 A4 cap4 l9 ∧ Cl w' b2 58 [.slice A3 (l1).length cap3, .slice A4 (l9).length cap4] ∧ Chg [] w0 w' ∧ w0.heap.size ≤ w'.heap.size) hr6 (fun hst => ⟨0, l7, rfl, Fr.of hst (by kernel_rfl), F58, F59, F60, F61, F62, F63, F64, F65, F66, hB, hZ⟩) ?_
        rintro _ c4 a' w18 ⟨x16, l9, rfl, hF7, F67, F68, F69, F70, F71, F72, F73, F74, F75, hB, hZ⟩ hx16
        refine Fr.goOn hF7 (by kernel_rfl) ?_
        have hm := hx16
        unfold m_impl_Channel_pieceOrder_bimplChannel_s16 at hm
        refine cW_seq ?_
        refine cW_region ?_
        refine wS_pure 1 [(111, .bool (decide (x16 < (((y1).length : Int)))))] (by kernel_rfl) ?_
        refine wS_end (by rfl) ?_
        refine eX_then ?_
        refine cW_seq ?_
        refine cW_cond (t := decide (x16 < (((y1).length : Int)))) (by kernel_rfl) (fun hb10 => ?_) (fun hb10 => ?_)
        ·have hm := condT hb10 hm
         refine cW_skip ?_
         refine eX_then ?_
         refine cW_seq ?_
         refine cW_block ?_
         refine cW_seq ?_
         refine cW_region ?_
         refine wS_pure 1 [(112, .int .i64 (x16))] (by kernel_rfl) ?_
         obtain ⟨x17, hx17, hm⟩ := bindE hm
         refine wS_idx (d := 113) (T := 28) (A := A1) (n := (y1).length) (cap := cap1) (kd := .i64) (m := x16) (by kernel_rfl) sl28 ((F71.slr encI_ok).is hx17) ?_
         obtain ⟨A7, cap7, hc14, F76, K3⟩ := OwR.row F71 encI_ok hx17
         have G9 := low_inr G2
         have Dm3 := (F71.dj).symm
         refine wS_load1 (d := 114) (T := 24) (ad := (elA A1 1 (x16) 0)) (v := .slice A7 (x17).length cap7) (by kernel_rfl) vt24 hc14 ?_
         refine wS_pure 2 [(15, .slice A7 (x17).length cap7), (14, .int .i64 (x16))] (by kernel_rfl) ?_
         refine wS_end (by rfl) ?_
         refine eX_then ?_
         refine cW_seq ?_
         refine cW_region ?_
         refine wS_pure 3 [(117, .int .i64 (0)), (116, .int .i64 (((y1).length : Int))), (115, .slice A1 (y1).length cap1)] (by kernel_rfl) ?_
         refine wS_end (by rfl) ?_
         refine eX_then ?_
         obtain ⟨r5, hr7, hm⟩ := bindE hm
         have hm5 := hm
         refine cW_cut (fun a' w' => ∃ l10 : List (Int), l10 = r5 ∧ Fr 167 [(0, .pointer (some ⟨b0, 0, none⟩)), (2, .pointer (some ⟨b1, 0, none⟩)), (3, .slice A1 (y1).length cap1), (4, .slice A2 (y2).length cap2), (5, .pointer (some ⟨b2, 0, none⟩)), (11, .int .i64 (x14)), (12, .int .i64 (x15)), (13, .int .i64 (x13)), (78, .slice A0_0 (l0_0).length cap0_0), (79, .int .i64 (((l0_0).length : Int))), (80, .int .i64 (x13)), (108, .slice A1 (y1).length cap1), (109, .int .i64 (((y1).length : Int))), (110, .int .i64 (x16))] a' ∧ Sl 1 encI w' fp0_0 A0_0 l0_0 ∧ Sl 1 encI w' fp0_1 A0_1 l0_1 ∧ Cl w' b0 26 [.slice A0_0 (l0_0).length cap0_0, .slice A0_1 (l0_1).length cap0_1] ∧ Cl w' b1 58 [.slice none 0 0, .slice none 0 0] ∧ OwR 1 encI 24 2 w' fp1 fr1 A1 cap1 y1 ∧ Ow 1 encI 2 w' fp2 A2 cap2 y2 ∧ Ow 1 encI 3 w' fp3 A3 cap3 l1 ∧ Ow 1 encI 3 w' fp4 A4 cap4 l10 ∧ Cl w' b2 58 [.slice A3 (l1).length cap3, .slice A4 (l10).length cap4] ∧ Chg [] w0 w' ∧ w0.heap.size ≤ w'.heap.size) ?_ ?_
         ·refine cW_block ?_
          refine cW_loop _ (fun (s6 : Int × (List (Int))) a' w' => ∃ x18 : Int, ∃ l11 : List (Int), (x18, l11) = s6 ∧ Fr 167 [(0, .pointer (some ⟨b0, 0, none⟩)), (2, .pointer (some ⟨b1, 0, none⟩)), (3, .slice A1 (y1).length cap1), (4, .slice A2 (y2).length cap2), (5, .pointer (some ⟨b2, 0, none⟩)), (11, .int .i64 (x14)), (12, .int .i64 (x15)), (13, .int .i64 (x13)), (14, .int .i64 (x16)), (15, .slice A7 (x17).length cap7), (78, .slice A0_0 (l0_0).length cap0_0), (79, .int .i64 (((l0_0).length : Int))), (80, .int .i64 (x13)), (108, .slice A1 (y1).length cap1), (109, .int .i64 (((y1).length : Int))), (110, .int .i64 (x16)), (115, .slice A1 (y1).length cap1), (116, .int .i64 (((y1).length : Int))), (117, .int .i64 (x18))] a' ∧ Sl 1 encI w' fp0_0 A0_0 l0_0 ∧ Sl 1 encI w' fp0_1 A0_1 l0_1 ∧ Cl w' b0 26 [.slice A0_0 (l0_0).length cap0_0, .slice A0_1 (l0_1).length cap0_1] ∧ Cl w' b1 58 [.slice none 0 0, .slice none 0 0] ∧ OwR 1 encI 24 2 w' fp1 fr1 A1 cap1 y1 ∧ Ow 1 encI 2 w' fp2 A2 cap2 y2 ∧ Ow 1 encI 3 w' fp3 A3 cap3 l1 ∧ Ow 1 encI 3 w' fp4 A4 cap4 l11 ∧ Cl w' b2 58 [.slice A3 (l1).length cap3, .slice A4 (l11).length cap4] ∧ Sl 1 encI w' fr1 A7 x17 ∧ Chg [] w0 w' ∧ w0.heap.size ≤ w'.heap.size) hr7 (fun hst => ⟨0, l9, rfl, Fr.of hst (by kernel_rfl), F67, F68, F69, F70, F71, F72, F73, F74, F75, F76, hB, hZ⟩) ?_
          rintro _ c5 a' w19 ⟨x18, l11, rfl, hF8, F77, F78, F79, F80, F81, F82, F83, F84, F85, F86, hB, hZ⟩ hx18
          refine Fr.goOn hF8 (by kernel_rfl) ?_
          have hm := hx18
          unfold m_impl_Channel_pieceOrder_bimplChannel_s17 at hm
          refine cW_seq ?_
          refine cW_region ?_
          refine wS_pure 1 [(118, .bool (decide (x18 < (((y1).length : Int)))))] (by kernel_rfl) ?_
          refine wS_end (by rfl) ?_
          refine eX_then ?_
          refine cW_seq ?_
          refine cW_cond (t := decide (x18 < (((y1).length : Int)))) (by kernel_rfl) (fun hb11 => ?_) (fun hb11 => ?_)
          ·have hm := condT hb11 hm
           refine cW_skip ?_
           refine eX_then ?_
           refine cW_seq ?_
           refine cW_block ?_
           obtain ⟨s7, hs2, hm⟩ := bindE hm
           refine cW_cut (fun a' w' => ∃ l12 : List (Int), l12 = s7 ∧ Fr 167 [(0, .pointer (some ⟨b0, 0, none⟩)), (2, .pointer (some ⟨b1, 0, none⟩)), (3, .slice A1 (y1).length cap1), (4, .slice A2 (y2).length cap2), (5, .pointer (some ⟨b2, 0, none⟩)), (11, .int .i64 (x14)), (12, .int .i64 (x15)), (13, .int .i64 (x13)), (14, .int .i64 (x16)), (15, .slice A7 (x17).length cap7), (78, .slice A0_0 (l0_0).length cap0_0), (79, .int .i64 (((l0_0).length : Int))), (80, .int .i64 (x13)), (108, .slice A1 (y1).length cap1), (109, .int .i64 (((y1).length : Int))), (110, .int .i64 (x16)), (115, .slice A1 (y1).length cap1), (116, .int .i64 (((y1).length : Int))), (117, .int .i64 (x18))] a' ∧ Sl 1 encI w' fp0_0 A0_0 l0_0 ∧ Sl 1 encI w' fp0_1 A0_1 l0_1 ∧ Cl w' b0 26 [.slice A0_0 (l0_0).length cap0_0, .slice A0_1 (l0_1).length cap0_1] ∧ Cl w' b1 58 [.slice none 0 0, .slice none 0 0] ∧ OwR 1 encI 24 2 w' fp1 fr1 A1 cap1 y1 ∧ Ow 1 encI 2 w' fp2 A2 cap2 y2 ∧ Ow 1 encI 3 w' fp3 A3 cap3 l1 ∧ Ow 1 encI 3 w' fp4 A4 cap4 l12 ∧ Cl w' b2 58 [.slice A3 (l1).length cap3, .slice A4 (l12).length cap4] ∧ Sl 1 encI w' fr1 A7 x17 ∧ Chg [] w0 w' ∧ w0.heap.size ≤ w'.heap.size) ?_ ?_
           ·have hm := hs2
            refine cW_seq ?_
            refine cW_region ?_
            refine wS_pure 1 [(119, .int .i64 (x18))] (by kernel_rfl) ?_
            obtain ⟨x19, hx19, hm⟩ := bindE hm
            refine wS_idx (d := 120) (T := 28) (A := A1) (n := (y1).length) (cap := cap1) (kd := .i64) (m := x18) (by kernel_rfl) sl28 ((F81.slr encI_ok).is hx19) ?_
            obtain ⟨A8, cap8, hc15, F87, K4⟩ := OwR.row F81 encI_ok hx19
            have G10 := low_inr G2
            have Dm4 := (F81.dj).symm
            refine wS_load1 (d := 121) (T := 24) (ad := (elA A1 1 (x18) 0)) (v := .slice A8 (x19).length cap8) (by kernel_rfl) vt24 hc15 ?_
            refine wS_pure 2 [(17, .slice A8 (x19).length cap8), (16, .int .i64 (x18))] (by kernel_rfl) ?_
            refine wS_end (by rfl) ?_
            refine eX_then ?_
            refine cW_prune [(0, .pointer (some ⟨b0, 0, none⟩)), (2, .pointer (some ⟨b1, 0, none⟩)), (3, .slice A1 (y1).length cap1), (4, .slice A2 (y2).length cap2), (5, .pointer (some ⟨b2, 0, none⟩)), (11, .int .i64 (x14)), (12, .int .i64 (x15)), (13, .int .i64 (x13)), (14, .int .i64 (x16)), (15, .slice A7 (x17).length cap7), (16, .int .i64 (x18)), (17, .slice A8 (x19).length cap8), (78, .slice A0_0 (l0_0).length cap0_0), (79, .int .i64 (((l0_0).length : Int))), (80, .int .i64 (x13)), (108, .slice A1 (y1).length cap1), (109, .int .i64 (((y1).length : Int))), (110, .int .i64 (x16)), (115, .slice A1 (y1).length cap1), (116, .int .i64 (((y1).length : Int))), (117, .int .i64 (x18))] (by kernel_rfl) (by kernel_rfl) (fun a8 => ?_)
            refine cW_seq ?_
            refine cW_drawnTail [] 30 (by kernel_rfl) (by kernel_rfl) (fun w20 hc16 => ?_)
            replace F77 := F77.chg hc16 Dj.nil
            replace F78 := F78.chg hc16 Dj.nil
            replace F79 := F79.chg hc16 notNil
            replace F80 := F80.chg hc16 notNil
            replace F81 := F81.chg hc16 Dj.nil
            replace F82 := F82.chg hc16 Dj.nil
            replace F83 := F83.chg hc16 Dj.nil
            replace F84 := F84.chg hc16 Dj.nil
            replace F85 := F85.chg hc16 notNil
            replace F86 := F86.chg hc16 Dj.nil
            replace F87 := F87.chg hc16 Dj.nil
            replace hB := hB.inS hc16 inNil
            replace hZ := Nat.le_trans hZ hc16.size
            have hS := Chg.refl [] w20
            have Z23 := F77
            have Z24 := F78
            have Z25 := F79
            have Z26 := F80
            have Z27 := F81
            have Z28 := F82
            have Z29 := F83
            have Z30 := F84
            have Z31 := F85
            have Z32 := F86
            have Z33 := F87
            refine wH_take [0] [0] [(122, .slice A7 (x17).length cap7)] (by kernel_rfl) (qT (qT (qT (qB (qT (qL (qB (qT (qB (qT (qL (qB (qT (qB (qT (qL (qB (qT (qT qZ))))))))))))))))))) (by kernel_rfl) ?_
            obtain ⟨x20, hx20, hm⟩ := bindE hm
            refine wH_idx (i := 1) (d := 123) (T := 24) (A := A7) (n := (x17).length) (cap := cap7) (kd := .i64) (m := 0) (by kernel_rfl) (qT (qT (qT (qB (qT (qL (qB (qT (qB (qT (qL (qB (qT (qB (qT (qL (qB (qT (qT qZ))))))))))))))))))) (by kernel_rfl) (by kernel_rfl) sl24 (F86.is hx20) ?_
            refine wH_load1 (i := 2) (d := 124) (T := 2) (ad := (elA A7 1 (0) 0)) (v := .int .i64 (x20)) (by kernel_rfl) (qT (qT (qT (qB (qT (qL (qB (qT (qB (qT (qL (qB (qT (qB (qT (qL (qB (qT (qT qZ))))))))))))))))))) (by kernel_rfl) (by kernel_rfl) vt2 (fun W hW => Sl.cell (Z32.chg hW Dj.nil) hx20 0 (by rfl)) ?_
            refine wH_take [3, 4, 5] [5, 4, 3, 2, 1, 0] [(127, .bool (x20 == x14)), (126, .bool (x20 == x14)), (125, .int .i64 (x14))] (by kernel_rfl) (qT (qT (qT (qB (qT (qL (qB (qT (qB (qT (qL (qB (qT (qB (qT (qL (qB (qT (qT qZ))))))))))))))))))) (by kernel_rfl) ?_
            refine wH_bool (x20 == x14) (fun hb12 => ?_) (fun hb12 => ?_)
            ·have hm := condT hb12 hm
             rewrite [hb12]
             refine wH_take [6] [6, 5, 4, 3, 2, 1, 0] [(128, .slice A8 (x19).length cap8)] (by kernel_rfl) (qT (qT (qT (qB (qT (qL (qB (qT (qB (qT (qL (qB (qT (qB (qT (qL (qB (qT (qT qZ))))))))))))))))))) (by kernel_rfl) ?_
             obtain ⟨x21, hx21, hm⟩ := bindE hm
             refine wH_idx (i := 7) (d := 129) (T := 24) (A := A8) (n := (x19).length) (cap := cap8) (kd := .i64) (m := 0) (by kernel_rfl) (qT (qT (qT (qB (qT (qL (qB (qT (qB (qT (qL (qB (qT (qB (qT (qL (qB (qT (qT qZ))))))))))))))))))) (by kernel_rfl) (by kernel_rfl) sl24 (F87.is hx21) ?_
             refine wH_load1 (i := 8) (d := 130) (T := 2) (ad := (elA A8 1 (0) 0)) (v := .int .i64 (x21)) (by kernel_rfl) (qT (qT (qT (qB (qT (qL (qB (qT (qB (qT (qL (qB (qT (qB (qT (qL (qB (qT (qT qZ))))))))))))))))))) (by kernel_rfl) (by kernel_rfl) vt2 (fun W hW => Sl.cell (Z33.chg hW Dj.nil) hx21 0 (by rfl)) ?_
             refine wH_take [9, 10, 11, 12] [12, 11, 10, 9, 8, 7, 6, 5, 4, 3, 2, 1, 0] [(134, .bool (x21 == x15)), (133, .bool (x21 == x15)), (132, .bool (x21 == x15)), (131, .int .i64 (x15))] (by kernel_rfl) (qT (qT (qT (qB (qT (qL (qB (qT (qB (qT (qL (qB (qT (qB (qT (qL (qB (qT (qT qZ))))))))))))))))))) (by kernel_rfl) ?_
             refine wH_bool (x21 == x15) (fun hb13 => ?_) (fun hb13 => ?_)
             ·have hm := condT hb13 hm
              rewrite [hb13]
              refine wH_take [13, 14] [14, 13, 12, 11, 10, 9, 8, 7, 6, 5, 4, 3, 2, 1, 0] [(136, .slice A7 (x17).length cap7), (135, .int .i64 (x13))] (by kernel_rfl) (qT (qT (qT (qB (qT (qL (qB (qT (qB (qT (qL (qB (qT (qB (qT (qL (qB (qT (qT qZ))))))))))))))))))) (by kernel_rfl) ?_
              obtain ⟨x22, hx22, hm⟩ := bindE hm
              refine wH_idx (i := 15) (d := 137) (T := 24) (A := A7) (n := (x17).length) (cap := cap7) (kd := .i64) (m := 1) (by kernel_rfl) (qT (qT (qT (qB (qT (qL (qB (qT (qB (qT (qL (qB (qT (qB (qT (qL (qB (qT (qT qZ))))))))))))))))))) (by kernel_rfl) (by kernel_rfl) sl24 (F86.is hx22) ?_
              refine wH_load1 (i := 16) (d := 138) (T := 2) (ad := (elA A7 1 (1) 0)) (v := .int .i64 (x22)) (by kernel_rfl) (qT (qT (qT (qB (qT (qL (qB (qT (qB (qT (qL (qB (qT (qB (qT (qL (qB (qT (qT qZ))))))))))))))))))) (by kernel_rfl) (by kernel_rfl) vt2 (fun W hW => Sl.cell (Z32.chg hW Dj.nil) hx22 0 (by rfl)) ?_
              refine wH_take [17] [17, 16, 15, 14, 13, 12, 11, 10, 9, 8, 7, 6, 5, 4, 3, 2, 1, 0] [(139, .slice A7 (x17).length cap7)] (by kernel_rfl) (qT (qT (qT (qB (qT (qL (qB (qT (qB (qT (qL (qB (qT (qB (qT (qL (qB (qT (qT qZ))))))))))))))))))) (by kernel_rfl) ?_
              obtain ⟨x23, hx23, hm⟩ := bindE hm
              refine wH_idx (i := 18) (d := 140) (T := 24) (A := A7) (n := (x17).length) (cap := cap7) (kd := .i64) (m := 2) (by kernel_rfl) (qT (qT (qT (qB (qT (qL (qB (qT (qB (qT (qL (qB (qT (qB (qT (qL (qB (qT (qT qZ))))))))))))))))))) (by kernel_rfl) (by kernel_rfl) sl24 (F86.is hx23) ?_
              refine wH_load1 (i := 19) (d := 141) (T := 2) (ad := (elA A7 1 (2) 0)) (v := .int .i64 (x23)) (by kernel_rfl) (qT (qT (qT (qB (qT (qL (qB (qT (qB (qT (qL (qB (qT (qB (qT (qL (qB (qT (qT qZ))))))))))))))))))) (by kernel_rfl) (by kernel_rfl) vt2 (fun W hW => Sl.cell (Z32.chg hW Dj.nil) hx23 0 (by rfl)) ?_
              refine wH_all [20] (by rfl) (by kernel_rfl) (by simp) ⟨⟨by kernel_rfl, ?_⟩, trivial⟩
              obtain ⟨y6, hy6, hm⟩ := bindE hm
              refine wS_calls (d := 142) (f := 75) (vs := [.int .i64 (x13), .int .i64 (x22), .int .i64 (x23)]) (by kernel_rfl) ent75 (c_impl_in hy6) ?_
              rintro _ w21 ⟨rfl, hc17⟩
              replace F77 := F77.chg hc17 Dj.nil
              replace F78 := F78.chg hc17 Dj.nil
              replace F79 := F79.chg hc17 notNil
              replace F80 := F80.chg hc17 notNil
              replace F81 := F81.chg hc17 Dj.nil
              replace F82 := F82.chg hc17 Dj.nil
              replace F83 := F83.chg hc17 Dj.nil
              replace F84 := F84.chg hc17 Dj.nil
              replace F85 := F85.chg hc17 notNil
              replace F86 := F86.chg hc17 Dj.nil
              replace F87 := F87.chg hc17 Dj.nil
              replace hB := hB.inS hc17 inNil
              have hSz := hS
              replace hS := hS.inS hc17 inNil
              replace hZ := Nat.le_trans hZ hc17.size
              refine ⟨.bool (y6), rfl, ?_⟩
              refine wS_end (by kernel_rfl) ?_
              refine eX_KH hS ?_
              refine wH_take [21, 22] [22, 21, 20, 19, 18, 17, 16, 15, 14, 13, 12, 11, 10, 9, 8, 7, 6, 5, 4, 3, 2, 1, 0] [(144, .bool (y6)), (143, .bool (y6))] (by kernel_rfl) (qT (qT (qT (qB (qT (qL (qB (qT (qB (qT (qL (qB (qT (qB (qT (qL (qB (qT (qT qZ))))))))))))))))))) (by kernel_rfl) ?_
              refine wH_bool y6 (fun hb14 => ?_) (fun hb14 => ?_)
              ·have hm := condT hb14 hm
               rewrite [hb14]
               refine wH_take [23, 24] [24, 23, 22, 21, 20, 19, 18, 17, 16, 15, 14, 13, 12, 11, 10, 9, 8, 7, 6, 5, 4, 3, 2, 1, 0] [(146, .slice A8 (x19).length cap8), (145, .int .i64 (x13))] (by kernel_rfl) (qT (qT (qT (qB (qT (qL (qB (qT (qB (qT (qL (qB (qT (qB (qT (qL (qB (qT (qT qZ))))))))))))))))))) (by kernel_rfl) ?_
               obtain ⟨x24, hx24, hm⟩ := bindE hm
               refine wH_idx (i := 25) (d := 147) (T := 24) (A := A8) (n := (x19).length) (cap := cap8) (kd := .i64) (m := 1) (by kernel_rfl) (qT (qT (qT (qB (qT (qL (qB (qT (qB (qT (qL (qB (qT (qB (qT (qL (qB (qT (qT qZ))))))))))))))))))) (by kernel_rfl) (by kernel_rfl) sl24 (F87.is hx24) ?_
               refine wH_load1 (i := 26) (d := 148) (T := 2) (ad := (elA A8 1 (1) 0)) (v := .int .i64 (x24)) (by kernel_rfl) (qT (qT (qT (qB (qT (qL (qB (qT (qB (qT (qL (qB (qT (qB (qT (qL (qB (qT (qT qZ))))))))))))))))))) (by kernel_rfl) (by kernel_rfl) vt2 (fun W hW => Sl.cell (Z33.chg hW Dj.nil) hx24 0 (by rfl)) ?_
               refine wH_take [27] [27, 26, 25, 24, 23, 22, 21, 20, 19, 18, 17, 16, 15, 14, 13, 12, 11, 10, 9, 8, 7, 6, 5, 4, 3, 2, 1, 0] [(149, .slice A8 (x19).length cap8)] (by kernel_rfl) (qT (qT (qT (qB (qT (qL (qB (qT (qB (qT (qL (qB (qT (qB (qT (qL (qB (qT (qT qZ))))))))))))))))))) (by kernel_rfl) ?_
               obtain ⟨x25, hx25, hm⟩ := bindE hm
               refine wH_idx (i := 28) (d := 150) (T := 24) (A := A8) (n := (x19).length) (cap := cap8) (kd := .i64) (m := 2) (by kernel_rfl) (qT (qT (qT (qB (qT (qL (qB (qT (qB (qT (qL (qB (qT (qB (qT (qL (qB (qT (qT qZ))))))))))))))))))) (by kernel_rfl) (by kernel_rfl) sl24 (F87.is hx25) ?_
               refine wH_load1 (i := 29) (d := 151) (T := 2) (ad := (elA A8 1 (2) 0)) (v := .int .i64 (x25)) (by kernel_rfl) (qT (qT (qT (qB (qT (qL (qB (qT (qB (qT (qL (qB (qT (qB (qT (qL (qB (qT (qT qZ))))))))))))))))))) (by kernel_rfl) (by kernel_rfl) vt2 (fun W hW => Sl.cell (Z33.chg hW Dj.nil) hx25 0 (by rfl)) ?_
               refine wH_done (by kernel_rfl) ?_
               refine eX_tail ?_
               obtain ⟨y7, hy7, hm⟩ := bindE hm
               refine wS_calls (d := 152) (f := 75) (vs := [.int .i64 (x13), .int .i64 (x24), .int .i64 (x25)]) (by kernel_rfl) ent75 (c_impl_in hy7) ?_
               rintro _ w22 ⟨rfl, hc18⟩
               replace F77 := F77.chg hc18 Dj.nil
               replace F78 := F78.chg hc18 Dj.nil
               replace F79 := F79.chg hc18 notNil
               replace F80 := F80.chg hc18 notNil
               replace F81 := F81.chg hc18 Dj.nil
               replace F82 := F82.chg hc18 Dj.nil
               replace F83 := F83.chg hc18 Dj.nil
               replace F84 := F84.chg hc18 Dj.nil
               replace F85 := F85.chg hc18 notNil
               replace F86 := F86.chg hc18 Dj.nil
               replace F87 := F87.chg hc18 Dj.nil
               replace hB := hB.inS hc18 inNil
               replace hZ := Nat.le_trans hZ hc18.size
               refine ⟨.bool (y7), rfl, ?_⟩
               refine wS_pure 1 [(153, .bool (y7))] (by kernel_rfl) ?_
               refine wS_end (by rfl) ?_
               refine eX_then ?_
               refine cW_prune [(0, .pointer (some ⟨b0, 0, none⟩)), (2, .pointer (some ⟨b1, 0, none⟩)), (3, .slice A1 (y1).length cap1), (4, .slice A2 (y2).length cap2), (5, .pointer (some ⟨b2, 0, none⟩)), (11, .int .i64 (x14)), (12, .int .i64 (x15)), (13, .int .i64 (x13)), (14, .int .i64 (x16)), (15, .slice A7 (x17).length cap7), (16, .int .i64 (x18)), (78, .slice A0_0 (l0_0).length cap0_0), (79, .int .i64 (((l0_0).length : Int))), (80, .int .i64 (x13)), (108, .slice A1 (y1).length cap1), (109, .int .i64 (((y1).length : Int))), (110, .int .i64 (x16)), (115, .slice A1 (y1).length cap1), (116, .int .i64 (((y1).length : Int))), (117, .int .i64 (x18)), (153, .bool (y7))] (by kernel_rfl) (by kernel_rfl) (fun a9 => ?_)
               refine cW_cond (t := y7) (by kernel_rfl) (fun hb15 => ?_) (fun hb15 => ?_)
               ·have hm := condT hb15 hm
                refine cW_drawnTail [] 7 (by kernel_rfl) (by kernel_rfl) (fun w23 hc19 => ?_)
                replace F77 := F77.chg hc19 Dj.nil
                replace F78 := F78.chg hc19 Dj.nil
                replace F79 := F79.chg hc19 notNil
                replace F80 := F80.chg hc19 notNil
                replace F81 := F81.chg hc19 Dj.nil
                replace F82 := F82.chg hc19 Dj.nil
                replace F83 := F83.chg hc19 Dj.nil
                replace F84 := F84.chg hc19 Dj.nil
                replace F85 := F85.chg hc19 notNil
                replace F86 := F86.chg hc19 Dj.nil
                replace F87 := F87.chg hc19 Dj.nil
                replace hB := hB.inS hc19 inNil
                replace hZ := Nat.le_trans hZ hc19.size
                have hS := Chg.refl [] w23
                have Z34 := F77
                have Z35 := F78
                have Z36 := F79
                have Z37 := F80
                have Z38 := F81
                have Z39 := F82
                have Z40 := F83
                have Z41 := F84
                have Z42 := F85
                have Z43 := F86
                have Z44 := F87
                refine wH_take [0] [0] [(154, .pointer (some ⟨b2, 1, none⟩))] (by kernel_rfl) (qT (qT (qB (qT (qL (qB (qT (qB (qT (qL (qB (qT (qB (qT (qL (qB (qT (qT qZ)))))))))))))))))) (by kernel_rfl) ?_
                refine wH_load1 (i := 1) (d := 155) (T := 56) (ad := ⟨b2, 1, none⟩) (v := .slice A4 (l11).length cap4) (by kernel_rfl) (qT (qT (qB (qT (qL (qB (qT (qB (qT (qL (qB (qT (qB (qT (qL (qB (qT (qT qZ)))))))))))))))))) (by kernel_rfl) (by kernel_rfl) vt56 (fun W hW => (Z42.chg hW notNil).cell 1) ?_
                refine wH_take [2] [2, 1, 0] [(156, .int .i64 (x18))] (by kernel_rfl) (qT (qT (qB (qT (qL (qB (qT (qB (qT (qL (qB (qT (qB (qT (qL (qB (qT (qT qZ)))))))))))))))))) (by kernel_rfl) ?_
                obtain ⟨x26, hx26, hm⟩ := bindE hm
                refine wH_idx (i := 3) (d := 157) (T := 56) (A := A4) (n := (l11).length) (cap := cap4) (kd := .i64) (m := x18) (by kernel_rfl) (qT (qT (qB (qT (qL (qB (qT (qB (qT (qL (qB (qT (qB (qT (qL (qB (qT (qT qZ)))))))))))))))))) (by kernel_rfl) (by kernel_rfl) sl56 ((F84.sl encI_ok).is hx26) ?_
                refine wH_load1 (i := 4) (d := 158) (T := 3) (ad := (elA A4 1 (x18) 0)) (v := .int .i64 (x26)) (by kernel_rfl) (qT (qT (qB (qT (qL (qB (qT (qB (qT (qL (qB (qT (qB (qT (qL (qB (qT (qT qZ)))))))))))))))))) (by kernel_rfl) (by kernel_rfl) vt3 (fun W hW => Sl.cell ((Z41.chg hW Dj.nil).sl encI_ok) hx26 0 (by rfl)) ?_
                refine wH_take [5] [5, 4, 3, 2, 1, 0] [(159, .int .i64 (x16))] (by kernel_rfl) (qT (qT (qB (qT (qL (qB (qT (qB (qT (qL (qB (qT (qB (qT (qL (qB (qT (qT qZ)))))))))))))))))) (by kernel_rfl) ?_
                obtain ⟨u2, hu2, hm⟩ := bindE hm
                refine wH_shl (i := 6) (d := 160) (x := 1) (y := x16) (yk := .i64) (by kernel_rfl) (qT (qT (qB (qT (qL (qB (qT (qB (qT (qL (qB (qT (qB (qT (qL (qB (qT (qT qZ)))))))))))))))))) (by kernel_rfl) (by kernel_rfl) (p0E hu2) ?_
                refine wH_done (by kernel_rfl) ?_
                refine eX_tail ?_
                refine wS_pure 1 [(161, .int .i64 (orI x26 (shlI 1 x16)))] (by kernel_rfl) ?_
                obtain ⟨x27, hx27, hm⟩ := bindE hm
                refine wS_idx (d := 162) (T := 56) (A := A4) (n := (l11).length) (cap := cap4) (kd := .i64) (m := x18) (by kernel_rfl) sl56 ((F84.sl encI_ok).is hx27) ?_
                refine wS_storeEl (x := x27) (orI x26 (shlI 1 x16)) (T := 3) (U := 3) (cap := cap4) (j := 0) (A := A4) (v := .int .i64 (orI x26 (shlI 1 x16))) (vs := [.int .i64 (orI x26 (shlI 1 x16))]) (m := x18) (by kernel_rfl) (by rfl) sz3 (by rfl) encI_ok F84 hx27 (by simp only [List.length_cons, List.length_nil]; omega) (by rfl) ?_
                intro w24 F88 hc20
                replace F77 := F77.chg hc20 (Dj.of L0_0 G5)
                replace F78 := F78.chg hc20 (Dj.of L0_1 G5)
                replace F79 := F79.chg hc20 (dj1 (Dj.of L0 G5))
                replace F80 := F80.chg hc20 (dj1 D8)
                replace F81 := F81.chg hc20 D9
                replace F82 := F82.chg hc20 D10
                replace F83 := F83.chg hc20 D4
                replace F85 := F85.chg hc20 (dj1 (D15).symm)
                replace F86 := F86.chg hc20 ((Dj.inr (D9).symm)).symm
                replace F87 := F87.chg hc20 ((Dj.inr (D9).symm)).symm
                replace hB := hB.inS hc20 (inLow G5)
                replace hZ := Nat.le_trans hZ hc20.size
                clear F84
                rewrite [show (l11).length = (l11.set (Int.toNat x18) (orI x26 (shlI 1 x16))).length from (List.length_set ..).symm]
                rewrite [show (l11).length = (l11.set (Int.toNat x18) (orI x26 (shlI 1 x16))).length from (List.length_set ..).symm] at F85
                refine wS_end (by rfl) ?_
                have hq : (some (l11.set (Int.toNat x18) (orI x26 (shlI 1 x16))) : Option ((List (Int)))) = some _ := hm
                replace hq := someE hq
                subst hq
                exact eX_J (fun hst => ⟨l11.set (Int.toNat x18) (orI x26 (shlI 1 x16)), rfl, Fr.of hst (by kernel_rfl), F77, F78, F79, F80, F81, F82, F83, F88, F85, F86, hB, hZ⟩)
               ·have hm := condF hb15 hm
                refine cW_skip ?_
                have hq : (some l11 : Option ((List (Int)))) = some _ := hm
                replace hq := someE hq
                subst hq
                exact eX_J (fun hst => ⟨l11, rfl, Fr.of hst (by kernel_rfl), F77, F78, F79, F80, F81, F82, F83, F84, F85, F86, hB, hZ⟩)
              ·have hm := condF hb14 hm
               rewrite [hb14]
               refine wH_take [23, 24, 25, 26, 27, 28, 29] [29, 28, 27, 26, 25, 24, 23, 22, 21, 20, 19, 18, 17, 16, 15, 14, 13, 12, 11, 10, 9, 8, 7, 6, 5, 4, 3, 2, 1, 0] [(151, undef), (150, undef), (149, undef), (148, undef), (147, undef), (146, undef), (145, undef)] (by kernel_rfl) (qT (qT (qT (qB (qT (qL (qB (qT (qB (qT (qL (qB (qT (qB (qT (qL (qB (qT (qT qZ))))))))))))))))))) (by kernel_rfl) ?_
               refine wH_done (by kernel_rfl) ?_
               refine eX_tail ?_
               refine wS_pure 2 [(153, .bool (false)), (152, undef)] (by kernel_rfl) ?_
               refine wS_end (by rfl) ?_
               refine eX_then ?_
               refine cW_prune [(0, .pointer (some ⟨b0, 0, none⟩)), (2, .pointer (some ⟨b1, 0, none⟩)), (3, .slice A1 (y1).length cap1), (4, .slice A2 (y2).length cap2), (5, .pointer (some ⟨b2, 0, none⟩)), (11, .int .i64 (x14)), (12, .int .i64 (x15)), (13, .int .i64 (x13)), (14, .int .i64 (x16)), (15, .slice A7 (x17).length cap7), (16, .int .i64 (x18)), (78, .slice A0_0 (l0_0).length cap0_0), (79, .int .i64 (((l0_0).length : Int))), (80, .int .i64 (x13)), (108, .slice A1 (y1).length cap1), (109, .int .i64 (((y1).length : Int))), (110, .int .i64 (x16)), (115, .slice A1 (y1).length cap1), (116, .int .i64 (((y1).length : Int))), (117, .int .i64 (x18)), (153, .bool (false))] (by kernel_rfl) (by kernel_rfl) (fun a10 => ?_)
               refine cW_cond_f (by kernel_rfl) ?_
               refine cW_skip ?_
               have hq : (some l11 : Option ((List (Int)))) = some _ := hm
               replace hq := someE hq
               subst hq
               exact eX_J (fun hst => ⟨l11, rfl, Fr.of hst (by kernel_rfl), F77, F78, F79, F80, F81, F82, F83, F84, F85, F86, hB, hZ⟩)
             ·have hm := condF hb13 hm
              rewrite [hb13]
              refine wH_take [13, 14, 15, 16, 17, 18, 19, 20, 21, 22, 23, 24, 25, 26, 27, 28, 29] [29, 28, 27, 26, 25, 24, 23, 22, 21, 20, 19, 18, 17, 16, 15, 14, 13, 12, 11, 10, 9, 8, 7, 6, 5, 4, 3, 2, 1, 0] [(151, undef), (150, undef), (149, undef), (148, undef), (147, undef), (146, undef), (145, undef), (144, .bool (false)), (143, .bool (false)), (142, undef), (141, undef), (140, undef), (139, undef), (138, undef), (137, undef), (136, undef), (135, undef)] (by kernel_rfl) (qT (qT (qT (qB (qT (qL (qB (qT (qB (qT (qL (qB (qT (qB (qT (qL (qB (qT (qT qZ))))))))))))))))))) (by kernel_rfl) ?_
              refine wH_done (by kernel_rfl) ?_
              refine eX_tail ?_
              refine wS_pure 2 [(153, .bool (false)), (152, undef)] (by kernel_rfl) ?_
              refine wS_end (by rfl) ?_
              refine eX_then ?_
              refine cW_prune [(0, .pointer (some ⟨b0, 0, none⟩)), (2, .pointer (some ⟨b1, 0, none⟩)), (3, .slice A1 (y1).length cap1), (4, .slice A2 (y2).length cap2), (5, .pointer (some ⟨b2, 0, none⟩)), (11, .int .i64 (x14)), (12, .int .i64 (x15)), (13, .int .i64 (x13)), (14, .int .i64 (x16)), (15, .slice A7 (x17).length cap7), (16, .int .i64 (x18)), (78, .slice A0_0 (l0_0).length cap0_0), (79, .int .i64 (((l0_0).length : Int))), (80, .int .i64 (x13)), (108, .slice A1 (y1).length cap1), (109, .int .i64 (((y1).length : Int))), (110, .int .i64 (x16)), (115, .slice A1 (y1).length cap1), (116, .int .i64 (((y1).length : Int))), (117, .int .i64 (x18)), (153, .bool (false))] (by kernel_rfl) (by kernel_rfl) (fun a11 => ?_)
              refine cW_cond_f (by kernel_rfl) ?_
              refine cW_skip ?_
              have hq : (some l11 : Option ((List (Int)))) = some _ := hm
              replace hq := someE hq
              subst hq
              exact eX_J (fun hst => ⟨l11, rfl, Fr.of hst (by kernel_rfl), F77, F78, F79, F80, F81, F82, F83, F84, F85, F86, hB, hZ⟩)
            ·have hm := condF hb12 hm
             rewrite [hb12]
             refine wH_take [6, 7, 8, 9, 10, 11, 12, 13, 14, 15, 16, 17, 18, 19, 20, 21, 22, 23, 24, 25, 26, 27, 28, 29] [29, 28, 27, 26, 25, 24, 23, 22, 21, 20, 19, 18, 17, 16, 15, 14, 13, 12, 11, 10, 9, 8, 7, 6, 5, 4, 3, 2, 1, 0] [(151, undef), (150, undef), (149, undef), (148, undef), (147, undef), (146, undef), (145, undef), (144, .bool (false)), (143, .bool (false)), (142, undef), (141, undef), (140, undef), (139, undef), (138, undef), (137, undef), (136, undef), (135, undef), (134, .bool (false)), (133, .bool (false)), (132, undef), (131, undef), (130, undef), (129, undef), (128, undef)] (by kernel_rfl) (qT (qT (qT (qB (qT (qL (qB (qT (qB (qT (qL (qB (qT (qB (qT (qL (qB (qT (qT qZ))))))))))))))))))) (by kernel_rfl) ?_
             refine wH_done (by kernel_rfl) ?_
             refine eX_tail ?_
             refine wS_pure 2 [(153, .bool (false)), (152, undef)] (by kernel_rfl) ?_
             refine wS_end (by rfl) ?_
             refine eX_then ?_
             refine cW_prune [(0, .pointer (some ⟨b0, 0, none⟩)), (2, .pointer (some ⟨b1, 0, none⟩)), (3, .slice A1 (y1).length cap1), (4, .slice A2 (y2).length cap2), (5, .pointer (some ⟨b2, 0, none⟩)), (11, .int .i64 (x14)), (12, .int .i64 (x15)), (13, .int .i64 (x13)), (14, .int .i64 (x16)), (15, .slice A7 (x17).length cap7), (16, .int .i64 (x18)), (78, .slice A0_0 (l0_0).length cap0_0), (79, .int .i64 (((l0_0).length : Int))), (80, .int .i64 (x13)), (108, .slice A1 (y1).length cap1), (109, .int .i64 (((y1).length : Int))), (110, .int .i64 (x16)), (115, .slice A1 (y1).length cap1), (116, .int .i64 (((y1).length : Int))), (117, .int .i64 (x18)), (153, .bool (false))] (by kernel_rfl) (by kernel_rfl) (fun a12 => ?_)
             refine cW_cond_f (by kernel_rfl) ?_
             refine cW_skip ?_
             have hq : (some l11 : Option ((List (Int)))) = some _ := hm
             replace hq := someE hq
             subst hq
             exact eX_J (fun hst => ⟨l11, rfl, Fr.of hst (by kernel_rfl), F77, F78, F79, F80, F81, F82, F83, F84, F85, F86, hB, hZ⟩)
           ·rintro a' w25 ⟨l12, hJ, hF9, F89, F90, F91, F92, F93, F94, F95, F96, F97, F98, hB, hZ⟩
            subst hJ
            refine Fr.goX hF9 (by kernel_rfl) ?_
            refine eX_block ?_
            refine eX_then ?_
            refine cW_region ?_
            refine wS_pure 2 [(117, .int .i64 (wr (x18 + 1))), (163, .int .i64 (wr (x18 + 1)))] (by kernel_rfl) ?_
            refine wS_end (by rfl) ?_
            have hq : (some (Ctl.next ((wr (x18 + 1), l12))) : Option (Ctl (Int × (List (Int))) ((List (Int))))) = some _ := hm
            replace hq := someE hq
            subst hq
            exact eX_next hx18 (fun hst => ⟨wr (x18 + 1), l12, rfl, Fr.of hst (by kernel_rfl), F89, F90, F91, F92, F93, F94, F95, F96, F97, F98, hB, hZ⟩)
          ·have hm := condF hb11 hm
           refine cW_exit ?_
           refine eX_then_exit ?_
           have hq : (some (Ctl.out l11) : Option (Ctl (Int × (List (Int))) ((List (Int))))) = some _ := hm
           replace hq := someE hq
           subst hq
           refine eX_outX hx18 (fun hr8 => ?_)
           replace hr8 := hr8.symm
           subst hr8
           refine eX_block_hit ?_
           exact eX_J (fun hst => ⟨l11, rfl, Fr.of hst (by kernel_rfl), F77, F78, F79, F80, F81, F82, F83, F84, F85, hB, hZ⟩)
         ·rintro a' w26 ⟨l10, hJ, hF10, F99, F100, F101, F102, F103, F104, F105, F106, F107, hB, hZ⟩
          subst hJ
          refine Fr.goX hF10 (by kernel_rfl) ?_
          refine eX_block ?_
          refine eX_then ?_
          refine cW_region ?_
          refine wS_pure 2 [(110, .int .i64 (wr (x16 + 1))), (164, .int .i64 (wr (x16 + 1)))] (by kernel_rfl) ?_
          refine wS_end (by rfl) ?_
          have hq : (some (Ctl.next ((wr (x16 + 1), l10))) : Option (Ctl (Int × (List (Int))) ((List (Int))))) = some _ := hm
          replace hq := someE hq
          subst hq
          exact eX_next hx16 (fun hst => ⟨wr (x16 + 1), l10, rfl, Fr.of hst (by kernel_rfl), F99, F100, F101, F102, F103, F104, F105, F106, F107, hB, hZ⟩)
        ·have hm := condF hb10 hm
         refine cW_exit ?_
         refine eX_then_exit ?_
         have hq : (some (Ctl.out l9) : Option (Ctl (Int × (List (Int))) ((List (Int))))) = some _ := hm
         replace hq := someE hq
         subst hq
         refine eX_outX hx16 (fun hr9 => ?_)
         replace hr9 := hr9.symm
         subst hr9
         refine eX_block_hit ?_
         exact eX_J (fun hst => ⟨l9, rfl, Fr.of hst (by kernel_rfl), F67, F68, F69, F70, F71, F72, F73, F74, F75, hB, hZ⟩)
       ·rintro a' w27 ⟨l8, hJ, hF11, F108, F109, F110, F111, F112, F113, F114, F115, F116, hB, hZ⟩
        subst hJ
        refine Fr.goX hF11 (by kernel_rfl) ?_
        refine eX_block ?_
        refine eX_then ?_
        refine cW_region ?_
        refine wS_pure 2 [(80, .int .i64 (wr (x13 + 1))), (165, .int .i64 (wr (x13 + 1)))] (by kernel_rfl) ?_
        refine wS_end (by rfl) ?_
        have hq : (some (Ctl.next ((wr (x13 + 1), l8))) : Option (Ctl (Int × (List (Int))) ((List (Int))))) = some _ := hm
        replace hq := someE hq
        subst hq
        exact eX_next hx13 (fun hst => ⟨wr (x13 + 1), l8, rfl, Fr.of hst (by kernel_rfl), F108, F109, F110, F111, F112, F113, F114, F115, F116, hB, hZ⟩)
   ·have hm := condF hb6 hm
    refine cW_exit ?_
    refine eX_then_exit ?_
    have hq : (some (Ctl.out l7) : Option (Ctl (Int × (List (Int))) ((List (Int))))) = some _ := hm
    replace hq := someE hq
    subst hq
    refine eX_outX hx13 (fun hr10 => ?_)
    replace hr10 := hr10.symm
    subst hr10
    refine eX_block_hit ?_
    exact eX_J (fun hst => ⟨l7, rfl, Fr.of hst (by kernel_rfl), F61, F64, F65, F66, hB, hZ⟩)
  ·rintro a' w28 ⟨l6, hJ, hF12, F117, F118, F119, F120, hB, hZ⟩
   subst hJ
   refine Fr.goX hF12 (by kernel_rfl) ?_
   refine eX_then ?_
   refine cW_seq ?_
   refine cW_region ?_
   refine wS_loadA (d := 166) (T := 58) (ad := ⟨b2, 0, none⟩) (vs := [.slice A3 (l1).length cap3, .slice A4 (l6).length cap4]) (by kernel_rfl) vt58 (fun i u hu => box_cells F120 0 hu (by rfl)) ?_
   refine wS_store (T := 58) (g := b1) (o := 0) (ad := ⟨b1, 0, none⟩) (v := .agg #[.slice A3 (l1).length cap3, .slice A4 (l6).length cap4]) (vs := [.slice A3 (l1).length cap3, .slice A4 (l6).length cap4]) (by kernel_rfl) (by rfl) sz58 (by rfl) (by rfl) F117 (by simp only [List.length_cons, List.length_nil]; omega) ?_
   intro w29 F121 hc21
   replace F118 := F118.chg hc21 (D5).symm
   replace F119 := F119.chg hc21 (D8).symm
   replace F120 := F120.chg hc21 (dj1 (D11).symm)
   replace hB := hB.inS hc21 (inLow (low1 G1))
   replace hZ := Nat.le_trans hZ hc21.size
   replace F121 : Cl w29 b1 58 [.slice A3 (l1).length cap3, .slice A4 (l6).length cap4] := F121
   clear F117
   refine wS_end (by rfl) ?_
   refine eX_then ?_
   refine cW_ret ?_
   have hq : (some ((l1, l6)) : Option (((List (Int)) × (List (Int))))) = some _ := hm
   replace hq := someE hq
   subst hq
   refine eX_ret (vs := [.agg #[.slice A3 (l1).length cap3, .slice A4 (l6).length cap4]]) [.cell 2 58] (by rfl) ⟨⟨⟨b1, 0, none⟩, by kernel_rfl, run_loadVarA (vs := [.slice A3 (l1).length cap3, .slice A4 (l6).length cap4]) vt58 (fun i u hu => by exact box_cells F121 0 hu (by rfl))⟩, trivial⟩ ?_
   exact ⟨A3, cap3, fp3, A4, cap4, fp4, rfl, F118, G4, F119, G5, D4, hB⟩

set_option maxRecDepth 100000 in
/-- impl.toldTracks -/
theorem c_impl_toldTracks_impl_FewestWithDoglegs_1 {w0 : World} {l0 : List (List (Int))} {A0 : Option Addr} {cap0 : Nat} {fp0 : List Nat} {r : (List (List (Int)))} (hm : m_impl_toldTracks_impl_FewestWithDoglegs_1 l0 = some r) (F0 : SlR 1 encI w0 fp0 A0 l0) :
  Calls Tryd.prog 40 #[.slice A0 (l0).length cap0, .func (.func 72) #[] #[]] w0 fun e w' => ∃ A100 cap100 fp100 fr100, e = .returned (.slice A100 (r).length cap100) ∧ OwR 1 encI 24 2 w' fp100 fr100 A100 cap100 r ∧ (∀ x ∈ fp100 ++ fr100, w0.heap.size ≤ x) ∧ Chg [] w0 w' := by
 have L0 := F0.low
 have hB : Chg [] w0 w0 := Chg.refl _ _
 have hZ := Nat.le_refl w0.heap.size
 unfold m_impl_toldTracks_impl_FewestWithDoglegs_1 at hm
 refine enterE (N := 38) Tryd.func40 (by rfl) Tryd.ntmps40 (by simp) [(0, .slice A0 (l0).length cap0), (1, .func (.func 72) #[] #[])] (by rfl) (by kernel_rfl) (fun a => ?_)
 refine cW_seq ?_
 refine cW_region ?_
 refine wS_pure 1 [(4, .slice none 0 0)] (by kernel_rfl) ?_
 refine wS_end (by rfl) ?_
 refine eX_then ?_
 refine cW_seq ?_
 refine cW_region ?_
 refine wS_rows0 (k := 1) (enc := encI) (d := 11) (t := 28) (T := 24) (T2 := 2) (by kernel_rfl) el28 ?_
 intro b1 w1 G1 F1 hc1
 replace F0 := F0.chg hc1 Dj.nil
 replace hB := hB.inS hc1 inNil
 replace G1 := Nat.le_trans hZ G1
 replace G1 := low1 G1
 replace hZ := Nat.le_trans hZ hc1.size
 replace G1 := lowApp G1 lowNil
 refine wS_pure 1 [(5, .slice (some ⟨b1, 0, none⟩) (([] : List (List (Int)))).length 0)] (by kernel_rfl) ?_
 refine wS_end (by rfl) ?_
 refine eX_then ?_
 refine cW_seq ?_
 refine cW_seq ?_
 refine cW_region ?_
 refine wS_pure 3 [(14, .int .i64 (0)), (13, .int .i64 (((l0).length : Int))), (12, .slice A0 (l0).length cap0)] (by kernel_rfl) ?_
 refine wS_end (by rfl) ?_
 refine eX_then ?_
 obtain ⟨r1, hr1, hm⟩ := bindE hm
 have hm1 := hm
 refine cW_cut (fun a' w' => ∃ l1 : List (List (Int)), ∃ A1 : Option Addr, ∃ cap1 : Nat, ∃ fp1 : List Nat, ∃ fr1 : List Nat, l1 = r1 ∧ Fr 38 [(5, .slice A1 (l1).length cap1)] a' ∧ OwR 1 encI 24 2 w' fp1 fr1 A1 cap1 l1 ∧ (∀ x ∈ (fp1 ++ fr1), w0.heap.size ≤ x) ∧ Chg [] w0 w' ∧ w0.heap.size ≤ w'.heap.size) ?_ ?_
 ·refine cW_block ?_
  refine cW_loop _ (fun (s1 : (List (List (Int))) × Int) a' w' => ∃ l3 : List (List (Int)), ∃ A3 : Option Addr, ∃ cap3 : Nat, ∃ fp2 : List Nat, ∃ fr2 : List Nat, ∃ x1 : Int, (l3, x1) = s1 ∧ Fr 38 [(1, .func (.func 72) #[] #[]), (5, .slice A3 (l3).length cap3), (12, .slice A0 (l0).length cap0), (13, .int .i64 (((l0).length : Int))), (14, .int .i64 (x1))] a' ∧ SlR 1 encI w' fp0 A0 l0 ∧ OwR 1 encI 24 2 w' fp2 fr2 A3 cap3 l3 ∧ (∀ x ∈ (fp2 ++ fr2), w0.heap.size ≤ x) ∧ Chg [] w0 w' ∧ w0.heap.size ≤ w'.heap.size) hr1 (fun hst => ⟨([] : List (List (Int))), (some ⟨b1, 0, none⟩), 0, [b1], [], 0, rfl, Fr.of hst (by kernel_rfl), F0, F1, G1, hB, hZ⟩) ?_
  rintro _ c1 a' w2 ⟨l3, A3, cap3, fp2, fr2, x1, rfl, hF1, F2, F3, G2, hB, hZ⟩ hx1
  refine Fr.goOn hF1 (by kernel_rfl) ?_
  have hm := hx1
  unfold m_impl_toldTracks_impl_FewestWithDoglegs_1_s3 at hm
  refine cW_seq ?_
  refine cW_region ?_
  refine wS_pure 1 [(15, .bool (decide (x1 < (((l0).length : Int)))))] (by kernel_rfl) ?_
  refine wS_end (by rfl) ?_
  refine eX_then ?_
  refine cW_seq ?_
  refine cW_cond (t := decide (x1 < (((l0).length : Int)))) (by kernel_rfl) (fun hb1 => ?_) (fun hb1 => ?_)
  ·have hm := condT hb1 hm
   refine cW_skip ?_
   refine eX_then ?_
   refine cW_seq ?_
   refine cW_block ?_
   refine cW_seq ?_
   refine cW_region ?_
   obtain ⟨x2, hx2, hm⟩ := bindE hm
   refine wS_idx (d := 16) (T := 54) (A := A0) (n := (l0).length) (cap := cap0) (kd := .i64) (m := x1) (by kernel_rfl) sl54 (F2.is hx2) ?_
   obtain ⟨A4, cap4, hc2, F4, K1⟩ := SlR.row F2 hx2
   refine wS_load1 (d := 17) (T := 56) (ad := (elA A0 1 (x1) 0)) (v := .slice A4 (x2).length cap4) (by kernel_rfl) vt56 hc2 ?_
   refine wS_pure 1 [(7, .slice A4 (x2).length cap4)] (by kernel_rfl) ?_
   refine wS_end (by rfl) ?_
   refine eX_then ?_
   refine cW_seq ?_
   refine cW_region ?_
   refine wS_bs0 (α := Int) (enc := encI) (d := 18) (t := 24) (T := 2) (by kernel_rfl) el24 ?_
   intro b2 w3 G3 F5 hc3
   have D1 : Dj (fp2 ++ fr2) [b2] := Dj.of F3.low (low1 G3)
   replace F2 := F2.chg hc3 Dj.nil
   replace F3 := F3.chg hc3 Dj.nil
   replace F4 := F4.chg hc3 Dj.nil
   replace hB := hB.inS hc3 inNil
   replace G3 := Nat.le_trans hZ G3
   replace G3 := low1 G3
   replace hZ := Nat.le_trans hZ hc3.size
   refine wS_pure 1 [(8, .slice (some ⟨b2, 0, none⟩) (([] : List (Int))).length 0)] (by kernel_rfl) ?_
   refine wS_end (by rfl) ?_
   refine eX_then ?_
   refine cW_seq ?_
   refine cW_seq ?_
   refine cW_region ?_
   refine wS_pure 3 [(21, .int .i64 (0)), (20, .int .i64 (((x2).length : Int))), (19, .slice A4 (x2).length cap4)] (by kernel_rfl) ?_
   refine wS_end (by rfl) ?_
   refine eX_then ?_
   obtain ⟨r2, hr2, hm⟩ := bindE hm
   have hm2 := hm
   refine cW_cut (fun a' w' => ∃ l4 : List (Int), ∃ A5 : Option Addr, ∃ cap5 : Nat, ∃ fp3 : List Nat, l4 = r2 ∧ Fr 38 [(1, .func (.func 72) #[] #[]), (5, .slice A3 (l3).length cap3), (8, .slice A5 (l4).length cap5), (12, .slice A0 (l0).length cap0), (13, .int .i64 (((l0).length : Int))), (14, .int .i64 (x1))] a' ∧ SlR 1 encI w' fp0 A0 l0 ∧ OwR 1 encI 24 2 w' fp2 fr2 A3 cap3 l3 ∧ Ow 1 encI 2 w' fp3 A5 cap5 l4 ∧ (∀ x ∈ fp3, w0.heap.size ≤ x) ∧ Dj (fp2 ++ fr2) fp3 ∧ Chg [] w0 w' ∧ w0.heap.size ≤ w'.heap.size) ?_ ?_
   ·refine cW_block ?_
    refine cW_loop _ (fun (s2 : (List (Int)) × Int) a' w' => ∃ l5 : List (Int), ∃ A6 : Option Addr, ∃ cap6 : Nat, ∃ fp4 : List Nat, ∃ x3 : Int, (l5, x3) = s2 ∧ Fr 38 [(1, .func (.func 72) #[] #[]), (5, .slice A3 (l3).length cap3), (8, .slice A6 (l5).length cap6), (12, .slice A0 (l0).length cap0), (13, .int .i64 (((l0).length : Int))), (14, .int .i64 (x1)), (19, .slice A4 (x2).length cap4), (20, .int .i64 (((x2).length : Int))), (21, .int .i64 (x3))] a' ∧ SlR 1 encI w' fp0 A0 l0 ∧ OwR 1 encI 24 2 w' fp2 fr2 A3 cap3 l3 ∧ Sl 1 encI w' fp0 A4 x2 ∧ Ow 1 encI 2 w' fp4 A6 cap6 l5 ∧ (∀ x ∈ fp4, w0.heap.size ≤ x) ∧ Dj (fp2 ++ fr2) fp4 ∧ Chg [] w0 w' ∧ w0.heap.size ≤ w'.heap.size) hr2 (fun hst => ⟨([] : List (Int)), (some ⟨b2, 0, none⟩), 0, [b2], 0, rfl, Fr.of hst (by kernel_rfl), F2, F3, F4, F5, G3, D1, hB, hZ⟩) ?_
    rintro _ c2 a' w4 ⟨l5, A6, cap6, fp4, x3, rfl, hF2, F6, F7, F8, F9, G4, D2, hB, hZ⟩ hx3
    refine Fr.goOn hF2 (by kernel_rfl) ?_
    have hm := hx3
    unfold m_impl_toldTracks_impl_FewestWithDoglegs_1_s4 at hm
    refine cW_seq ?_
    refine cW_region ?_
    refine wS_pure 1 [(22, .bool (decide (x3 < (((x2).length : Int)))))] (by kernel_rfl) ?_
    refine wS_end (by rfl) ?_
    refine eX_then ?_
    refine cW_seq ?_
    refine cW_cond (t := decide (x3 < (((x2).length : Int)))) (by kernel_rfl) (fun hb2 => ?_) (fun hb2 => ?_)
    ·have hm := condT hb2 hm
     refine cW_skip ?_
     refine eX_then ?_
     refine cW_seq ?_
     refine cW_block ?_
     refine cW_seq ?_
     refine cW_region ?_
     obtain ⟨x4, hx4, hm⟩ := bindE hm
     refine wS_idx (d := 23) (T := 56) (A := A4) (n := (x2).length) (cap := cap4) (kd := .i64) (m := x3) (by kernel_rfl) sl56 (F8.is hx4) ?_
     refine wS_load1 (d := 24) (T := 3) (ad := (elA A4 1 (x3) 0)) (v := .int .i64 (x4)) (by kernel_rfl) vt3 (Sl.cell F8 hx4 0 (by rfl)) ?_
     refine wS_pure 1 [(10, .int .i64 (x4))] (by kernel_rfl) ?_
     refine wS_end (by rfl) ?_
     refine eX_then ?_
     refine cW_region ?_
     refine wS_pure 3 [(27, .int .i64 (x4)), (26, .func (.func 72) #[] #[]), (25, .slice A6 (l5).length cap6)] (by kernel_rfl) ?_
     obtain ⟨y1, hy1, hm⟩ := bindE hm
     refine wS_calls (d := 28) (f := 72) (vs := [.int .i64 (x4)]) (by kernel_rfl) ent72 (c_impl_FewestWithDoglegs_1 hy1) ?_
     rintro _ w5 ⟨rfl, hc4⟩
     replace F6 := F6.chg hc4 Dj.nil
     replace F7 := F7.chg hc4 Dj.nil
     replace F8 := F8.chg hc4 Dj.nil
     replace F9 := F9.chg hc4 Dj.nil
     replace hB := hB.inS hc4 inNil
     replace hZ := Nat.le_trans hZ hc4.size
     refine ⟨.int .i64 (y1), rfl, ?_⟩
     refine wS_bs (enc := encI) ([y1] : List (Int)) [.int .i64 (y1)] (d := 29) (t := 24) (T := 2) (n := 1) (ps := [(0, .int .i64 (y1))]) (by kernel_rfl) el24 encI_ok (by rfl) (by omega) (by omega) (by kernel_rfl) (by rfl) ?_
     intro b3 w6 G5 F10 hc5
     have D3 : Dj (fp2 ++ fr2) [b3] := Dj.of F7.low (low1 G5)
     have D4 : Dj fp4 [b3] := Dj.of F9.low (low1 G5)
     replace F6 := F6.chg hc5 Dj.nil
     replace F7 := F7.chg hc5 Dj.nil
     replace F8 := F8.chg hc5 Dj.nil
     replace F9 := F9.chg hc5 Dj.nil
     replace hB := hB.inS hc5 inNil
     replace G5 := Nat.le_trans hZ G5
     replace G5 := low1 G5
     replace hZ := Nat.le_trans hZ hc5.size
     obtain ⟨_, hk1, hm⟩ := bindE hm
     replace hk1 := apE hk1
     refine wS_append (enc := encI) (l := (l5 : List (Int))) (l2 := (([y1] : List (Int)) : List (Int))) (d := 30) (t := 24) (T := 2) (A := A6) (A2 := (some ⟨b3, 0, none⟩)) (cap := cap6) (cap2 := 1) (by kernel_rfl) el24 encI_ok F9 (F10.sl encI_ok) (by rfl) hk1 ?_
     intro w7 fp5 A7 cap7 F11 hc6 hp1
     have G6 := low_ap G4 hZ hp1
     have D5 : Dj (fp2 ++ fr2) fp5 := Dj.ap D2 F7.low hp1
     have D6 : Dj [b3] fp5 := Dj.ap (D4).symm F10.low hp1
     replace F6 := F6.chg hc6 (Dj.of L0 G4)
     replace F7 := F7.chg hc6 D2
     replace F8 := F8.chg hc6 (Dj.of L0 G4)
     replace F10 := F10.chg hc6 (D4).symm
     replace hB := hB.inS hc6 (inLow G4)
     replace hZ := Nat.le_trans hZ hc6.size
     refine wS_pure 1 [(8, .slice A7 (l5 ++ (([y1] : List (Int)))).length cap7)] (by kernel_rfl) ?_
     refine wS_end (by rfl) ?_
     refine eX_block ?_
     refine eX_then ?_
     refine cW_region ?_
     refine wS_pure 2 [(21, .int .i64 (wr (x3 + 1))), (31, .int .i64 (wr (x3 + 1)))] (by kernel_rfl) ?_
     refine wS_end (by rfl) ?_
     have hq : (some (Ctl.next ((l5 ++ (([y1] : List (Int))), wr (x3 + 1)))) : Option (Ctl ((List (Int)) × Int) ((List (Int))))) = some _ := hm
     replace hq := someE hq
     subst hq
     exact eX_next hx3 (fun hst => ⟨l5 ++ (([y1] : List (Int))), A7, cap7, fp5, wr (x3 + 1), rfl, Fr.of hst (by kernel_rfl), F6, F7, F8, F11, G6, D5, hB, hZ⟩)
    ·have hm := condF hb2 hm
     refine cW_exit ?_
     refine eX_then_exit ?_
     have hq : (some (Ctl.out l5) : Option (Ctl ((List (Int)) × Int) ((List (Int))))) = some _ := hm
     replace hq := someE hq
     subst hq
     refine eX_outX hx3 (fun hr3 => ?_)
     replace hr3 := hr3.symm
     subst hr3
     refine eX_block_hit ?_
     exact eX_J (fun hst => ⟨l5, A6, cap6, fp4, rfl, Fr.of hst (by kernel_rfl), F6, F7, F9, G4, D2, hB, hZ⟩)
   ·rintro a' w8 ⟨l4, A5, cap5, fp3, hJ, hF3, F12, F13, F14, G7, D7, hB, hZ⟩
    subst hJ
    refine Fr.goX hF3 (by kernel_rfl) ?_
    refine eX_then ?_
    refine cW_region ?_
    refine wS_pure 2 [(33, .slice A5 (l4).length cap5), (32, .slice A3 (l3).length cap3)] (by kernel_rfl) ?_
    refine wS_row1 (k := 1) (enc := encI) (l := l4) (d := 34) (t := 28) (T := 24) (B := A5) (c := cap5) (by kernel_rfl) el28 F14 ?_
    intro b4 w9 G8 F15 hc7
    have D8 : Dj (fp2 ++ fr2) ([b4] ++ fp3) := Dj.app (Dj.of F13.low (low1 G8)) D7
    replace F12 := F12.chg hc7 Dj.nil
    replace F13 := F13.chg hc7 Dj.nil
    replace F14 := F14.chg hc7 Dj.nil
    replace hB := hB.inS hc7 inNil
    replace G8 := Nat.le_trans hZ G8
    replace G8 := lowApp (low1 G8) G7
    replace hZ := Nat.le_trans hZ hc7.size
    replace F14 := (F14.sl encI_ok)
    obtain ⟨_, hk2, hm⟩ := bindE hm
    replace hk2 := apE hk2
    refine wS_appendR (k := 1) (enc := encI) (ll := (l3 : List (List (Int)))) (ll2 := (([l4] : List (List (Int))) : List (List (Int)))) (d := 35) (t := 28) (T := 24) (A := A3) (A2 := (some ⟨b4, 0, none⟩)) (cap := cap3) (cap2 := 1) (by kernel_rfl) el28 F13 F15 (by rfl) D8 hk2 ?_
    intro w10 fp6 A8 cap8 F16 hc8 hp2
    have G9 := lowApp (low_ap (low_inl G2) hZ hp2) (lowApp (low_inr G2) (low_inr G8))
    replace F12 := F12.chg hc8 (Dj.inl (Dj.of L0 G2))
    replace hB := hB.inS hc8 (memS_inl (inLow G2))
    replace hZ := Nat.le_trans hZ hc8.size
    refine wS_pure 1 [(5, .slice A8 (l3 ++ (([l4] : List (List (Int))))).length cap8)] (by kernel_rfl) ?_
    refine wS_end (by rfl) ?_
    refine eX_block ?_
    refine eX_then ?_
    refine cW_region ?_
    refine wS_pure 2 [(14, .int .i64 (wr (x1 + 1))), (36, .int .i64 (wr (x1 + 1)))] (by kernel_rfl) ?_
    refine wS_end (by rfl) ?_
    have hq : (some (Ctl.next ((l3 ++ (([l4] : List (List (Int)))), wr (x1 + 1)))) : Option (Ctl ((List (List (Int))) × Int) ((List (List (Int)))))) = some _ := hm
    replace hq := someE hq
    subst hq
    exact eX_next hx1 (fun hst => ⟨l3 ++ (([l4] : List (List (Int)))), A8, cap8, fp6, (fr2 ++ fp3), wr (x1 + 1), rfl, Fr.of hst (by kernel_rfl), F12, F16, G9, hB, hZ⟩)
  ·have hm := condF hb1 hm
   refine cW_exit ?_
   refine eX_then_exit ?_
   have hq : (some (Ctl.out l3) : Option (Ctl ((List (List (Int))) × Int) ((List (List (Int)))))) = some _ := hm
   replace hq := someE hq
   subst hq
   refine eX_outX hx1 (fun hr4 => ?_)
   replace hr4 := hr4.symm
   subst hr4
   refine eX_block_hit ?_
   exact eX_J (fun hst => ⟨l3, A3, cap3, fp2, fr2, rfl, Fr.of hst (by kernel_rfl), F3, G2, hB, hZ⟩)
 ·rintro a' w11 ⟨l1, A1, cap1, fp1, fr1, hJ, hF4, F17, G10, hB, hZ⟩
  subst hJ
  refine Fr.goX hF4 (by kernel_rfl) ?_
  refine eX_then ?_
  refine cW_seq ?_
  refine cW_region ?_
  refine wS_pure 2 [(4, .slice A1 (l1).length cap1), (37, .slice A1 (l1).length cap1)] (by kernel_rfl) ?_
  refine wS_end (by rfl) ?_
  refine eX_then ?_
  refine cW_ret ?_
  have hq : (some l1 : Option ((List (List (Int))))) = some _ := hm
  replace hq := someE hq
  subst hq
  refine eX_ret (vs := [.slice A1 (l1).length cap1]) [.tmp 4] (by rfl) ⟨by (show lkE _ _ _ = _); kernel_rfl, trivial⟩ ?_
  exact ⟨A1, cap1, fp1, fr1, rfl, F17, G10, hB⟩

set_option maxRecDepth 100000 in
/-- impl.FewestWithDoglegs -/
theorem c_impl_FewestWithDoglegs {w0 : World} {l0_0 : List (Int)} {A0_0 : Option Addr} {cap0_0 : Nat} {fp0_0 : List Nat} {l0_1 : List (Int)} {A0_1 : Option Addr} {cap0_1 : Nat} {fp0_1 : List Nat} {r : (List (List (Int))) × (Bool)} (hm : m_impl_FewestWithDoglegs l0_0 l0_1 = some r) (F0_0 : Sl 1 encI w0 fp0_0 A0_0 l0_0) (K0_0 : (l0_0).length ≤ cap0_0) (F0_1 : Sl 1 encI w0 fp0_1 A0_1 l0_1) (K0_1 : (l0_1).length ≤ cap0_1) (FG : Sl 1 encU w0 [1] (some ⟨1, 0, none⟩) tab64) :
  Calls Tryd.prog 29 #[.agg #[.slice A0_0 (l0_0).length cap0_0, .slice A0_1 (l0_1).length cap0_1]] w0 fun e w' => ∃ A100 cap100 fp100 fr100, e = .returned (.tuple #[.slice A100 (r.1).length cap100, .bool (r.2)]) ∧ OwR 1 encI 24 2 w' fp100 fr100 A100 cap100 r.1 ∧ (∀ x ∈ fp100 ++ fr100, w0.heap.size ≤ x) ∧ Chg [] w0 w' := by
 have L0_0 := F0_0.low
 have L0_1 := F0_1.low
 have Lg := FG.low
 have hB : Chg [] w0 w0 := Chg.refl _ _
 have hZ := Nat.le_refl w0.heap.size
 unfold m_impl_FewestWithDoglegs at hm
 refine enterE (N := 23) Tryd.func29 (by rfl) Tryd.ntmps29 (by simp) [(0, .agg #[.slice A0_0 (l0_0).length cap0_0, .slice A0_1 (l0_1).length cap0_1])] (by rfl) (by kernel_rfl) (fun a => ?_)
 refine cW_seq ?_
 refine cW_region ?_
 refine wS_box (d := 1) (T := 26) (x := .agg #[.slice A0_0 (l0_0).length cap0_0, .slice A0_1 (l0_1).length cap0_1]) (by kernel_rfl) ?_
 intro b1 w1 G1 F1 hc1
 replace F1 : Cl w1 b1 26 [.slice A0_0 (l0_0).length cap0_0, .slice A0_1 (l0_1).length cap0_1] := F1
 replace F0_0 := F0_0.chg hc1 Dj.nil
 replace F0_1 := F0_1.chg hc1 Dj.nil
 replace FG := FG.chg hc1 Dj.nil
 replace hB := hB.inS hc1 inNil
 replace G1 := Nat.le_trans hZ G1
 replace hZ := Nat.le_trans hZ hc1.size
 refine wS_pure 2 [(3, .bool (false)), (2, .slice none 0 0)] (by kernel_rfl) ?_
 refine wS_end (by rfl) ?_
 refine eX_then ?_
 refine cW_seq ?_
 refine cW_seq ?_
 refine cW_region ?_
 refine wS_loadA (d := 6) (T := 26) (ad := ⟨b1, 0, none⟩) (vs := [.slice A0_0 (l0_0).length cap0_0, .slice A0_1 (l0_1).length cap0_1]) (by kernel_rfl) vt26 (fun i u hu => box_cells F1 0 hu (by rfl)) ?_
 obtain ⟨y1, hy1, hm⟩ := bindE hm
 refine wS_calls (d := 7) (f := 36) (vs := [.agg #[.slice A0_0 (l0_0).length cap0_0, .slice A0_1 (l0_1).length cap0_1]]) (by kernel_rfl) ent36 (c_impl_ValidChannel hy1 F0_0 K0_0 F0_1 K0_1) ?_
 rintro _ w2 ⟨rfl, hc2⟩
 replace F0_0 := F0_0.chg hc2 Dj.nil
 replace F0_1 := F0_1.chg hc2 Dj.nil
 replace FG := FG.chg hc2 Dj.nil
 replace F1 := F1.chg hc2 notNil
 replace hB := hB.inS hc2 inNil
 replace hZ := Nat.le_trans hZ hc2.size
 refine ⟨.bool (y1), rfl, ?_⟩
 refine wS_pure 2 [(9, .bool (!y1)), (8, .bool (!y1))] (by kernel_rfl) ?_
 refine wS_bool (!y1) (fun hb1 => ?_) (fun hb1 => ?_)
 ·have hm := condT hb1 hm
  rewrite [hb1]
  refine wS_pure 4 [(13, .bool (true)), (12, undef), (11, undef), (10, undef)] (by kernel_rfl) ?_
  refine wS_end (by rfl) ?_
  refine eX_then ?_
  refine cW_cond_t (by kernel_rfl) ?_
  refine cW_seq ?_
  refine cW_region ?_
  refine wS_pure 2 [(3, .bool (false)), (2, .slice none 0 0)] (by kernel_rfl) ?_
  refine wS_end (by rfl) ?_
  refine eX_then ?_
  refine cW_ret ?_
  refine eX_then_ret ?_
  have hq : (some (([], false)) : Option ((List (List (Int))) × (Bool))) = some _ := hm
  replace hq := someE hq
  subst hq
  refine eX_ret (vs := [.slice none 0 0, .bool (false)]) [.tmp 2, .tmp 3] (by rfl) ⟨by (show lkE _ _ _ = _); kernel_rfl, ⟨by (show lkE _ _ _ = _); kernel_rfl, trivial⟩⟩ ?_
  exact ⟨none, 0, [], [], rfl, OwR.nil _, (lowApp lowNil lowNil), hB⟩
 ·have hm := condF hb1 hm
  rewrite [hb1]
  obtain ⟨y2, hy2, hm⟩ := bindE hm
  refine wS_calls (d := 10) (f := 70) (vs := [.pointer (some ⟨b1, 0, none⟩)]) (by kernel_rfl) ent70 (c_impl_Channel_pieces_bimplChannel hy2 F0_0 F0_1 F1) ?_
  rintro _ w3 ⟨A1, cap1, fp1, fr1, rfl, F2, G2, hc3⟩
  have D1 : Dj [b1] (fp1 ++ fr1) := Dj.of (lt1 F1.lt) G2
  replace F0_0 := F0_0.chg hc3 Dj.nil
  replace F0_1 := F0_1.chg hc3 Dj.nil
  replace FG := FG.chg hc3 Dj.nil
  replace F1 := F1.chg hc3 notNil
  replace hB := hB.inS hc3 inNil
  replace G2 := low_le hZ G2
  replace hZ := Nat.le_trans hZ hc3.size
  refine ⟨.slice A1 (y2).length cap1, rfl, ?_⟩
  refine wS_pure 3 [(13, .bool (decide ((((y2).length : Int)) > 12))), (12, .bool (decide ((((y2).length : Int)) > 12))), (11, .int .i64 (((y2).length : Int)))] (by kernel_rfl) ?_
  refine wS_end (by rfl) ?_
  refine eX_then ?_
  refine cW_cond (t := decide ((((y2).length : Int)) > 12)) (by kernel_rfl) (fun hb2 => ?_) (fun hb2 => ?_)
  ·have hm := condT hb2 hm
   refine cW_seq ?_
   refine cW_region ?_
   refine wS_pure 2 [(3, .bool (false)), (2, .slice none 0 0)] (by kernel_rfl) ?_
   refine wS_end (by rfl) ?_
   refine eX_then ?_
   refine cW_ret ?_
   refine eX_then_ret ?_
   have hq : (some (([], false)) : Option ((List (List (Int))) × (Bool))) = some _ := hm
   replace hq := someE hq
   subst hq
   refine eX_ret (vs := [.slice none 0 0, .bool (false)]) [.tmp 2, .tmp 3] (by rfl) ⟨by (show lkE _ _ _ = _); kernel_rfl, ⟨by (show lkE _ _ _ = _); kernel_rfl, trivial⟩⟩ ?_
   exact ⟨none, 0, [], [], rfl, OwR.nil _, (lowApp lowNil lowNil), hB⟩
  ·have hm := condF hb2 hm
   refine cW_skip ?_
   refine eX_then ?_
   refine cW_seq ?_
   refine cW_region ?_
   obtain ⟨y3, hy3, hm⟩ := bindE hm
   refine wS_calls (d := 15) (f := 71) (vs := [.pointer (some ⟨b1, 0, none⟩)]) (by kernel_rfl) ent71 (c_impl_Channel_pieceOrder_bimplChannel hy3 F0_0 F0_1 F1) ?_
   rintro _ w4 ⟨A2, cap2, fp2, A3, cap3, fp3, rfl, F3, G3, F4, G4, D2, hc4⟩
   have D3 : Dj [b1] fp2 := Dj.of (lt1 F1.lt) G3
   have D4 : Dj (fp1 ++ fr1) fp2 := Dj.of F2.low G3
   have D5 : Dj [b1] fp3 := Dj.of (lt1 F1.lt) G4
   have D6 : Dj (fp1 ++ fr1) fp3 := Dj.of F2.low G4
   replace F0_0 := F0_0.chg hc4 Dj.nil
   replace F0_1 := F0_1.chg hc4 Dj.nil
   replace FG := FG.chg hc4 Dj.nil
   replace F1 := F1.chg hc4 notNil
   replace F2 := F2.chg hc4 Dj.nil
   replace hB := hB.inS hc4 inNil
   replace G3 := low_le hZ G3
   replace G4 := low_le hZ G4
   replace hZ := Nat.le_trans hZ hc4.size
   refine ⟨.agg #[.slice A2 (y3.1).length cap2, .slice A3 (y3.2).length cap3], rfl, ?_⟩
   obtain ⟨y4, hy4, hm⟩ := bindE hm
   refine wS_calls (d := 16) (f := 38) (vs := [.agg #[.slice A2 (y3.1).length cap2, .slice A3 (y3.2).length cap3]]) (by kernel_rfl) ent38 (c_impl_order_best hy4 (F3.sl encI_ok) (F4.sl encI_ok) FG) ?_
   rintro _ w5 ⟨A4, cap4, fp4, fr2, rfl, F5, G5, hc5⟩
   have D7 : Dj [b1] (fp4 ++ fr2) := Dj.of (lt1 F1.lt) G5
   have D8 : Dj (fp1 ++ fr1) (fp4 ++ fr2) := Dj.of F2.low G5
   have D9 : Dj fp2 (fp4 ++ fr2) := Dj.of F3.low G5
   have D10 : Dj fp3 (fp4 ++ fr2) := Dj.of F4.low G5
   replace F0_0 := F0_0.chg hc5 Dj.nil
   replace F0_1 := F0_1.chg hc5 Dj.nil
   replace FG := FG.chg hc5 Dj.nil
   replace F1 := F1.chg hc5 notNil
   replace F2 := F2.chg hc5 Dj.nil
   replace F3 := F3.chg hc5 Dj.nil
   replace F4 := F4.chg hc5 Dj.nil
   replace hB := hB.inS hc5 inNil
   replace G5 := low_le hZ G5
   replace hZ := Nat.le_trans hZ hc5.size
   refine ⟨.tuple #[.slice A4 (y4.1).length cap4, .bool (y4.2)], rfl, ?_⟩
   refine wS_pure 5 [(5, .bool (y4.2)), (4, .slice A4 (y4.1).length cap4), (18, .bool (y4.2)), (17, .slice A4 (y4.1).length cap4), (14, .tuple #[.slice A4 (y4.1).length cap4, .bool (y4.2)])] (by kernel_rfl) ?_
   refine wS_end (by rfl) ?_
   refine eX_then ?_
   refine cW_seq ?_
   refine cW_seq ?_
   refine cW_region ?_
   refine wS_pure 2 [(20, .bool (!y4.2)), (19, .bool (y4.2))] (by kernel_rfl) ?_
   refine wS_end (by rfl) ?_
   refine eX_then ?_
   refine cW_cond (t := !y4.2) (by kernel_rfl) (fun hb3 => ?_) (fun hb3 => ?_)
   ·have hm := condT hb3 hm
    refine cW_seq ?_
    refine cW_region ?_
    refine wS_pure 2 [(3, .bool (false)), (2, .slice none 0 0)] (by kernel_rfl) ?_
    refine wS_end (by rfl) ?_
    refine eX_then ?_
    refine cW_ret ?_
    refine eX_then_ret ?_
    have hq : (some (([], false)) : Option ((List (List (Int))) × (Bool))) = some _ := hm
    replace hq := someE hq
    subst hq
    refine eX_ret (vs := [.slice none 0 0, .bool (false)]) [.tmp 2, .tmp 3] (by rfl) ⟨by (show lkE _ _ _ = _); kernel_rfl, ⟨by (show lkE _ _ _ = _); kernel_rfl, trivial⟩⟩ ?_
    exact ⟨none, 0, [], [], rfl, OwR.nil _, (lowApp lowNil lowNil), hB⟩
   ·have hm := condF hb3 hm
    refine cW_skip ?_
    refine eX_then ?_
    refine cW_seq ?_
    refine cW_region ?_
    refine wS_pure 1 [(21, .slice A4 (y4.1).length cap4)] (by kernel_rfl) ?_
    obtain ⟨y5, hy5, hm⟩ := bindE hm
    refine wS_calls (d := 22) (f := 40) (vs := [.slice A4 (y4.1).length cap4, .func (.func 72) #[] #[]]) (by kernel_rfl) ent40 (c_impl_toldTracks_impl_FewestWithDoglegs_1 hy5 (F5.slr encI_ok)) ?_
    rintro _ w6 ⟨A5, cap5, fp5, fr3, rfl, F6, G6, hc6⟩
    have D11 : Dj [b1] (fp5 ++ fr3) := Dj.of (lt1 F1.lt) G6
    have D12 : Dj (fp1 ++ fr1) (fp5 ++ fr3) := Dj.of F2.low G6
    have D13 : Dj fp2 (fp5 ++ fr3) := Dj.of F3.low G6
    have D14 : Dj fp3 (fp5 ++ fr3) := Dj.of F4.low G6
    have D15 : Dj (fp4 ++ fr2) (fp5 ++ fr3) := Dj.of F5.low G6
    replace F0_0 := F0_0.chg hc6 Dj.nil
    replace F0_1 := F0_1.chg hc6 Dj.nil
    replace FG := FG.chg hc6 Dj.nil
    replace F1 := F1.chg hc6 notNil
    replace F2 := F2.chg hc6 Dj.nil
    replace F3 := F3.chg hc6 Dj.nil
    replace F4 := F4.chg hc6 Dj.nil
    replace F5 := F5.chg hc6 Dj.nil
    replace hB := hB.inS hc6 inNil
    replace G6 := low_le hZ G6
    replace hZ := Nat.le_trans hZ hc6.size
    refine ⟨.slice A5 (y5).length cap5, rfl, ?_⟩
    refine wS_pure 2 [(3, .bool (true)), (2, .slice A5 (y5).length cap5)] (by kernel_rfl) ?_
    refine wS_end (by rfl) ?_
    refine eX_then ?_
    refine cW_ret ?_
    have hq : (some ((y5, true)) : Option ((List (List (Int))) × (Bool))) = some _ := hm
    replace hq := someE hq
    subst hq
    refine eX_ret (vs := [.slice A5 (y5).length cap5, .bool (true)]) [.tmp 2, .tmp 3] (by rfl) ⟨by (show lkE _ _ _ = _); kernel_rfl, ⟨by (show lkE _ _ _ = _); kernel_rfl, trivial⟩⟩ ?_
    exact ⟨A5, cap5, fp5, fr3, rfl, F6, G6, hB⟩

end Go.Proofs.YtbfjekmefcpkmaaDoor
