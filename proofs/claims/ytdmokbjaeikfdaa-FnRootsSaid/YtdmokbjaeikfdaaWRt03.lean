/- Printed walks: spec.l05Hanan, spec.l00Own, spec.l00Min, spec.l05Steiner, spec.SteinerLength, laws.b10Abs, laws.b10Far, laws.FnRoots. -/
import Derived.Test.YtdmokbjaeikfdaaProg
import Derived.Test.YtdmokbjaeikfdaaWRt02
set_option linter.unusedSimpArgs false
set_option linter.unusedVariables false
namespace Go.Proofs.Ytdmokbjaeikfdaa
open Go.RowKit
attribute [local irreducible] wS cW eX wH

theorem ent8 : Ent Try.prog 8 := fun _ => by kernel_rfl
theorem ent10 : Ent Try.prog 10 := fun _ => by kernel_rfl
theorem ent11 : Ent Try.prog 11 := fun _ => by kernel_rfl
theorem ent12 : Ent Try.prog 12 := fun _ => by kernel_rfl
theorem ent13 : Ent Try.prog 13 := fun _ => by kernel_rfl
theorem ent14 : Ent Try.prog 14 := fun _ => by kernel_rfl
theorem ent15 : Ent Try.prog 15 := fun _ => by kernel_rfl
theorem ent16 : Ent Try.prog 16 := fun _ => by kernel_rfl
theorem ent17 : Ent Try.prog 17 := fun _ => by kernel_rfl
theorem ent18 : Ent Try.prog 18 := fun _ => by kernel_rfl
theorem ent35 : Ent Try.prog 35 := fun _ => by kernel_rfl
theorem ent36 : Ent Try.prog 36 := fun _ => by kernel_rfl
theorem ent52 : Ent Try.prog 52 := fun _ => by kernel_rfl
theorem ent53 : Ent Try.prog 53 := fun _ => by kernel_rfl
theorem ent54 : Ent Try.prog 54 := fun _ => by kernel_rfl
theorem ent70 : Ent Try.prog 70 := fun _ => by kernel_rfl
theorem sz66 : pureRun Try.prog (sizeOf 66) = some 1 := by kernel_rfl

set_option maxRecDepth 100000 in
/-- spec.l05Hanan -/
theorem c_spec_l05Hanan {w0 : World} {l0 : List (Int × Int)} {A0 : Option Addr} {cap0 : Nat} {fp0 : List Nat} {r : (List (Int × Int))} (hm : m_spec_l05Hanan l0 = some r) (F0 : Sl 2 encII w0 fp0 A0 l0) :
  Calls Try.prog 52 #[.slice A0 (l0).length cap0] w0 fun e w' => ∃ A1 cap100 fp100, e = .returned (.slice A1 (r).length cap100) ∧ Ow 2 encII 34 w' fp100 A1 cap100 r ∧ (∀ x ∈ fp100, w0.heap.size ≤ x) ∧ Chg [] w0 w' := by
 have L0 := F0.low
 have hB : Chg [] w0 w0 := Chg.refl _ _
 have hZ := Nat.le_refl w0.heap.size
 unfold m_spec_l05Hanan at hm
 refine enterE (N := 35) Try.func52 (by rfl) Try.ntmps52 (by simp) [(0, .slice A0 (l0).length cap0)] (by rfl) (by kernel_rfl) (fun a => ?_)
 refine cW_seq ?_
 refine cW_region ?_
 refine wS_pure 1 [(2, .slice none 0 0)] (by kernel_rfl) ?_
 refine wS_end (by rfl) ?_
 refine eX_then ?_
 refine cW_seq ?_
 refine cW_region ?_
 refine wS_bs0 (α := Int × Int) (enc := encII) (d := 6) (t := 26) (T := 34) (by kernel_rfl) el26 ?_
 intro b1 w1 G1 F1 hc1
 replace F0 := F0.chg hc1 Dj.nil
 replace hB := hB.inS hc1 inNil
 replace G1 := Nat.le_trans hZ G1
 replace G1 := low1 G1
 replace hZ := Nat.le_trans hZ hc1.size
 refine wS_pure 1 [(3, .slice (some ⟨b1, 0, none⟩) (([] : List (Int × Int))).length 0)] (by kernel_rfl) ?_
 refine wS_end (by rfl) ?_
 refine eX_then ?_
 refine cW_seq ?_
 refine cW_seq ?_
 refine cW_region ?_
 refine wS_pure 1 [(4, .int .i64 (0))] (by kernel_rfl) ?_
 refine wS_end (by rfl) ?_
 refine eX_then ?_
 obtain ⟨r1, hr1, hm⟩ := bindE hm
 have hm1 := hm
 refine cW_cut (fun a' w' => ∃ l1 : List (Int × Int), ∃ A3 : Option Addr, ∃ cap1 : Nat, ∃ fp1 : List Nat, l1 = r1 ∧ Fr 35 [(3, .slice A3 (l1).length cap1)] a' ∧ Ow 2 encII 34 w' fp1 A3 cap1 l1 ∧ (∀ x ∈ fp1, w0.heap.size ≤ x) ∧ Chg [] w0 w' ∧ w0.heap.size ≤ w'.heap.size) ?_ ?_
 ·refine cW_block ?_
  refine cW_loop _ (fun (s1 : (List (Int × Int)) × Int) a' w' => ∃ l3 : List (Int × Int), ∃ A4 : Option Addr, ∃ cap3 : Nat, ∃ fp2 : List Nat, ∃ x1 : Int, (l3, x1) = s1 ∧ Fr 35 [(0, .slice A0 (l0).length cap0), (3, .slice A4 (l3).length cap3), (4, .int .i64 (x1))] a' ∧ Sl 2 encII w' fp0 A0 l0 ∧ Ow 2 encII 34 w' fp2 A4 cap3 l3 ∧ (∀ x ∈ fp2, w0.heap.size ≤ x) ∧ Chg [] w0 w' ∧ w0.heap.size ≤ w'.heap.size) hr1 (fun hst => ⟨([] : List (Int × Int)), (some ⟨b1, 0, none⟩), 0, [b1], 0, rfl, Fr.of hst (by kernel_rfl), F0, F1, G1, hB, hZ⟩) ?_
  rintro _ c1 a' w2 ⟨l3, A4, cap3, fp2, x1, rfl, hF1, F2, F3, G2, hB, hZ⟩ hx1
  refine Fr.goOn hF1 (by kernel_rfl) ?_
  have hm := hx1
  unfold m_spec_l05Hanan_s3 at hm
  refine cW_seq ?_
  refine cW_seq ?_
  refine cW_region ?_
  refine wS_pure 4 [(10, .bool (decide (x1 < (((l0).length : Int))))), (9, .int .i64 (((l0).length : Int))), (8, .slice A0 (l0).length cap0), (7, .int .i64 (x1))] (by kernel_rfl) ?_
  refine wS_end (by rfl) ?_
  refine eX_then ?_
  refine cW_cond (t := decide (x1 < (((l0).length : Int)))) (by kernel_rfl) (fun hb1 => ?_) (fun hb1 => ?_)
  ·have hm := condT hb1 hm
   refine cW_skip ?_
   refine eX_then ?_
   refine cW_seq ?_
   refine cW_block ?_
   refine cW_seq ?_
   refine cW_region ?_
   refine wS_pure 1 [(5, .int .i64 (0))] (by kernel_rfl) ?_
   refine wS_end (by rfl) ?_
   refine eX_then ?_
   obtain ⟨r2, hr2, hm⟩ := bindE hm
   have hm2 := hm
   refine cW_cut (fun a' w' => ∃ l4 : List (Int × Int), ∃ A5 : Option Addr, ∃ cap4 : Nat, ∃ fp3 : List Nat, l4 = r2 ∧ Fr 35 [(0, .slice A0 (l0).length cap0), (3, .slice A5 (l4).length cap4), (4, .int .i64 (x1))] a' ∧ Sl 2 encII w' fp0 A0 l0 ∧ Ow 2 encII 34 w' fp3 A5 cap4 l4 ∧ (∀ x ∈ fp3, w0.heap.size ≤ x) ∧ Chg [] w0 w' ∧ w0.heap.size ≤ w'.heap.size) ?_ ?_
   ·refine cW_block ?_
    refine cW_loop _ (fun (s2 : (List (Int × Int)) × Int) a' w' => ∃ l5 : List (Int × Int), ∃ A6 : Option Addr, ∃ cap5 : Nat, ∃ fp4 : List Nat, ∃ x2 : Int, (l5, x2) = s2 ∧ Fr 35 [(0, .slice A0 (l0).length cap0), (3, .slice A6 (l5).length cap5), (4, .int .i64 (x1)), (5, .int .i64 (x2))] a' ∧ Sl 2 encII w' fp0 A0 l0 ∧ Ow 2 encII 34 w' fp4 A6 cap5 l5 ∧ (∀ x ∈ fp4, w0.heap.size ≤ x) ∧ Chg [] w0 w' ∧ w0.heap.size ≤ w'.heap.size) hr2 (fun hst => ⟨l3, A4, cap3, fp2, 0, rfl, Fr.of hst (by kernel_rfl), F2, F3, G2, hB, hZ⟩) ?_
    rintro _ c2 a' w3 ⟨l5, A6, cap5, fp4, x2, rfl, hF2, F4, F5, G3, hB, hZ⟩ hx2
    refine Fr.goOn hF2 (by kernel_rfl) ?_
    have hm := hx2
    unfold m_spec_l05Hanan_s4 at hm
    refine cW_seq ?_
    refine cW_seq ?_
    refine cW_region ?_
    refine wS_pure 4 [(16, .bool (decide (x2 < (((l0).length : Int))))), (15, .int .i64 (((l0).length : Int))), (14, .slice A0 (l0).length cap0), (13, .int .i64 (x2))] (by kernel_rfl) ?_
    refine wS_end (by rfl) ?_
    refine eX_then ?_
    refine cW_cond (t := decide (x2 < (((l0).length : Int)))) (by kernel_rfl) (fun hb2 => ?_) (fun hb2 => ?_)
    ·have hm := condT hb2 hm
     refine cW_skip ?_
     refine eX_then ?_
     refine cW_seq ?_
     refine cW_block ?_
     refine cW_drawnTail [] 13 (by kernel_rfl) (by kernel_rfl) (fun w4 hc2 => ?_)
     replace F4 := F4.chg hc2 Dj.nil
     replace F5 := F5.chg hc2 Dj.nil
     replace hB := hB.inS hc2 inNil
     replace hZ := Nat.le_trans hZ hc2.size
     have hS := Chg.refl [] w4
     have Z1 := F4
     have Z2 := F5
     refine wH_take [0, 1, 2] [2, 1, 0] [(21, .int .i64 (x1)), (20, .slice A0 (l0).length cap0), (19, .slice A6 (l5).length cap5)] (by kernel_rfl) (qT (qB (qT (qL (qB (qT (qB (qT (qL (qB (qT (qT qZ)))))))))))) (by kernel_rfl) ?_
     obtain ⟨x3, hx3, hm⟩ := bindE hm
     refine wH_idx (i := 3) (d := 22) (T := 26) (A := A0) (n := (l0).length) (cap := cap0) (kd := .i64) (m := x1) (by kernel_rfl) (qT (qB (qT (qL (qB (qT (qB (qT (qL (qB (qT (qT qZ)))))))))))) (by kernel_rfl) (by kernel_rfl) sl26 (F4.is hx3) ?_
     refine wH_take [4] [4, 3, 2, 1, 0] [(23, .pointer (some (elA A0 2 (x1) 0)))] (by kernel_rfl) (qT (qB (qT (qL (qB (qT (qB (qT (qL (qB (qT (qT qZ)))))))))))) (by kernel_rfl) ?_
     refine wH_load1 (i := 5) (d := 24) (T := 2) (ad := (elA A0 2 (x1) 0)) (v := .int .i64 (x3.1)) (by kernel_rfl) (qT (qB (qT (qL (qB (qT (qB (qT (qL (qB (qT (qT qZ)))))))))))) (by kernel_rfl) (by kernel_rfl) vt2 (fun W hW => Sl.cell (Z1.chg hW Dj.nil) hx3 0 (by rfl)) ?_
     refine wH_take [6, 7] [7, 6, 5, 4, 3, 2, 1, 0] [(26, .int .i64 (x2)), (25, .slice A0 (l0).length cap0)] (by kernel_rfl) (qT (qB (qT (qL (qB (qT (qB (qT (qL (qB (qT (qT qZ)))))))))))) (by kernel_rfl) ?_
     obtain ⟨x4, hx4, hm⟩ := bindE hm
     refine wH_idx (i := 8) (d := 27) (T := 26) (A := A0) (n := (l0).length) (cap := cap0) (kd := .i64) (m := x2) (by kernel_rfl) (qT (qB (qT (qL (qB (qT (qB (qT (qL (qB (qT (qT qZ)))))))))))) (by kernel_rfl) (by kernel_rfl) sl26 (F4.is hx4) ?_
     refine wH_take [9] [9, 8, 7, 6, 5, 4, 3, 2, 1, 0] [(28, .pointer (some (elA A0 2 (x2) 1)))] (by kernel_rfl) (qT (qB (qT (qL (qB (qT (qB (qT (qL (qB (qT (qT qZ)))))))))))) (by kernel_rfl) ?_
     refine wH_load1 (i := 10) (d := 29) (T := 2) (ad := (elA A0 2 (x2) 1)) (v := .int .i64 (x4.2)) (by kernel_rfl) (qT (qB (qT (qL (qB (qT (qB (qT (qL (qB (qT (qT qZ)))))))))))) (by kernel_rfl) (by kernel_rfl) vt2 (fun W hW => Sl.cell (Z1.chg hW Dj.nil) hx4 1 (by rfl)) ?_
     refine wH_take [11] [11, 10, 9, 8, 7, 6, 5, 4, 3, 2, 1, 0] [(30, .agg #[.int .i64 (x3.1), .int .i64 (x4.2)])] (by kernel_rfl) (qT (qB (qT (qL (qB (qT (qB (qT (qL (qB (qT (qT qZ)))))))))))) (by kernel_rfl) ?_
     refine wH_all [12] (by rfl) (by kernel_rfl) (by simp) ⟨⟨by kernel_rfl, ?_⟩, trivial⟩
     refine wS_bs (enc := encII) ([(x3.1, x4.2)] : List (Int × Int)) [.int .i64 (x3.1), .int .i64 (x4.2)] (d := 31) (t := 26) (T := 34) (n := 1) (ps := [(0, .agg #[.int .i64 (x3.1), .int .i64 (x4.2)])]) (by kernel_rfl) el26 encII_ok (by rfl) (by omega) (by omega) (by kernel_rfl) (by rfl) ?_
     intro b2 w5 G4 F6 hc3
     have D1 : Dj fp4 [b2] := Dj.of F5.low (low1 G4)
     replace F4 := F4.chg hc3 Dj.nil
     replace F5 := F5.chg hc3 Dj.nil
     replace hB := hB.inS hc3 inNil
     have hSz := hS
     replace hS := hS.inS hc3 inNil
     have Gz1 := low1 (Nat.le_trans hSz.size G4)
     replace G4 := Nat.le_trans hZ G4
     replace G4 := low1 G4
     replace hZ := Nat.le_trans hZ hc3.size
     refine wS_end (by kernel_rfl) ?_
     refine eX_KH hS ?_
     refine wH_done (by kernel_rfl) ?_
     refine eX_tail ?_
     obtain ⟨_, hk1, hm⟩ := bindE hm
     replace hk1 := apE hk1
     refine wS_append (enc := encII) (l := (l5 : List (Int × Int))) (l2 := (([(x3.1, x4.2)] : List (Int × Int)) : List (Int × Int))) (d := 32) (t := 26) (T := 34) (A := A6) (A2 := (some ⟨b2, 0, none⟩)) (cap := cap5) (cap2 := 1) (by kernel_rfl) el26 encII_ok F5 (F6.sl encII_ok) (by rfl) hk1 ?_
     intro w6 fp5 A7 cap6 F7 hc4 hp1
     have G5 := low_ap G3 hZ hp1
     have D2 : Dj [b2] fp5 := Dj.ap (D1).symm F6.low hp1
     replace F4 := F4.chg hc4 (Dj.of L0 G3)
     replace F6 := F6.chg hc4 (D1).symm
     replace hB := hB.inS hc4 (inLow G3)
     replace hZ := Nat.le_trans hZ hc4.size
     refine wS_pure 1 [(3, .slice A7 (l5 ++ (([(x3.1, x4.2)] : List (Int × Int)))).length cap6)] (by kernel_rfl) ?_
     refine wS_end (by rfl) ?_
     refine eX_block ?_
     refine eX_then ?_
     refine cW_region ?_
     refine wS_pure 3 [(5, .int .i64 (wr (x2 + 1))), (18, .int .i64 (wr (x2 + 1))), (17, .int .i64 (x2))] (by kernel_rfl) ?_
     refine wS_end (by rfl) ?_
     have hq : (some (Ctl.next ((l5 ++ (([(x3.1, x4.2)] : List (Int × Int))), wr (x2 + 1)))) : Option (Ctl ((List (Int × Int)) × Int) ((List (Int × Int))))) = some _ := hm
     replace hq := someE hq
     subst hq
     exact eX_next hx2 (fun hst => ⟨l5 ++ (([(x3.1, x4.2)] : List (Int × Int))), A7, cap6, fp5, wr (x2 + 1), rfl, Fr.of hst (by kernel_rfl), F4, F7, G5, hB, hZ⟩)
    ·have hm := condF hb2 hm
     refine cW_exit ?_
     refine eX_then_exit ?_
     have hq : (some (Ctl.out l5) : Option (Ctl ((List (Int × Int)) × Int) ((List (Int × Int))))) = some _ := hm
     replace hq := someE hq
     subst hq
     refine eX_outX hx2 (fun hr3 => ?_)
     replace hr3 := hr3.symm
     subst hr3
     refine eX_block_hit ?_
     exact eX_J (fun hst => ⟨l5, A6, cap5, fp4, rfl, Fr.of hst (by kernel_rfl), F4, F5, G3, hB, hZ⟩)
   ·rintro a' w7 ⟨l4, A5, cap4, fp3, hJ, hF3, F8, F9, G6, hB, hZ⟩
    subst hJ
    refine Fr.goX hF3 (by kernel_rfl) ?_
    refine eX_block ?_
    refine eX_then ?_
    refine cW_region ?_
    refine wS_pure 3 [(4, .int .i64 (wr (x1 + 1))), (12, .int .i64 (wr (x1 + 1))), (11, .int .i64 (x1))] (by kernel_rfl) ?_
    refine wS_end (by rfl) ?_
    have hq : (some (Ctl.next ((l4, wr (x1 + 1)))) : Option (Ctl ((List (Int × Int)) × Int) ((List (Int × Int))))) = some _ := hm
    replace hq := someE hq
    subst hq
    exact eX_next hx1 (fun hst => ⟨l4, A5, cap4, fp3, wr (x1 + 1), rfl, Fr.of hst (by kernel_rfl), F8, F9, G6, hB, hZ⟩)
  ·have hm := condF hb1 hm
   refine cW_exit ?_
   refine eX_then_exit ?_
   have hq : (some (Ctl.out l3) : Option (Ctl ((List (Int × Int)) × Int) ((List (Int × Int))))) = some _ := hm
   replace hq := someE hq
   subst hq
   refine eX_outX hx1 (fun hr4 => ?_)
   replace hr4 := hr4.symm
   subst hr4
   refine eX_block_hit ?_
   exact eX_J (fun hst => ⟨l3, A4, cap3, fp2, rfl, Fr.of hst (by kernel_rfl), F3, G2, hB, hZ⟩)
 ·rintro a' w8 ⟨l1, A3, cap1, fp1, hJ, hF4, F10, G7, hB, hZ⟩
  subst hJ
  refine Fr.goX hF4 (by kernel_rfl) ?_
  refine eX_then ?_
  refine cW_seq ?_
  refine cW_region ?_
  refine wS_pure 1 [(33, .slice A3 (l1).length cap1)] (by kernel_rfl) ?_
  obtain ⟨y1, hy1, hm⟩ := bindE hm
  refine wS_calls (d := 34) (f := 70) (vs := [.slice A3 (l1).length cap1]) (by kernel_rfl) ent70 (c_spec_l01Sorted hy1 (F10.sl encII_ok)) ?_
  rintro _ w9 ⟨A8, cap7, fp6, rfl, F11, G8, hc5⟩
  have D3 : Dj fp1 fp6 := Dj.of F10.low G8
  replace F10 := F10.chg hc5 Dj.nil
  replace hB := hB.inS hc5 inNil
  replace G8 := low_le hZ G8
  replace hZ := Nat.le_trans hZ hc5.size
  refine ⟨.slice A8 (y1).length cap7, rfl, ?_⟩
  refine wS_pure 1 [(2, .slice A8 (y1).length cap7)] (by kernel_rfl) ?_
  refine wS_end (by rfl) ?_
  refine eX_then ?_
  refine cW_ret ?_
  have hq : (some y1 : Option ((List (Int × Int)))) = some _ := hm
  replace hq := someE hq
  subst hq
  refine eX_ret (vs := [.slice A8 (y1).length cap7]) [.tmp 2] (by rfl) ⟨by (show lkE _ _ _ = _); kernel_rfl, trivial⟩ ?_
  exact ⟨A8, cap7, fp6, rfl, F11, G8, hB⟩

set_option maxRecDepth 100000 in
/-- spec.l00Own -/
theorem c_spec_l00Own {w0 : World} {l0 : List (Int)} {A0 : Option Addr} {cap0 : Nat} {fp0 : List Nat} {r : (List (Int))} (hm : m_spec_l00Own l0 = some r) (F0 : Sl 1 encI w0 fp0 A0 l0) :
  Calls Try.prog 53 #[.slice A0 (l0).length cap0] w0 fun e w' => ∃ A100 cap100 fp100, e = .returned (.slice A100 (r).length cap100) ∧ Ow 1 encI 2 w' fp100 A100 cap100 r ∧ (∀ x ∈ fp100, w0.heap.size ≤ x) ∧ Chg [] w0 w' := by
 have L0 := F0.low
 have hB : Chg [] w0 w0 := Chg.refl _ _
 have hZ := Nat.le_refl w0.heap.size
 unfold m_spec_l00Own at hm
 refine enterE (N := 6) Try.func53 (by rfl) Try.ntmps53 (by simp) [(0, .slice A0 (l0).length cap0)] (by rfl) (by kernel_rfl) (fun a => ?_)
 refine cW_seq ?_
 refine cW_region ?_
 refine wS_pure 1 [(2, .slice none 0 0)] (by kernel_rfl) ?_
 refine wS_end (by rfl) ?_
 refine eX_then ?_
 refine cW_seq ?_
 refine cW_region ?_
 refine wS_bs0 (α := Int) (enc := encI) (d := 3) (t := 66) (T := 2) (by kernel_rfl) el66 ?_
 intro b1 w1 G1 F1 hc1
 replace F0 := F0.chg hc1 Dj.nil
 replace hB := hB.inS hc1 inNil
 replace G1 := Nat.le_trans hZ G1
 replace G1 := low1 G1
 replace hZ := Nat.le_trans hZ hc1.size
 refine wS_pure 1 [(4, .slice A0 (l0).length cap0)] (by kernel_rfl) ?_
 obtain ⟨_, hk1, hm⟩ := bindE hm
 replace hk1 := apE hk1
 refine wS_appendAny (enc := encI) (l := (([] : List (Int)) : List (Int))) (l2 := (l0 : List (Int))) (d := 5) (t := 66) (T := 2) (A := (some ⟨b1, 0, none⟩)) (A2 := A0) (cap := 0) (cap2 := cap0) (by kernel_rfl) el66 encI_ok F1 F0 hk1 ?_
 intro w2 fp1 A1 cap1 F2 hc2 hp1
 have G2 := low_ap G1 hZ hp1
 replace F0 := F0.chg hc2 (Dj.of L0 G1)
 replace hB := hB.inS hc2 (inLow G1)
 replace hZ := Nat.le_trans hZ hc2.size
 refine wS_pure 1 [(2, .slice A1 ((([] : List (Int))) ++ l0).length cap1)] (by kernel_rfl) ?_
 refine wS_end (by rfl) ?_
 refine eX_then ?_
 refine cW_ret ?_
 have hq : (some ((([] : List (Int))) ++ l0) : Option ((List (Int)))) = some _ := hm
 replace hq := someE hq
 subst hq
 refine eX_ret (vs := [.slice A1 ((([] : List (Int))) ++ l0).length cap1]) [.tmp 2] (by rfl) ⟨by (show lkE _ _ _ = _); kernel_rfl, trivial⟩ ?_
 exact ⟨A1, cap1, fp1, rfl, F2, G2, hB⟩

set_option maxRecDepth 100000 in
/-- spec.l00Min -/
theorem c_spec_l00Min {w0 : World} {p0 : Int} {p1 : Int} {r : (Int)} (hm : m_spec_l00Min p0 p1 = some r)  :
  Calls Try.prog 54 #[.int .i64 (p0), .int .i64 (p1)] w0 fun e w' => e = .returned (.int .i64 (r)) ∧ Chg [] w0 w' := by
 have hB : Chg [] w0 w0 := Chg.refl _ _
 have hZ := Nat.le_refl w0.heap.size
 unfold m_spec_l00Min at hm
 refine enterE (N := 10) Try.func54 (by rfl) Try.ntmps54 (by simp) [(0, .int .i64 (p0)), (1, .int .i64 (p1))] (by rfl) (by kernel_rfl) (fun a => ?_)
 refine cW_seq ?_
 refine cW_region ?_
 refine wS_pure 1 [(4, .int .i64 (0))] (by kernel_rfl) ?_
 refine wS_end (by rfl) ?_
 refine eX_then ?_
 refine cW_seq ?_
 refine cW_seq ?_
 refine cW_region ?_
 refine wS_pure 3 [(7, .bool (decide (p0 < p1))), (6, .int .i64 (p1)), (5, .int .i64 (p0))] (by kernel_rfl) ?_
 refine wS_end (by rfl) ?_
 refine eX_then ?_
 refine cW_cond (t := decide (p0 < p1)) (by kernel_rfl) (fun hb1 => ?_) (fun hb1 => ?_)
 ·have hm := condT hb1 hm
  refine cW_seq ?_
  refine cW_region ?_
  refine wS_pure 2 [(4, .int .i64 (p0)), (8, .int .i64 (p0))] (by kernel_rfl) ?_
  refine wS_end (by rfl) ?_
  refine eX_then ?_
  refine cW_ret ?_
  refine eX_then_ret ?_
  have hq : (some p0 : Option ((Int))) = some _ := hm
  replace hq := someE hq
  subst hq
  refine eX_ret (vs := [.int .i64 (p0)]) [.tmp 4] (by rfl) ⟨by (show lkE _ _ _ = _); kernel_rfl, trivial⟩ ?_
  exact ⟨rfl, hB⟩
 ·have hm := condF hb1 hm
  refine cW_skip ?_
  refine eX_then ?_
  refine cW_seq ?_
  refine cW_region ?_
  refine wS_pure 2 [(4, .int .i64 (p1)), (9, .int .i64 (p1))] (by kernel_rfl) ?_
  refine wS_end (by rfl) ?_
  refine eX_then ?_
  refine cW_ret ?_
  have hq : (some p1 : Option ((Int))) = some _ := hm
  replace hq := someE hq
  subst hq
  refine eX_ret (vs := [.int .i64 (p1)]) [.tmp 4] (by rfl) ⟨by (show lkE _ _ _ = _); kernel_rfl, trivial⟩ ?_
  exact ⟨rfl, hB⟩

set_option maxRecDepth 100000 in
/-- spec.l05Steiner -/
theorem c_spec_l05Steiner {w0 : World} {l0 : List (Int × Int)} {A0 : Option Addr} {cap0 : Nat} {fp0 : List Nat} {r : (Int)} (hm : m_spec_l05Steiner l0 = some r) (F0 : Sl 2 encII w0 fp0 A0 l0) :
  Calls Try.prog 35 #[.slice A0 (l0).length cap0] w0 fun e w' => e = .returned (.int .i64 (r)) ∧ Chg [] w0 w' := by
 have L0 := F0.low
 have hB : Chg [] w0 w0 := Chg.refl _ _
 have hZ := Nat.le_refl w0.heap.size
 unfold m_spec_l05Steiner at hm
 refine enterE (N := 171) Try.func35 (by rfl) Try.ntmps35 (by simp) [(0, .slice A0 (l0).length cap0)] (by rfl) (by kernel_rfl) (fun a => ?_)
 refine cW_seq ?_
 refine cW_region ?_
 refine wS_pure 1 [(2, .int .i64 (0))] (by kernel_rfl) ?_
 refine wS_end (by rfl) ?_
 refine eX_then ?_
 refine cW_seq ?_
 refine cW_region ?_
 refine wS_pure 1 [(18, .slice A0 (l0).length cap0)] (by kernel_rfl) ?_
 obtain ⟨y1, hy1, hm⟩ := bindE hm
 refine wS_calls (d := 19) (f := 52) (vs := [.slice A0 (l0).length cap0]) (by kernel_rfl) ent52 (c_spec_l05Hanan hy1 F0) ?_
 rintro _ w1 ⟨A1, cap1, fp1, rfl, F1, G1, hc1⟩
 replace F0 := F0.chg hc1 Dj.nil
 replace hB := hB.inS hc1 inNil
 replace G1 := low_le hZ G1
 replace hZ := Nat.le_trans hZ hc1.size
 refine ⟨.slice A1 (y1).length cap1, rfl, ?_⟩
 refine wS_pure 1 [(3, .slice A1 (y1).length cap1)] (by kernel_rfl) ?_
 refine wS_end (by rfl) ?_
 refine eX_then ?_
 refine cW_seq ?_
 refine cW_region ?_
 refine wS_pure 3 [(4, .int .i64 (((y1).length : Int))), (21, .int .i64 (((y1).length : Int))), (20, .slice A1 (y1).length cap1)] (by kernel_rfl) ?_
 refine wS_end (by rfl) ?_
 refine eX_then ?_
 refine cW_seq ?_
 refine cW_region ?_
 refine wS_pure 3 [(24, .int .u64 (wu (((l0).length : Int)))), (23, .int .i64 (((l0).length : Int))), (22, .slice A0 (l0).length cap0)] (by kernel_rfl) ?_
 obtain ⟨u1, hu1, hm⟩ := bindE hm
 refine wS_shl (d := 25) (x := 1) (y := wu (((l0).length : Int))) (yk := .u64) (by kernel_rfl) (p0E hu1) ?_
 refine wS_pure 1 [(5, .int .i64 (shlI 1 (wu (((l0).length : Int)))))] (by kernel_rfl) ?_
 refine wS_end (by rfl) ?_
 refine eX_then ?_
 refine cW_seq ?_
 refine cW_region ?_
 refine wS_pure 1 [(26, .int .i64 (shlI 1 (wu (((l0).length : Int)))))] (by kernel_rfl) ?_
 obtain ⟨_, hk1, hm⟩ := bindE hm
 replace hk1 := mkE hk1
 refine wS_makeR (T2 := 2) (k := 1) (enc := encI) (d := 27) (t := 40) (T := 66) (k1 := .i64) (k2 := .i64) (m := shlI 1 (wu (((l0).length : Int)))) (by kernel_rfl) el40 hk1.1 hk1.2 ?_
 intro b1 w3 G2 F2 hc3
 have D1 : Dj fp1 ([b1] ++ []) := Dj.of F1.low (lowApp (low1 G2) lowNil)
 replace F0 := F0.chg hc3 Dj.nil
 replace F1 := F1.chg hc3 Dj.nil
 replace hB := hB.inS hc3 inNil
 replace G2 := Nat.le_trans hZ G2
 replace G2 := low1 G2
 replace hZ := Nat.le_trans hZ hc3.size
 replace G2 := lowApp G2 lowNil
 refine wS_pure 1 [(6, .slice (some ⟨b1, 0, none⟩) (List.replicate (Int.toNat (shlI 1 (wu (((l0).length : Int))))) ([] : List (Int))).length (Int.toNat (shlI 1 (wu (((l0).length : Int))))))] (by kernel_rfl) ?_
 refine wS_end (by rfl) ?_
 refine eX_then ?_
 refine cW_seq ?_
 refine cW_seq ?_
 refine cW_region ?_
 refine wS_pure 1 [(7, .int .i64 (1))] (by kernel_rfl) ?_
 refine wS_end (by rfl) ?_
 refine eX_then ?_
 obtain ⟨r1, hr1, hm⟩ := bindE hm
 have hm1 := hm
 refine cW_cut (fun a' w' => ∃ l1 : List (List (Int)), ∃ A2 : Option Addr, ∃ cap2 : Nat, ∃ fp2 : List Nat, ∃ fr1 : List Nat, l1 = r1 ∧ Fr 171 [(4, .int .i64 (((y1).length : Int))), (5, .int .i64 (shlI 1 (wu (((l0).length : Int))))), (6, .slice A2 (l1).length cap2)] a' ∧ OwR 1 encI 66 2 w' fp2 fr1 A2 cap2 l1 ∧ (∀ x ∈ (fp2 ++ fr1), w0.heap.size ≤ x) ∧ Chg [] w0 w' ∧ w0.heap.size ≤ w'.heap.size) ?_ ?_
 ·refine cW_block ?_
  refine cW_loop _ (fun (s1 : (List (List (Int))) × Int) a' w' => ∃ l3 : List (List (Int)), ∃ A3 : Option Addr, ∃ cap3 : Nat, ∃ fp3 : List Nat, ∃ fr2 : List Nat, ∃ x1 : Int, (l3, x1) = s1 ∧ Fr 171 [(0, .slice A0 (l0).length cap0), (3, .slice A1 (y1).length cap1), (4, .int .i64 (((y1).length : Int))), (5, .int .i64 (shlI 1 (wu (((l0).length : Int))))), (6, .slice A3 (l3).length cap3), (7, .int .i64 (x1))] a' ∧ Sl 2 encII w' fp0 A0 l0 ∧ Ow 2 encII 34 w' fp1 A1 cap1 y1 ∧ OwR 1 encI 66 2 w' fp3 fr2 A3 cap3 l3 ∧ (∀ x ∈ (fp3 ++ fr2), w0.heap.size ≤ x) ∧ Dj fp1 (fp3 ++ fr2) ∧ Chg [] w0 w' ∧ w0.heap.size ≤ w'.heap.size) hr1 (fun hst => ⟨List.replicate (Int.toNat (shlI 1 (wu (((l0).length : Int))))) ([] : List (Int)), (some ⟨b1, 0, none⟩), (Int.toNat (shlI 1 (wu (((l0).length : Int))))), [b1], [], 1, rfl, Fr.of hst (by kernel_rfl), F0, F1, F2, G2, D1, hB, hZ⟩) ?_
  rintro _ c1 a' w4 ⟨l3, A3, cap3, fp3, fr2, x1, rfl, hF1, F3, F4, F5, G3, D2, hB, hZ⟩ hx1
  refine Fr.goOn hF1 (by kernel_rfl) ?_
  have hm := hx1
  unfold m_spec_l05Steiner_s23 at hm
  refine cW_seq ?_
  refine cW_seq ?_
  refine cW_region ?_
  refine wS_pure 3 [(30, .bool (decide (x1 < (shlI 1 (wu (((l0).length : Int))))))), (29, .int .i64 (shlI 1 (wu (((l0).length : Int))))), (28, .int .i64 (x1))] (by kernel_rfl) ?_
  refine wS_end (by rfl) ?_
  refine eX_then ?_
  refine cW_cond (t := decide (x1 < (shlI 1 (wu (((l0).length : Int)))))) (by kernel_rfl) (fun hb1 => ?_) (fun hb1 => ?_)
  ·have hm := condT hb1 hm
   refine cW_skip ?_
   refine eX_then ?_
   refine cW_seq ?_
   refine cW_block ?_
   refine cW_seq ?_
   refine cW_region ?_
   refine wS_pure 3 [(35, .int .i64 (((y1).length : Int))), (34, .int .i64 (x1)), (33, .slice A3 (l3).length cap3)] (by kernel_rfl) ?_
   obtain ⟨_, hk2, hm⟩ := bindE hm
   replace hk2 := mkE hk2
   refine wS_make (enc := encI) (x0 := (0 : Int)) (d := 36) (t := 66) (T := 2) (k1 := .i64) (k2 := .i64) (m := ((y1).length : Int)) (by kernel_rfl) el66 encI_ok (by rfl) hk2.1 hk2.2 ?_
   intro b2 w5 G4 F6 hc4
   have D3 : Dj fp1 [b2] := Dj.of F4.low (low1 G4)
   have D4 : Dj (fp3 ++ fr2) [b2] := Dj.of F5.low (low1 G4)
   replace F3 := F3.chg hc4 Dj.nil
   replace F4 := F4.chg hc4 Dj.nil
   replace F5 := F5.chg hc4 Dj.nil
   replace hB := hB.inS hc4 inNil
   replace G4 := Nat.le_trans hZ G4
   replace G4 := low1 G4
   replace hZ := Nat.le_trans hZ hc4.size
   obtain ⟨x2, hx2, hm⟩ := bindE hm
   refine wS_idx (d := 37) (T := 40) (A := A3) (n := (l3).length) (cap := cap3) (kd := .i64) (m := x1) (by kernel_rfl) sl40 ((F5.slr encI_ok).is hx2) ?_
   refine wS_storeRow (k := 1) (enc := encI) (x := x2) (l := List.replicate (Int.toNat (((y1).length : Int))) ((0 : Int))) (T := 66) (U := 66) (cap := cap3) (c := (Int.toNat (((y1).length : Int)))) (A := A3) (B := (some ⟨b2, 0, none⟩)) (m := x1) (by kernel_rfl) sz66 F5 F6 D4 hx2 ?_
   intro w6 F7 hc5
   have D5 : Dj fp1 (fp3 ++ (fr2 ++ [b2])) := Dj.app (Dj.inl D2) (Dj.app (Dj.inr D2) D3)
   have G5 := lowApp (low_inl G3) (lowApp (low_inr G3) G4)
   have Dm1 := Dj.inl D4.symm
   replace F3 := F3.chg hc5 (Dj.inl (Dj.of L0 G3))
   replace F4 := F4.chg hc5 (Dj.inl D2)
   replace F6 := F6.chg hc5 (Dj.inl (D4).symm)
   replace hB := hB.inS hc5 (memS_inl (inLow G3))
   replace hZ := Nat.le_trans hZ hc5.size
   replace F6 := (F6.sl encI_ok)
   rewrite [show (l3).length = (l3.set (Int.toNat x1) (List.replicate (Int.toNat (((y1).length : Int))) ((0 : Int)))).length from (List.length_set ..).symm]
   refine wS_end (by rfl) ?_
   refine eX_then ?_
   refine cW_seq ?_
   refine cW_seq ?_
   refine cW_region ?_
   refine wS_pure 1 [(8, .int .i64 (0))] (by kernel_rfl) ?_
   refine wS_end (by rfl) ?_
   refine eX_then ?_
   obtain ⟨r2, hr2, hm⟩ := bindE hm
   have hm2 := hm
   refine cW_cut (fun a' w' => ∃ l4 : List (List (Int)), l4 = r2 ∧ Fr 171 [(0, .slice A0 (l0).length cap0), (3, .slice A1 (y1).length cap1), (4, .int .i64 (((y1).length : Int))), (5, .int .i64 (shlI 1 (wu (((l0).length : Int))))), (6, .slice A3 (l4).length cap3), (7, .int .i64 (x1))] a' ∧ Sl 2 encII w' fp0 A0 l0 ∧ Ow 2 encII 34 w' fp1 A1 cap1 y1 ∧ OwR 1 encI 66 2 w' fp3 (fr2 ++ [b2]) A3 cap3 l4 ∧ Chg [] w0 w' ∧ w0.heap.size ≤ w'.heap.size) ?_ ?_
   ·refine cW_block ?_
    refine cW_loop _ (fun (s2 : Int × (List (List (Int)))) a' w' => ∃ x3 : Int, ∃ l5 : List (List (Int)), (x3, l5) = s2 ∧ Fr 171 [(0, .slice A0 (l0).length cap0), (3, .slice A1 (y1).length cap1), (4, .int .i64 (((y1).length : Int))), (5, .int .i64 (shlI 1 (wu (((l0).length : Int))))), (6, .slice A3 (l5).length cap3), (7, .int .i64 (x1)), (8, .int .i64 (x3))] a' ∧ Sl 2 encII w' fp0 A0 l0 ∧ Ow 2 encII 34 w' fp1 A1 cap1 y1 ∧ OwR 1 encI 66 2 w' fp3 (fr2 ++ [b2]) A3 cap3 l5 ∧ Chg [] w0 w' ∧ w0.heap.size ≤ w'.heap.size) hr2 (fun hst => ⟨0, l3.set (Int.toNat x1) (List.replicate (Int.toNat (((y1).length : Int))) ((0 : Int))), rfl, Fr.of hst (by kernel_rfl), F3, F4, F7, hB, hZ⟩) ?_
    rintro _ c2 a' w7 ⟨x3, l5, rfl, hF2, F8, F9, F10, hB, hZ⟩ hx3
    refine Fr.goOn hF2 (by kernel_rfl) ?_
    have hm := hx3
    unfold m_spec_l05Steiner_s28 at hm
    refine cW_seq ?_
    refine cW_seq ?_
    refine cW_region ?_
    refine wS_pure 3 [(40, .bool (decide (x3 < (((y1).length : Int))))), (39, .int .i64 (((y1).length : Int))), (38, .int .i64 (x3))] (by kernel_rfl) ?_
    refine wS_end (by rfl) ?_
    refine eX_then ?_
    refine cW_cond (t := decide (x3 < (((y1).length : Int)))) (by kernel_rfl) (fun hb2 => ?_) (fun hb2 => ?_)
    ·have hm := condT hb2 hm
     refine cW_skip ?_
     refine eX_then ?_
     refine cW_seq ?_
     refine cW_block ?_
     refine cW_seq ?_
     refine cW_region ?_
     refine wS_pure 1 [(9, .int .i64 ((-1)))] (by kernel_rfl) ?_
     refine wS_end (by rfl) ?_
     refine eX_then ?_
     refine cW_seq ?_
     refine cW_seq ?_
     refine cW_region ?_
     refine wS_pure 1 [(10, .int .i64 (0))] (by kernel_rfl) ?_
     refine wS_end (by rfl) ?_
     refine eX_then ?_
     obtain ⟨r3, hr3, hm⟩ := bindE hm
     have hm3 := hm
     refine cW_cut (fun a' w' => ∃ x4 : Int, x4 = r3 ∧ Fr 171 [(0, .slice A0 (l0).length cap0), (3, .slice A1 (y1).length cap1), (4, .int .i64 (((y1).length : Int))), (5, .int .i64 (shlI 1 (wu (((l0).length : Int))))), (6, .slice A3 (l5).length cap3), (7, .int .i64 (x1)), (8, .int .i64 (x3)), (9, .int .i64 (x4))] a' ∧ Sl 2 encII w' fp0 A0 l0 ∧ Ow 2 encII 34 w' fp1 A1 cap1 y1 ∧ OwR 1 encI 66 2 w' fp3 (fr2 ++ [b2]) A3 cap3 l5 ∧ Chg [] w0 w' ∧ w0.heap.size ≤ w'.heap.size) ?_ ?_
     ·refine cW_block ?_
      refine cW_loop _ (fun (s3 : Int × Int) a' w' => ∃ x5 : Int, ∃ x6 : Int, (x5, x6) = s3 ∧ Fr 171 [(0, .slice A0 (l0).length cap0), (3, .slice A1 (y1).length cap1), (4, .int .i64 (((y1).length : Int))), (5, .int .i64 (shlI 1 (wu (((l0).length : Int))))), (6, .slice A3 (l5).length cap3), (7, .int .i64 (x1)), (8, .int .i64 (x3)), (9, .int .i64 (x5)), (10, .int .i64 (x6))] a' ∧ Sl 2 encII w' fp0 A0 l0 ∧ Ow 2 encII 34 w' fp1 A1 cap1 y1 ∧ OwR 1 encI 66 2 w' fp3 (fr2 ++ [b2]) A3 cap3 l5 ∧ Chg [] w0 w' ∧ w0.heap.size ≤ w'.heap.size) hr3 (fun hst => ⟨(-1), 0, rfl, Fr.of hst (by kernel_rfl), F8, F9, F10, hB, hZ⟩) ?_
      rintro _ c3 a' w8 ⟨x5, x6, rfl, hF3, F11, F12, F13, hB, hZ⟩ hx4
      refine Fr.goOn hF3 (by kernel_rfl) ?_
      have hm := hx4
      unfold m_spec_l05Steiner_s29 at hm
      refine cW_seq ?_
      refine cW_seq ?_
      refine cW_region ?_
      refine wS_pure 4 [(46, .bool (decide (x6 < (((l0).length : Int))))), (45, .int .i64 (((l0).length : Int))), (44, .slice A0 (l0).length cap0), (43, .int .i64 (x6))] (by kernel_rfl) ?_
      refine wS_end (by rfl) ?_
      refine eX_then ?_
      refine cW_cond (t := decide (x6 < (((l0).length : Int)))) (by kernel_rfl) (fun hb3 => ?_) (fun hb3 => ?_)
      ·have hm := condT hb3 hm
       refine cW_skip ?_
       refine eX_then ?_
       refine cW_seq ?_
       refine cW_block ?_
       obtain ⟨s4, hs1, hm⟩ := bindE hm
       refine cW_cut (fun a' w' => ∃ x7 : Int, x7 = s4 ∧ Fr 171 [(0, .slice A0 (l0).length cap0), (3, .slice A1 (y1).length cap1), (4, .int .i64 (((y1).length : Int))), (5, .int .i64 (shlI 1 (wu (((l0).length : Int))))), (6, .slice A3 (l5).length cap3), (7, .int .i64 (x1)), (8, .int .i64 (x3)), (9, .int .i64 (x7)), (10, .int .i64 (x6))] a' ∧ Sl 2 encII w' fp0 A0 l0 ∧ Ow 2 encII 34 w' fp1 A1 cap1 y1 ∧ OwR 1 encI 66 2 w' fp3 (fr2 ++ [b2]) A3 cap3 l5 ∧ Chg [] w0 w' ∧ w0.heap.size ≤ w'.heap.size) ?_ ?_
       ·have hm := hs1
        refine cW_seq ?_
        refine cW_region ?_
        refine wS_pure 3 [(51, .int .u64 (wu x6)), (50, .int .i64 (x6)), (49, .int .i64 (x1))] (by kernel_rfl) ?_
        obtain ⟨u2, hu2, hm⟩ := bindE hm
        refine wS_shl (d := 52) (x := 1) (y := wu x6) (yk := .u64) (by kernel_rfl) (p0E hu2) ?_
        refine wS_pure 1 [(53, .bool (x1 == (shlI 1 (wu x6))))] (by kernel_rfl) ?_
        refine wS_end (by rfl) ?_
        refine eX_then ?_
        refine cW_cond (t := x1 == (shlI 1 (wu x6))) (by kernel_rfl) (fun hb4 => ?_) (fun hb4 => ?_)
        ·have hm := condT hb4 hm
         refine cW_drawnTail [] 8 (by kernel_rfl) (by kernel_rfl) (fun w9 hc6 => ?_)
         replace F11 := F11.chg hc6 Dj.nil
         replace F12 := F12.chg hc6 Dj.nil
         replace F13 := F13.chg hc6 Dj.nil
         replace hB := hB.inS hc6 inNil
         replace hZ := Nat.le_trans hZ hc6.size
         have hS := Chg.refl [] w9
         have Z1 := F11
         have Z2 := F12
         have Z3 := F13
         refine wH_take [0, 1] [1, 0] [(55, .int .i64 (x6)), (54, .slice A0 (l0).length cap0)] (by kernel_rfl) (qT (qT (qB (qT (qL (qB (qT (qT (qB (qT (qL (qB (qT (qT (qB (qT (qL (qB (qT (qT qZ)))))))))))))))))))) (by kernel_rfl) ?_
         obtain ⟨x8, hx5, hm⟩ := bindE hm
         refine wH_idx (i := 2) (d := 56) (T := 26) (A := A0) (n := (l0).length) (cap := cap0) (kd := .i64) (m := x6) (by kernel_rfl) (qT (qT (qB (qT (qL (qB (qT (qT (qB (qT (qL (qB (qT (qT (qB (qT (qL (qB (qT (qT qZ)))))))))))))))))))) (by kernel_rfl) (by kernel_rfl) sl26 (F11.is hx5) ?_
         refine wH_loadA (i := 3) (d := 57) (T := 34) (ad := (elA A0 2 (x6) 0)) (vs := [.int .i64 (x8.1), .int .i64 (x8.2)]) (by kernel_rfl) (qT (qT (qB (qT (qL (qB (qT (qT (qB (qT (qL (qB (qT (qT (qB (qT (qL (qB (qT (qT qZ)))))))))))))))))))) (by kernel_rfl) (by kernel_rfl) vt34 (fun W hW i u hu => Sl.cells_at (Z1.chg hW Dj.nil) hx5 0 hu (by rfl)) ?_
         refine wH_take [4, 5] [5, 4, 3, 2, 1, 0] [(59, .int .i64 (x3)), (58, .slice A1 (y1).length cap1)] (by kernel_rfl) (qT (qT (qB (qT (qL (qB (qT (qT (qB (qT (qL (qB (qT (qT (qB (qT (qL (qB (qT (qT qZ)))))))))))))))))))) (by kernel_rfl) ?_
         obtain ⟨x9, hx6, hm⟩ := bindE hm
         refine wH_idx (i := 6) (d := 60) (T := 26) (A := A1) (n := (y1).length) (cap := cap1) (kd := .i64) (m := x3) (by kernel_rfl) (qT (qT (qB (qT (qL (qB (qT (qT (qB (qT (qL (qB (qT (qT (qB (qT (qL (qB (qT (qT qZ)))))))))))))))))))) (by kernel_rfl) (by kernel_rfl) sl26 ((F12.sl encII_ok).is hx6) ?_
         refine wH_loadA (i := 7) (d := 61) (T := 34) (ad := (elA A1 2 (x3) 0)) (vs := [.int .i64 (x9.1), .int .i64 (x9.2)]) (by kernel_rfl) (qT (qT (qB (qT (qL (qB (qT (qT (qB (qT (qL (qB (qT (qT (qB (qT (qL (qB (qT (qT qZ)))))))))))))))))))) (by kernel_rfl) (by kernel_rfl) vt34 (fun W hW i u hu => Sl.cells_at ((Z2.chg hW Dj.nil).sl encII_ok) hx6 0 hu (by rfl)) ?_
         refine wH_done (by kernel_rfl) ?_
         refine eX_tail ?_
         obtain ⟨y2, hy2, hm⟩ := bindE hm
         refine wS_calls (d := 62) (f := 37) (vs := [.agg #[.int .i64 (x8.1), .int .i64 (x8.2)], .agg #[.int .i64 (x9.1), .int .i64 (x9.2)]]) (by kernel_rfl) ent37 (c_spec_l01Far hy2) ?_
         rintro _ w10 ⟨rfl, hc7⟩
         replace F11 := F11.chg hc7 Dj.nil
         replace F12 := F12.chg hc7 Dj.nil
         replace F13 := F13.chg hc7 Dj.nil
         replace hB := hB.inS hc7 inNil
         replace hZ := Nat.le_trans hZ hc7.size
         refine ⟨.int .i64 (y2), rfl, ?_⟩
         refine wS_pure 1 [(9, .int .i64 (y2))] (by kernel_rfl) ?_
         refine wS_end (by rfl) ?_
         have hq : (some y2 : Option (Int)) = some _ := hm
         replace hq := someE hq
         subst hq
         exact eX_J (fun hst => ⟨y2, rfl, Fr.of hst (by kernel_rfl), F11, F12, F13, hB, hZ⟩)
        ·have hm := condF hb4 hm
         refine cW_skip ?_
         have hq : (some x5 : Option (Int)) = some _ := hm
         replace hq := someE hq
         subst hq
         exact eX_J (fun hst => ⟨x5, rfl, Fr.of hst (by kernel_rfl), F11, F12, F13, hB, hZ⟩)
       ·rintro a' w11 ⟨x7, hJ, hF4, F14, F15, F16, hB, hZ⟩
        subst hJ
        refine Fr.goX hF4 (by kernel_rfl) ?_
        refine eX_block ?_
        refine eX_then ?_
        refine cW_region ?_
        refine wS_pure 3 [(10, .int .i64 (wr (x6 + 1))), (48, .int .i64 (wr (x6 + 1))), (47, .int .i64 (x6))] (by kernel_rfl) ?_
        refine wS_end (by rfl) ?_
        have hq : (some (Ctl.next ((x7, wr (x6 + 1)))) : Option (Ctl (Int × Int) (Int))) = some _ := hm
        replace hq := someE hq
        subst hq
        exact eX_next hx4 (fun hst => ⟨x7, wr (x6 + 1), rfl, Fr.of hst (by kernel_rfl), F14, F15, F16, hB, hZ⟩)
      ·have hm := condF hb3 hm
       refine cW_exit ?_
       refine eX_then_exit ?_
       have hq : (some (Ctl.out x5) : Option (Ctl (Int × Int) (Int))) = some _ := hm
       replace hq := someE hq
       subst hq
       refine eX_outX hx4 (fun hr4 => ?_)
       replace hr4 := hr4.symm
       subst hr4
       refine eX_block_hit ?_
       exact eX_J (fun hst => ⟨x5, rfl, Fr.of hst (by kernel_rfl), F11, F12, F13, hB, hZ⟩)
     ·rintro a' w12 ⟨x4, hJ, hF5, F17, F18, F19, hB, hZ⟩
      subst hJ
      refine Fr.goX hF5 (by kernel_rfl) ?_
      refine eX_then ?_
      refine cW_seq ?_
      refine cW_seq ?_
      refine cW_region ?_
      refine wS_pure 5 [(11, .int .i64 (andI (wr (x1 - 1)) x1)), (66, .int .i64 (andI (wr (x1 - 1)) x1)), (65, .int .i64 (x1)), (64, .int .i64 (wr (x1 - 1))), (63, .int .i64 (x1))] (by kernel_rfl) ?_
      refine wS_end (by rfl) ?_
      refine eX_then ?_
      obtain ⟨r4, hr5, hm⟩ := bindE hm
      have hm4 := hm
      refine cW_cut (fun a' w' => ∃ x10 : Int, x10 = r4 ∧ Fr 171 [(0, .slice A0 (l0).length cap0), (3, .slice A1 (y1).length cap1), (4, .int .i64 (((y1).length : Int))), (5, .int .i64 (shlI 1 (wu (((l0).length : Int))))), (6, .slice A3 (l5).length cap3), (7, .int .i64 (x1)), (8, .int .i64 (x3)), (9, .int .i64 (x10))] a' ∧ Sl 2 encII w' fp0 A0 l0 ∧ Ow 2 encII 34 w' fp1 A1 cap1 y1 ∧ OwR 1 encI 66 2 w' fp3 (fr2 ++ [b2]) A3 cap3 l5 ∧ Chg [] w0 w' ∧ w0.heap.size ≤ w'.heap.size) ?_ ?_
      ·refine cW_block ?_
       refine cW_loop _ (fun (s5 : Int × Int) a' w' => ∃ x11 : Int, ∃ x12 : Int, (x11, x12) = s5 ∧ Fr 171 [(0, .slice A0 (l0).length cap0), (3, .slice A1 (y1).length cap1), (4, .int .i64 (((y1).length : Int))), (5, .int .i64 (shlI 1 (wu (((l0).length : Int))))), (6, .slice A3 (l5).length cap3), (7, .int .i64 (x1)), (8, .int .i64 (x3)), (9, .int .i64 (x11)), (11, .int .i64 (x12))] a' ∧ Sl 2 encII w' fp0 A0 l0 ∧ Ow 2 encII 34 w' fp1 A1 cap1 y1 ∧ OwR 1 encI 66 2 w' fp3 (fr2 ++ [b2]) A3 cap3 l5 ∧ Chg [] w0 w' ∧ w0.heap.size ≤ w'.heap.size) hr5 (fun hst => ⟨x4, andI (wr (x1 - 1)) x1, rfl, Fr.of hst (by kernel_rfl), F17, F18, F19, hB, hZ⟩) ?_
       rintro _ c4 a' w13 ⟨x11, x12, rfl, hF6, F20, F21, F22, hB, hZ⟩ hx7
       refine Fr.goOn hF6 (by kernel_rfl) ?_
       have hm := hx7
       unfold m_spec_l05Steiner_s30 at hm
       refine cW_seq ?_
       refine cW_seq ?_
       refine cW_region ?_
       refine wS_pure 2 [(68, .bool (decide (x12 > 0))), (67, .int .i64 (x12))] (by kernel_rfl) ?_
       refine wS_end (by rfl) ?_
       refine eX_then ?_
       refine cW_cond (t := decide (x12 > 0)) (by kernel_rfl) (fun hb5 => ?_) (fun hb5 => ?_)
       ·have hm := condT hb5 hm
        refine cW_skip ?_
        refine eX_then ?_
        refine cW_seq ?_
        refine cW_block ?_
        obtain ⟨s6, hs2, hm⟩ := bindE hm
        refine cW_cut (fun a' w' => ∃ x13 : Int, x13 = s6 ∧ Fr 171 [(0, .slice A0 (l0).length cap0), (3, .slice A1 (y1).length cap1), (4, .int .i64 (((y1).length : Int))), (5, .int .i64 (shlI 1 (wu (((l0).length : Int))))), (6, .slice A3 (l5).length cap3), (7, .int .i64 (x1)), (8, .int .i64 (x3)), (9, .int .i64 (x13)), (11, .int .i64 (x12))] a' ∧ Sl 2 encII w' fp0 A0 l0 ∧ Ow 2 encII 34 w' fp1 A1 cap1 y1 ∧ OwR 1 encI 66 2 w' fp3 (fr2 ++ [b2]) A3 cap3 l5 ∧ Chg [] w0 w' ∧ w0.heap.size ≤ w'.heap.size) ?_ ?_
        ·have hm := hs2
         refine cW_seq ?_
         refine cW_drawnTail [] 16 (by kernel_rfl) (by kernel_rfl) (fun w14 hc8 => ?_)
         replace F20 := F20.chg hc8 Dj.nil
         replace F21 := F21.chg hc8 Dj.nil
         replace F22 := F22.chg hc8 Dj.nil
         replace hB := hB.inS hc8 inNil
         replace hZ := Nat.le_trans hZ hc8.size
         have hS := Chg.refl [] w14
         have Z4 := F20
         have Z5 := F21
         have Z6 := F22
         refine wH_take [0, 1] [1, 0] [(74, .int .i64 (x12)), (73, .slice A3 (l5).length cap3)] (by kernel_rfl) (qT (qT (qT (qB (qT (qL (qB (qT (qT (qB (qT (qL (qB (qT (qT (qB (qT (qL (qB (qT (qT qZ))))))))))))))))))))) (by kernel_rfl) ?_
         obtain ⟨x14, hx8, hm⟩ := bindE hm
         refine wH_idx (i := 2) (d := 75) (T := 40) (A := A3) (n := (l5).length) (cap := cap3) (kd := .i64) (m := x12) (by kernel_rfl) (qT (qT (qT (qB (qT (qL (qB (qT (qT (qB (qT (qL (qB (qT (qT (qB (qT (qL (qB (qT (qT qZ))))))))))))))))))))) (by kernel_rfl) (by kernel_rfl) sl40 ((F22.slr encI_ok).is hx8) ?_
         obtain ⟨A4, cap4, fp4, hc9, hsub1, F23, hcl1⟩ := OwR.lend Z6 hx8
         have G6 := low_inr G5
         have Dm2 := (F22.dj).symm
         refine wH_load1 (i := 3) (d := 76) (T := 66) (ad := (elA A3 1 (x12) 0)) (v := .slice A4 (x14).length cap4) (by kernel_rfl) (qT (qT (qT (qB (qT (qL (qB (qT (qT (qB (qT (qL (qB (qT (qT (qB (qT (qL (qB (qT (qT qZ))))))))))))))))))))) (by kernel_rfl) (by kernel_rfl) vt66 (fun W hW => hW.keep hc9) ?_
         refine wH_take [4] [4, 3, 2, 1, 0] [(77, .int .i64 (x3))] (by kernel_rfl) (qT (qT (qT (qB (qT (qL (qB (qT (qT (qB (qT (qL (qB (qT (qT (qB (qT (qL (qB (qT (qT qZ))))))))))))))))))))) (by kernel_rfl) ?_
         obtain ⟨x15, hx9, hm⟩ := bindE hm
         refine wH_idx (i := 5) (d := 78) (T := 66) (A := A4) (n := (x14).length) (cap := cap4) (kd := .i64) (m := x3) (by kernel_rfl) (qT (qT (qT (qB (qT (qL (qB (qT (qT (qB (qT (qL (qB (qT (qT (qB (qT (qL (qB (qT (qT qZ))))))))))))))))))))) (by kernel_rfl) (by kernel_rfl) sl66 ((F23.sl encI_ok).is hx9) ?_
         refine wH_load1 (i := 6) (d := 79) (T := 2) (ad := (elA A4 1 (x3) 0)) (v := .int .i64 (x15)) (by kernel_rfl) (qT (qT (qT (qB (qT (qL (qB (qT (qT (qB (qT (qL (qB (qT (qT (qB (qT (qL (qB (qT (qT qZ))))))))))))))))))))) (by kernel_rfl) (by kernel_rfl) vt2 (fun W hW => Sl.cell ((F23.chg hW Dj.nil).sl encI_ok) hx9 0 (by rfl)) ?_
         refine wH_take [7, 8, 9, 10] [10, 9, 8, 7, 6, 5, 4, 3, 2, 1, 0] [(83, .int .i64 (andNI x1 x12)), (82, .int .i64 (x12)), (81, .int .i64 (x1)), (80, .slice A3 (l5).length cap3)] (by kernel_rfl) (qT (qT (qT (qB (qT (qL (qB (qT (qT (qB (qT (qL (qB (qT (qT (qB (qT (qL (qB (qT (qT qZ))))))))))))))))))))) (by kernel_rfl) ?_
         obtain ⟨x16, hx10, hm⟩ := bindE hm
         refine wH_idx (i := 11) (d := 84) (T := 40) (A := A3) (n := (l5).length) (cap := cap3) (kd := .i64) (m := andNI x1 x12) (by kernel_rfl) (qT (qT (qT (qB (qT (qL (qB (qT (qT (qB (qT (qL (qB (qT (qT (qB (qT (qL (qB (qT (qT qZ))))))))))))))))))))) (by kernel_rfl) (by kernel_rfl) sl40 ((F22.slr encI_ok).is hx10) ?_
         obtain ⟨A5, cap5, fp5, hc10, hsub2, F24, hcl2⟩ := OwR.lend Z6 hx10
         have G7 := low_inr G5
         have Dm3 := (F22.dj).symm
         refine wH_load1 (i := 12) (d := 85) (T := 66) (ad := (elA A3 1 (andNI x1 x12) 0)) (v := .slice A5 (x16).length cap5) (by kernel_rfl) (qT (qT (qT (qB (qT (qL (qB (qT (qT (qB (qT (qL (qB (qT (qT (qB (qT (qL (qB (qT (qT qZ))))))))))))))))))))) (by kernel_rfl) (by kernel_rfl) vt66 (fun W hW => hW.keep hc10) ?_
         refine wH_take [13] [13, 12, 11, 10, 9, 8, 7, 6, 5, 4, 3, 2, 1, 0] [(86, .int .i64 (x3))] (by kernel_rfl) (qT (qT (qT (qB (qT (qL (qB (qT (qT (qB (qT (qL (qB (qT (qT (qB (qT (qL (qB (qT (qT qZ))))))))))))))))))))) (by kernel_rfl) ?_
         obtain ⟨x17, hx11, hm⟩ := bindE hm
         refine wH_idx (i := 14) (d := 87) (T := 66) (A := A5) (n := (x16).length) (cap := cap5) (kd := .i64) (m := x3) (by kernel_rfl) (qT (qT (qT (qB (qT (qL (qB (qT (qT (qB (qT (qL (qB (qT (qT (qB (qT (qL (qB (qT (qT qZ))))))))))))))))))))) (by kernel_rfl) (by kernel_rfl) sl66 ((F24.sl encI_ok).is hx11) ?_
         refine wH_load1 (i := 15) (d := 88) (T := 2) (ad := (elA A5 1 (x3) 0)) (v := .int .i64 (x17)) (by kernel_rfl) (qT (qT (qT (qB (qT (qL (qB (qT (qT (qB (qT (qL (qB (qT (qT (qB (qT (qL (qB (qT (qT qZ))))))))))))))))))))) (by kernel_rfl) (by kernel_rfl) vt2 (fun W hW => Sl.cell ((F24.chg hW Dj.nil).sl encI_ok) hx11 0 (by rfl)) ?_
         refine wH_done (by kernel_rfl) ?_
         refine eX_tail ?_
         refine wS_pure 2 [(12, .int .i64 (wr (x15 + x17))), (89, .int .i64 (wr (x15 + x17)))] (by kernel_rfl) ?_
         refine wS_end (by rfl) ?_
         refine eX_then ?_
         refine cW_prune [(0, .slice A0 (l0).length cap0), (3, .slice A1 (y1).length cap1), (4, .int .i64 (((y1).length : Int))), (5, .int .i64 (shlI 1 (wu (((l0).length : Int))))), (6, .slice A3 (l5).length cap3), (7, .int .i64 (x1)), (8, .int .i64 (x3)), (9, .int .i64 (x11)), (11, .int .i64 (x12)), (12, .int .i64 (wr (x15 + x17)))] (by kernel_rfl) (by kernel_rfl) (fun a1 => ?_)
         refine cW_seq ?_
         refine cW_region ?_
         refine wS_pure 3 [(92, .bool (decide (x11 < 0))), (91, .bool (decide (x11 < 0))), (90, .int .i64 (x11))] (by kernel_rfl) ?_
         refine wS_bool (decide (x11 < 0)) (fun hb6 => ?_) (fun hb6 => ?_)
         ·have hm := condT hb6 hm
          rewrite [hb6]
          refine wS_pure 4 [(96, .bool (true)), (95, undef), (94, undef), (93, undef)] (by kernel_rfl) ?_
          refine wS_end (by rfl) ?_
          refine eX_then ?_
          refine cW_cond_t (by kernel_rfl) ?_
          refine cW_region ?_
          refine wS_pure 2 [(9, .int .i64 (wr (x15 + x17))), (97, .int .i64 (wr (x15 + x17)))] (by kernel_rfl) ?_
          refine wS_end (by rfl) ?_
          have hq : (some (wr (x15 + x17)) : Option (Int)) = some _ := hm
          replace hq := someE hq
          subst hq
          exact eX_J (fun hst => ⟨wr (x15 + x17), rfl, Fr.of hst (by kernel_rfl), F20, F21, F22, hB, hZ⟩)
         ·have hm := condF hb6 hm
          rewrite [hb6]
          refine wS_pure 4 [(96, .bool (decide ((wr (x15 + x17)) < x11))), (95, .bool (decide ((wr (x15 + x17)) < x11))), (94, .int .i64 (x11)), (93, .int .i64 (wr (x15 + x17)))] (by kernel_rfl) ?_
          refine wS_end (by rfl) ?_
          refine eX_then ?_
          refine cW_cond (t := decide ((wr (x15 + x17)) < x11)) (by kernel_rfl) (fun hb7 => ?_) (fun hb7 => ?_)
          ·have hm := condT hb7 hm
           refine cW_region ?_
           refine wS_pure 2 [(9, .int .i64 (wr (x15 + x17))), (97, .int .i64 (wr (x15 + x17)))] (by kernel_rfl) ?_
           refine wS_end (by rfl) ?_
           have hq : (some (wr (x15 + x17)) : Option (Int)) = some _ := hm
           replace hq := someE hq
           subst hq
           exact eX_J (fun hst => ⟨wr (x15 + x17), rfl, Fr.of hst (by kernel_rfl), F20, F21, F22, hB, hZ⟩)
          ·have hm := condF hb7 hm
           refine cW_skip ?_
           have hq : (some x11 : Option (Int)) = some _ := hm
           replace hq := someE hq
           subst hq
           exact eX_J (fun hst => ⟨x11, rfl, Fr.of hst (by kernel_rfl), F20, F21, F22, hB, hZ⟩)
        ·rintro a' w15 ⟨x13, hJ, hF7, F25, F26, F27, hB, hZ⟩
         subst hJ
         refine Fr.goX hF7 (by kernel_rfl) ?_
         refine eX_block ?_
         refine eX_then ?_
         refine cW_region ?_
         refine wS_pure 5 [(11, .int .i64 (andI (wr (x12 - 1)) x1)), (72, .int .i64 (andI (wr (x12 - 1)) x1)), (71, .int .i64 (x1)), (70, .int .i64 (wr (x12 - 1))), (69, .int .i64 (x12))] (by kernel_rfl) ?_
         refine wS_end (by rfl) ?_
         have hq : (some (Ctl.next ((x13, andI (wr (x12 - 1)) x1))) : Option (Ctl (Int × Int) (Int))) = some _ := hm
         replace hq := someE hq
         subst hq
         exact eX_next hx7 (fun hst => ⟨x13, andI (wr (x12 - 1)) x1, rfl, Fr.of hst (by kernel_rfl), F25, F26, F27, hB, hZ⟩)
       ·have hm := condF hb5 hm
        refine cW_exit ?_
        refine eX_then_exit ?_
        have hq : (some (Ctl.out x11) : Option (Ctl (Int × Int) (Int))) = some _ := hm
        replace hq := someE hq
        subst hq
        refine eX_outX hx7 (fun hr6 => ?_)
        replace hr6 := hr6.symm
        subst hr6
        refine eX_block_hit ?_
        exact eX_J (fun hst => ⟨x11, rfl, Fr.of hst (by kernel_rfl), F20, F21, F22, hB, hZ⟩)
      ·rintro a' w16 ⟨x10, hJ, hF8, F28, F29, F30, hB, hZ⟩
       subst hJ
       refine Fr.goX hF8 (by kernel_rfl) ?_
       refine eX_then ?_
       refine cW_region ?_
       refine wS_pure 2 [(99, .int .i64 (x1)), (98, .slice A3 (l5).length cap3)] (by kernel_rfl) ?_
       obtain ⟨x18, hx12, hm⟩ := bindE hm
       refine wS_idx (d := 100) (T := 40) (A := A3) (n := (l5).length) (cap := cap3) (kd := .i64) (m := x1) (by kernel_rfl) sl40 ((F30.slr encI_ok).is hx12) ?_
       obtain ⟨A6, cap6, fp6, hc11, hsub3, F31, hcl3⟩ := OwR.lend F30 hx12
       have G8 := low_inr G5
       have Dm4 := (F30.dj).symm
       refine wS_load1 (d := 101) (T := 66) (ad := (elA A3 1 (x1) 0)) (v := .slice A6 (x18).length cap6) (by kernel_rfl) vt66 hc11 ?_
       refine wS_pure 2 [(103, .int .i64 (x10)), (102, .int .i64 (x3))] (by kernel_rfl) ?_
       obtain ⟨x19, hx13, hm⟩ := bindE hm
       refine wS_idx (d := 104) (T := 66) (A := A6) (n := (x18).length) (cap := cap6) (kd := .i64) (m := x3) (by kernel_rfl) sl66 ((F31.sl encI_ok).is hx13) ?_
       refine wS_storeEl (x := x19) x10 (T := 2) (U := 2) (cap := cap6) (j := 0) (A := A6) (v := .int .i64 (x10)) (vs := [.int .i64 (x10)]) (m := x3) (by kernel_rfl) (by rfl) sz2 (by rfl) encI_ok F31 hx13 (by simp only [List.length_cons, List.length_nil]; omega) (by rfl) ?_
       intro w17 F32 hc12
       have F33 := hcl3 _ _ hc12 F32 (List.length_set ..)
       have hc13 := hc12.more (S' := (fp3 ++ (fr2 ++ [b2]))) (fun x hx => hsub3 x hx)
       replace F28 := F28.chg hc13 (Dj.of L0 G5)
       replace F29 := F29.chg hc13 D5
       replace hB := hB.inS hc13 (inLow G5)
       replace hZ := Nat.le_trans hZ hc13.size
       clear F30
       rewrite [show (l5).length = (l5.set (Int.toNat x1) (x18.set (Int.toNat x3) x10)).length from (List.length_set ..).symm]
       refine wS_end (by rfl) ?_
       refine eX_block ?_
       refine eX_then ?_
       refine cW_region ?_
       refine wS_pure 3 [(8, .int .i64 (wr (x3 + 1))), (42, .int .i64 (wr (x3 + 1))), (41, .int .i64 (x3))] (by kernel_rfl) ?_
       refine wS_end (by rfl) ?_
       have hq : (some (Ctl.next ((wr (x3 + 1), l5.set (Int.toNat x1) (x18.set (Int.toNat x3) x10)))) : Option (Ctl (Int × (List (List (Int)))) ((List (List (Int)))))) = some _ := hm
       replace hq := someE hq
       subst hq
       exact eX_next hx3 (fun hst => ⟨wr (x3 + 1), l5.set (Int.toNat x1) (x18.set (Int.toNat x3) x10), rfl, Fr.of hst (by kernel_rfl), F28, F29, F33, hB, hZ⟩)
    ·have hm := condF hb2 hm
     refine cW_exit ?_
     refine eX_then_exit ?_
     have hq : (some (Ctl.out l5) : Option (Ctl (Int × (List (List (Int)))) ((List (List (Int)))))) = some _ := hm
     replace hq := someE hq
     subst hq
     refine eX_outX hx3 (fun hr7 => ?_)
     replace hr7 := hr7.symm
     subst hr7
     refine eX_block_hit ?_
     exact eX_J (fun hst => ⟨l5, rfl, Fr.of hst (by kernel_rfl), F8, F9, F10, hB, hZ⟩)
   ·rintro a' w18 ⟨l4, hJ, hF9, F34, F35, F36, hB, hZ⟩
    subst hJ
    refine Fr.goX hF9 (by kernel_rfl) ?_
    refine eX_then ?_
    refine cW_seq ?_
    refine cW_region ?_
    refine wS_pure 2 [(106, .int .i64 (x1)), (105, .slice A3 (l4).length cap3)] (by kernel_rfl) ?_
    obtain ⟨x20, hx14, hm⟩ := bindE hm
    refine wS_idx (d := 107) (T := 40) (A := A3) (n := (l4).length) (cap := cap3) (kd := .i64) (m := x1) (by kernel_rfl) sl40 ((F36.slr encI_ok).is hx14) ?_
    obtain ⟨A7, cap7, fp7, hc14, hsub4, F37, hcl4⟩ := OwR.lend F36 hx14
    have G9 := low_inr G5
    have Dm5 := (F36.dj).symm
    refine wS_load1 (d := 108) (T := 66) (ad := (elA A3 1 (x1) 0)) (v := .slice A7 (x20).length cap7) (by kernel_rfl) vt66 hc14 ?_
    obtain ⟨y3, hy3, hm⟩ := bindE hm
    refine wS_calls (d := 109) (f := 53) (vs := [.slice A7 (x20).length cap7]) (by kernel_rfl) ent53 (c_spec_l00Own hy3 (F37.sl encI_ok)) ?_
    rintro _ w19 ⟨A8, cap8, fp8, rfl, F38, G10, hc15⟩
    have D6 : Dj fp1 fp8 := Dj.of F35.low G10
    have D7 : Dj (fp3 ++ (fr2 ++ [b2])) fp8 := Dj.of F36.low G10
    replace F34 := F34.chg hc15 Dj.nil
    replace F35 := F35.chg hc15 Dj.nil
    replace F36 := F36.chg hc15 Dj.nil
    replace F37 := F37.chg hc15 Dj.nil
    replace hcl4 := fun w2 l2 hc2 hO hl => hcl4 w2 l2 ((hc15.more (fun x hx => nomatch hx)).trans hc2) hO hl
    replace hB := hB.inS hc15 inNil
    replace G10 := low_le hZ G10
    replace hZ := Nat.le_trans hZ hc15.size
    refine ⟨.slice A8 (y3).length cap8, rfl, ?_⟩
    refine wS_pure 1 [(13, .slice A8 (y3).length cap8)] (by kernel_rfl) ?_
    refine wS_end (by rfl) ?_
    refine eX_then ?_
    refine cW_seq ?_
    refine cW_region ?_
    refine wS_pure 1 [(14, .int .i64 (0))] (by kernel_rfl) ?_
    refine wS_end (by rfl) ?_
    refine eX_then ?_
    obtain ⟨r5, hr8, hm⟩ := bindE hm
    have hm5 := hm
    refine cW_cut (fun a' w' => ∃ l6 : List (List (Int)), l6 = r5 ∧ Fr 171 [(0, .slice A0 (l0).length cap0), (3, .slice A1 (y1).length cap1), (4, .int .i64 (((y1).length : Int))), (5, .int .i64 (shlI 1 (wu (((l0).length : Int))))), (6, .slice A3 (l6).length cap3), (7, .int .i64 (x1))] a' ∧ Sl 2 encII w' fp0 A0 l0 ∧ Ow 2 encII 34 w' fp1 A1 cap1 y1 ∧ OwR 1 encI 66 2 w' fp3 (fr2 ++ [b2]) A3 cap3 l6 ∧ Chg [] w0 w' ∧ w0.heap.size ≤ w'.heap.size) ?_ ?_
    ·refine cW_block ?_
     refine cW_loop _ (fun (s7 : Int × (List (List (Int)))) a' w' => ∃ x21 : Int, ∃ l7 : List (List (Int)), (x21, l7) = s7 ∧ Fr 171 [(0, .slice A0 (l0).length cap0), (3, .slice A1 (y1).length cap1), (4, .int .i64 (((y1).length : Int))), (5, .int .i64 (shlI 1 (wu (((l0).length : Int))))), (6, .slice A3 (l7).length cap3), (7, .int .i64 (x1)), (13, .slice A8 (y3).length cap8), (14, .int .i64 (x21))] a' ∧ Sl 2 encII w' fp0 A0 l0 ∧ Ow 2 encII 34 w' fp1 A1 cap1 y1 ∧ OwR 1 encI 66 2 w' fp3 (fr2 ++ [b2]) A3 cap3 l7 ∧ Ow 1 encI 2 w' fp8 A8 cap8 y3 ∧ Chg [] w0 w' ∧ w0.heap.size ≤ w'.heap.size) hr8 (fun hst => ⟨0, l4, rfl, Fr.of hst (by kernel_rfl), F34, F35, F36, F38, hB, hZ⟩) ?_
     rintro _ c5 a' w20 ⟨x21, l7, rfl, hF10, F39, F40, F41, F42, hB, hZ⟩ hx15
     refine Fr.goOn hF10 (by kernel_rfl) ?_
     have hm := hx15
     unfold m_spec_l05Steiner_s33 at hm
     refine cW_seq ?_
     refine cW_seq ?_
     refine cW_region ?_
     refine wS_pure 3 [(112, .bool (decide (x21 < (((y1).length : Int))))), (111, .int .i64 (((y1).length : Int))), (110, .int .i64 (x21))] (by kernel_rfl) ?_
     refine wS_end (by rfl) ?_
     refine eX_then ?_
     refine cW_cond (t := decide (x21 < (((y1).length : Int)))) (by kernel_rfl) (fun hb8 => ?_) (fun hb8 => ?_)
     ·have hm := condT hb8 hm
      refine cW_skip ?_
      refine eX_then ?_
      refine cW_seq ?_
      refine cW_block ?_
      refine cW_seq ?_
      refine cW_region ?_
      refine wS_pure 1 [(15, .int .i64 (0))] (by kernel_rfl) ?_
      refine wS_end (by rfl) ?_
      refine eX_then ?_
      obtain ⟨r6, hr9, hm⟩ := bindE hm
      have hm6 := hm
      refine cW_cut (fun a' w' => ∃ l8 : List (List (Int)), l8 = r6 ∧ Fr 171 [(0, .slice A0 (l0).length cap0), (3, .slice A1 (y1).length cap1), (4, .int .i64 (((y1).length : Int))), (5, .int .i64 (shlI 1 (wu (((l0).length : Int))))), (6, .slice A3 (l8).length cap3), (7, .int .i64 (x1)), (13, .slice A8 (y3).length cap8), (14, .int .i64 (x21))] a' ∧ Sl 2 encII w' fp0 A0 l0 ∧ Ow 2 encII 34 w' fp1 A1 cap1 y1 ∧ OwR 1 encI 66 2 w' fp3 (fr2 ++ [b2]) A3 cap3 l8 ∧ Ow 1 encI 2 w' fp8 A8 cap8 y3 ∧ Chg [] w0 w' ∧ w0.heap.size ≤ w'.heap.size) ?_ ?_
      ·refine cW_block ?_
       refine cW_loop _ (fun (s8 : Int × (List (List (Int)))) a' w' => ∃ x22 : Int, ∃ l9 : List (List (Int)), (x22, l9) = s8 ∧ Fr 171 [(0, .slice A0 (l0).length cap0), (3, .slice A1 (y1).length cap1), (4, .int .i64 (((y1).length : Int))), (5, .int .i64 (shlI 1 (wu (((l0).length : Int))))), (6, .slice A3 (l9).length cap3), (7, .int .i64 (x1)), (13, .slice A8 (y3).length cap8), (14, .int .i64 (x21)), (15, .int .i64 (x22))] a' ∧ Sl 2 encII w' fp0 A0 l0 ∧ Ow 2 encII 34 w' fp1 A1 cap1 y1 ∧ OwR 1 encI 66 2 w' fp3 (fr2 ++ [b2]) A3 cap3 l9 ∧ Ow 1 encI 2 w' fp8 A8 cap8 y3 ∧ Chg [] w0 w' ∧ w0.heap.size ≤ w'.heap.size) hr9 (fun hst => ⟨0, l7, rfl, Fr.of hst (by kernel_rfl), F39, F40, F41, F42, hB, hZ⟩) ?_
       rintro _ c6 a' w21 ⟨x22, l9, rfl, hF11, F43, F44, F45, F46, hB, hZ⟩ hx16
       refine Fr.goOn hF11 (by kernel_rfl) ?_
       have hm := hx16
       unfold m_spec_l05Steiner_s34 at hm
       refine cW_seq ?_
       refine cW_seq ?_
       refine cW_region ?_
       refine wS_pure 3 [(117, .bool (decide (x22 < (((y1).length : Int))))), (116, .int .i64 (((y1).length : Int))), (115, .int .i64 (x22))] (by kernel_rfl) ?_
       refine wS_end (by rfl) ?_
       refine eX_then ?_
       refine cW_cond (t := decide (x22 < (((y1).length : Int)))) (by kernel_rfl) (fun hb9 => ?_) (fun hb9 => ?_)
       ·have hm := condT hb9 hm
        refine cW_skip ?_
        refine eX_then ?_
        refine cW_seq ?_
        refine cW_block ?_
        refine cW_drawnTail [] 27 (by kernel_rfl) (by kernel_rfl) (fun w22 hc16 => ?_)
        replace F43 := F43.chg hc16 Dj.nil
        replace F44 := F44.chg hc16 Dj.nil
        replace F45 := F45.chg hc16 Dj.nil
        replace F46 := F46.chg hc16 Dj.nil
        replace hB := hB.inS hc16 inNil
        replace hZ := Nat.le_trans hZ hc16.size
        have hS := Chg.refl [] w22
        have Z7 := F43
        have Z8 := F44
        have Z9 := F45
        have Z10 := F46
        refine wH_take [0, 1] [1, 0] [(121, .int .i64 (x1)), (120, .slice A3 (l9).length cap3)] (by kernel_rfl) (qT (qB (qT (qL (qB (qT (qB (qT (qL (qB (qT (qB (qT (qL (qB (qT (qT qZ))))))))))))))))) (by kernel_rfl) ?_
        obtain ⟨x23, hx17, hm⟩ := bindE hm
        refine wH_idx (i := 2) (d := 122) (T := 40) (A := A3) (n := (l9).length) (cap := cap3) (kd := .i64) (m := x1) (by kernel_rfl) (qT (qB (qT (qL (qB (qT (qB (qT (qL (qB (qT (qB (qT (qL (qB (qT (qT qZ))))))))))))))))) (by kernel_rfl) (by kernel_rfl) sl40 ((F45.slr encI_ok).is hx17) ?_
        obtain ⟨A9, cap9, fp9, hc17, hsub5, F47, hcl5⟩ := OwR.lend Z9 hx17
        have G11 := low_inr G5
        have Dm6 := (F45.dj).symm
        refine wH_load1 (i := 3) (d := 123) (T := 66) (ad := (elA A3 1 (x1) 0)) (v := .slice A9 (x23).length cap9) (by kernel_rfl) (qT (qB (qT (qL (qB (qT (qB (qT (qL (qB (qT (qB (qT (qL (qB (qT (qT qZ))))))))))))))))) (by kernel_rfl) (by kernel_rfl) vt66 (fun W hW => hW.keep hc17) ?_
        refine wH_take [4, 5, 6] [6, 5, 4, 3, 2, 1, 0] [(126, .int .i64 (x1)), (125, .slice A3 (l9).length cap3), (124, .int .i64 (x21))] (by kernel_rfl) (qT (qB (qT (qL (qB (qT (qB (qT (qL (qB (qT (qB (qT (qL (qB (qT (qT qZ))))))))))))))))) (by kernel_rfl) ?_
        obtain ⟨x24, hx18, hm⟩ := bindE hm
        refine wH_idx (i := 7) (d := 127) (T := 40) (A := A3) (n := (l9).length) (cap := cap3) (kd := .i64) (m := x1) (by kernel_rfl) (qT (qB (qT (qL (qB (qT (qB (qT (qL (qB (qT (qB (qT (qL (qB (qT (qT qZ))))))))))))))))) (by kernel_rfl) (by kernel_rfl) sl40 ((F45.slr encI_ok).is hx18) ?_
        obtain ⟨A10, cap10, fp10, hc18, hsub6, F48, hcl6⟩ := OwR.lend Z9 hx18
        have G12 := low_inr G5
        have Dm7 := (F45.dj).symm
        refine wH_load1 (i := 8) (d := 128) (T := 66) (ad := (elA A3 1 (x1) 0)) (v := .slice A10 (x24).length cap10) (by kernel_rfl) (qT (qB (qT (qL (qB (qT (qB (qT (qL (qB (qT (qB (qT (qL (qB (qT (qT qZ))))))))))))))))) (by kernel_rfl) (by kernel_rfl) vt66 (fun W hW => hW.keep hc18) ?_
        refine wH_take [9] [9, 8, 7, 6, 5, 4, 3, 2, 1, 0] [(129, .int .i64 (x21))] (by kernel_rfl) (qT (qB (qT (qL (qB (qT (qB (qT (qL (qB (qT (qB (qT (qL (qB (qT (qT qZ))))))))))))))))) (by kernel_rfl) ?_
        obtain ⟨x25, hx19, hm⟩ := bindE hm
        refine wH_idx (i := 10) (d := 130) (T := 66) (A := A10) (n := (x24).length) (cap := cap10) (kd := .i64) (m := x21) (by kernel_rfl) (qT (qB (qT (qL (qB (qT (qB (qT (qL (qB (qT (qB (qT (qL (qB (qT (qT qZ))))))))))))))))) (by kernel_rfl) (by kernel_rfl) sl66 ((F48.sl encI_ok).is hx19) ?_
        refine wH_load1 (i := 11) (d := 131) (T := 2) (ad := (elA A10 1 (x21) 0)) (v := .int .i64 (x25)) (by kernel_rfl) (qT (qB (qT (qL (qB (qT (qB (qT (qL (qB (qT (qB (qT (qL (qB (qT (qT qZ))))))))))))))))) (by kernel_rfl) (by kernel_rfl) vt2 (fun W hW => Sl.cell ((F48.chg hW Dj.nil).sl encI_ok) hx19 0 (by rfl)) ?_
        refine wH_take [12, 13] [13, 12, 11, 10, 9, 8, 7, 6, 5, 4, 3, 2, 1, 0] [(133, .int .i64 (x22)), (132, .slice A8 (y3).length cap8)] (by kernel_rfl) (qT (qB (qT (qL (qB (qT (qB (qT (qL (qB (qT (qB (qT (qL (qB (qT (qT qZ))))))))))))))))) (by kernel_rfl) ?_
        obtain ⟨x26, hx20, hm⟩ := bindE hm
        refine wH_idx (i := 14) (d := 134) (T := 66) (A := A8) (n := (y3).length) (cap := cap8) (kd := .i64) (m := x22) (by kernel_rfl) (qT (qB (qT (qL (qB (qT (qB (qT (qL (qB (qT (qB (qT (qL (qB (qT (qT qZ))))))))))))))))) (by kernel_rfl) (by kernel_rfl) sl66 ((F46.sl encI_ok).is hx20) ?_
        refine wH_load1 (i := 15) (d := 135) (T := 2) (ad := (elA A8 1 (x22) 0)) (v := .int .i64 (x26)) (by kernel_rfl) (qT (qB (qT (qL (qB (qT (qB (qT (qL (qB (qT (qB (qT (qL (qB (qT (qT qZ))))))))))))))))) (by kernel_rfl) (by kernel_rfl) vt2 (fun W hW => Sl.cell ((Z10.chg hW Dj.nil).sl encI_ok) hx20 0 (by rfl)) ?_
        refine wH_take [16, 17] [17, 16, 15, 14, 13, 12, 11, 10, 9, 8, 7, 6, 5, 4, 3, 2, 1, 0] [(137, .int .i64 (x22)), (136, .slice A1 (y1).length cap1)] (by kernel_rfl) (qT (qB (qT (qL (qB (qT (qB (qT (qL (qB (qT (qB (qT (qL (qB (qT (qT qZ))))))))))))))))) (by kernel_rfl) ?_
        obtain ⟨x27, hx21, hm⟩ := bindE hm
        refine wH_idx (i := 18) (d := 138) (T := 26) (A := A1) (n := (y1).length) (cap := cap1) (kd := .i64) (m := x22) (by kernel_rfl) (qT (qB (qT (qL (qB (qT (qB (qT (qL (qB (qT (qB (qT (qL (qB (qT (qT qZ))))))))))))))))) (by kernel_rfl) (by kernel_rfl) sl26 ((F44.sl encII_ok).is hx21) ?_
        refine wH_loadA (i := 19) (d := 139) (T := 34) (ad := (elA A1 2 (x22) 0)) (vs := [.int .i64 (x27.1), .int .i64 (x27.2)]) (by kernel_rfl) (qT (qB (qT (qL (qB (qT (qB (qT (qL (qB (qT (qB (qT (qL (qB (qT (qT qZ))))))))))))))))) (by kernel_rfl) (by kernel_rfl) vt34 (fun W hW i u hu => Sl.cells_at ((Z8.chg hW Dj.nil).sl encII_ok) hx21 0 hu (by rfl)) ?_
        refine wH_take [20, 21] [21, 20, 19, 18, 17, 16, 15, 14, 13, 12, 11, 10, 9, 8, 7, 6, 5, 4, 3, 2, 1, 0] [(141, .int .i64 (x21)), (140, .slice A1 (y1).length cap1)] (by kernel_rfl) (qT (qB (qT (qL (qB (qT (qB (qT (qL (qB (qT (qB (qT (qL (qB (qT (qT qZ))))))))))))))))) (by kernel_rfl) ?_
        obtain ⟨x28, hx22, hm⟩ := bindE hm
        refine wH_idx (i := 22) (d := 142) (T := 26) (A := A1) (n := (y1).length) (cap := cap1) (kd := .i64) (m := x21) (by kernel_rfl) (qT (qB (qT (qL (qB (qT (qB (qT (qL (qB (qT (qB (qT (qL (qB (qT (qT qZ))))))))))))))))) (by kernel_rfl) (by kernel_rfl) sl26 ((F44.sl encII_ok).is hx22) ?_
        refine wH_loadA (i := 23) (d := 143) (T := 34) (ad := (elA A1 2 (x21) 0)) (vs := [.int .i64 (x28.1), .int .i64 (x28.2)]) (by kernel_rfl) (qT (qB (qT (qL (qB (qT (qB (qT (qL (qB (qT (qB (qT (qL (qB (qT (qT qZ))))))))))))))))) (by kernel_rfl) (by kernel_rfl) vt34 (fun W hW i u hu => Sl.cells_at ((Z8.chg hW Dj.nil).sl encII_ok) hx22 0 hu (by rfl)) ?_
        refine wH_all [24] (by rfl) (by kernel_rfl) (by simp) ⟨⟨by kernel_rfl, ?_⟩, trivial⟩
        obtain ⟨y4, hy4, hm⟩ := bindE hm
        refine wS_calls (d := 144) (f := 37) (vs := [.agg #[.int .i64 (x27.1), .int .i64 (x27.2)], .agg #[.int .i64 (x28.1), .int .i64 (x28.2)]]) (by kernel_rfl) ent37 (c_spec_l01Far hy4) ?_
        rintro _ w23 ⟨rfl, hc19⟩
        replace F43 := F43.chg hc19 Dj.nil
        replace F44 := F44.chg hc19 Dj.nil
        replace F45 := F45.chg hc19 Dj.nil
        replace F46 := F46.chg hc19 Dj.nil
        replace F47 := F47.chg hc19 Dj.nil
        replace F48 := F48.chg hc19 Dj.nil
        replace hcl5 := fun w2 l2 hc2 hO hl => hcl5 w2 l2 ((hc19.more (fun x hx => nomatch hx)).trans hc2) hO hl
        replace hcl6 := fun w2 l2 hc2 hO hl => hcl6 w2 l2 ((hc19.more (fun x hx => nomatch hx)).trans hc2) hO hl
        replace hB := hB.inS hc19 inNil
        have hSz := hS
        replace hS := hS.inS hc19 inNil
        replace hZ := Nat.le_trans hZ hc19.size
        refine ⟨.int .i64 (y4), rfl, ?_⟩
        refine wS_end (by kernel_rfl) ?_
        refine eX_KH hS ?_
        refine wH_take [25] [25, 24, 23, 22, 21, 20, 19, 18, 17, 16, 15, 14, 13, 12, 11, 10, 9, 8, 7, 6, 5, 4, 3, 2, 1, 0] [(145, .int .i64 (wr (x26 + y4)))] (by kernel_rfl) (qT (qB (qT (qL (qB (qT (qB (qT (qL (qB (qT (qB (qT (qL (qB (qT (qT qZ))))))))))))))))) (by kernel_rfl) ?_
        refine wH_all [26] (by rfl) (by kernel_rfl) (by simp) ⟨⟨by kernel_rfl, ?_⟩, trivial⟩
        obtain ⟨y5, hy5, hm⟩ := bindE hm
        refine wS_calls (d := 146) (f := 54) (vs := [.int .i64 (x25), .int .i64 (wr (x26 + y4))]) (by kernel_rfl) ent54 (c_spec_l00Min hy5) ?_
        rintro _ w24 ⟨rfl, hc20⟩
        replace F43 := F43.chg hc20 Dj.nil
        replace F44 := F44.chg hc20 Dj.nil
        replace F45 := F45.chg hc20 Dj.nil
        replace F46 := F46.chg hc20 Dj.nil
        replace F47 := F47.chg hc20 Dj.nil
        replace F48 := F48.chg hc20 Dj.nil
        replace hcl5 := fun w2 l2 hc2 hO hl => hcl5 w2 l2 ((hc20.more (fun x hx => nomatch hx)).trans hc2) hO hl
        replace hcl6 := fun w2 l2 hc2 hO hl => hcl6 w2 l2 ((hc20.more (fun x hx => nomatch hx)).trans hc2) hO hl
        replace hB := hB.inS hc20 inNil
        have hSz := hS
        replace hS := hS.inS hc20 inNil
        replace hZ := Nat.le_trans hZ hc20.size
        refine ⟨.int .i64 (y5), rfl, ?_⟩
        refine wS_end (by kernel_rfl) ?_
        refine eX_KH hS ?_
        refine wH_done (by kernel_rfl) ?_
        refine eX_tail ?_
        obtain ⟨x29, hx23, hm⟩ := bindE hm
        refine wS_idx (d := 147) (T := 66) (A := A9) (n := (x23).length) (cap := cap9) (kd := .i64) (m := x21) (by kernel_rfl) sl66 ((F47.sl encI_ok).is hx23) ?_
        refine wS_storeEl (x := x29) y5 (T := 2) (U := 2) (cap := cap9) (j := 0) (A := A9) (v := .int .i64 (y5)) (vs := [.int .i64 (y5)]) (m := x21) (by kernel_rfl) (by rfl) sz2 (by rfl) encI_ok F47 hx23 (by simp only [List.length_cons, List.length_nil]; omega) (by rfl) ?_
        intro w25 F49 hc21
        have F50 := hcl5 _ _ hc21 F49 (List.length_set ..)
        have hc22 := hc21.more (S' := (fp3 ++ (fr2 ++ [b2]))) (fun x hx => hsub5 x hx)
        replace F43 := F43.chg hc22 (Dj.of L0 G5)
        replace F44 := F44.chg hc22 D5
        replace F46 := F46.chg hc22 (D7).symm
        replace hB := hB.inS hc22 (inLow G5)
        replace hZ := Nat.le_trans hZ hc22.size
        clear F45
        rewrite [show (l9).length = (l9.set (Int.toNat x1) (x23.set (Int.toNat x21) y5)).length from (List.length_set ..).symm]
        refine wS_end (by rfl) ?_
        refine eX_block ?_
        refine eX_then ?_
        refine cW_prune [(0, .slice A0 (l0).length cap0), (3, .slice A1 (y1).length cap1), (4, .int .i64 (((y1).length : Int))), (5, .int .i64 (shlI 1 (wu (((l0).length : Int))))), (6, .slice A3 (l9.set (Int.toNat x1) (x23.set (Int.toNat x21) y5)).length cap3), (7, .int .i64 (x1)), (13, .slice A8 (y3).length cap8), (14, .int .i64 (x21)), (15, .int .i64 (x22))] (by kernel_rfl) (by kernel_rfl) (fun a2 => ?_)
        refine cW_region ?_
        refine wS_pure 3 [(15, .int .i64 (wr (x22 + 1))), (119, .int .i64 (wr (x22 + 1))), (118, .int .i64 (x22))] (by kernel_rfl) ?_
        refine wS_end (by rfl) ?_
        have hq : (some (Ctl.next ((wr (x22 + 1), l9.set (Int.toNat x1) (x23.set (Int.toNat x21) y5)))) : Option (Ctl (Int × (List (List (Int)))) ((List (List (Int)))))) = some _ := hm
        replace hq := someE hq
        subst hq
        exact eX_next hx16 (fun hst => ⟨wr (x22 + 1), l9.set (Int.toNat x1) (x23.set (Int.toNat x21) y5), rfl, Fr.of hst (by kernel_rfl), F43, F44, F50, F46, hB, hZ⟩)
       ·have hm := condF hb9 hm
        refine cW_exit ?_
        refine eX_then_exit ?_
        have hq : (some (Ctl.out l9) : Option (Ctl (Int × (List (List (Int)))) ((List (List (Int)))))) = some _ := hm
        replace hq := someE hq
        subst hq
        refine eX_outX hx16 (fun hr10 => ?_)
        replace hr10 := hr10.symm
        subst hr10
        refine eX_block_hit ?_
        exact eX_J (fun hst => ⟨l9, rfl, Fr.of hst (by kernel_rfl), F43, F44, F45, F46, hB, hZ⟩)
      ·rintro a' w26 ⟨l8, hJ, hF12, F51, F52, F53, F54, hB, hZ⟩
       subst hJ
       refine Fr.goX hF12 (by kernel_rfl) ?_
       refine eX_block ?_
       refine eX_then ?_
       refine cW_region ?_
       refine wS_pure 3 [(14, .int .i64 (wr (x21 + 1))), (114, .int .i64 (wr (x21 + 1))), (113, .int .i64 (x21))] (by kernel_rfl) ?_
       refine wS_end (by rfl) ?_
       have hq : (some (Ctl.next ((wr (x21 + 1), l8))) : Option (Ctl (Int × (List (List (Int)))) ((List (List (Int)))))) = some _ := hm
       replace hq := someE hq
       subst hq
       exact eX_next hx15 (fun hst => ⟨wr (x21 + 1), l8, rfl, Fr.of hst (by kernel_rfl), F51, F52, F53, F54, hB, hZ⟩)
     ·have hm := condF hb8 hm
      refine cW_exit ?_
      refine eX_then_exit ?_
      have hq : (some (Ctl.out l7) : Option (Ctl (Int × (List (List (Int)))) ((List (List (Int)))))) = some _ := hm
      replace hq := someE hq
      subst hq
      refine eX_outX hx15 (fun hr11 => ?_)
      replace hr11 := hr11.symm
      subst hr11
      refine eX_block_hit ?_
      exact eX_J (fun hst => ⟨l7, rfl, Fr.of hst (by kernel_rfl), F39, F40, F41, hB, hZ⟩)
    ·rintro a' w27 ⟨l6, hJ, hF13, F55, F56, F57, hB, hZ⟩
     subst hJ
     refine Fr.goX hF13 (by kernel_rfl) ?_
     refine eX_block ?_
     refine eX_then ?_
     refine cW_region ?_
     refine wS_pure 3 [(7, .int .i64 (wr (x1 + 1))), (32, .int .i64 (wr (x1 + 1))), (31, .int .i64 (x1))] (by kernel_rfl) ?_
     refine wS_end (by rfl) ?_
     have hq : (some (Ctl.next ((l6, wr (x1 + 1)))) : Option (Ctl ((List (List (Int))) × Int) ((List (List (Int)))))) = some _ := hm
     replace hq := someE hq
     subst hq
     exact eX_next hx1 (fun hst => ⟨l6, A3, cap3, fp3, (fr2 ++ [b2]), wr (x1 + 1), rfl, Fr.of hst (by kernel_rfl), F55, F56, F57, G5, D5, hB, hZ⟩)
  ·have hm := condF hb1 hm
   refine cW_exit ?_
   refine eX_then_exit ?_
   have hq : (some (Ctl.out l3) : Option (Ctl ((List (List (Int))) × Int) ((List (List (Int)))))) = some _ := hm
   replace hq := someE hq
   subst hq
   refine eX_outX hx1 (fun hr12 => ?_)
   replace hr12 := hr12.symm
   subst hr12
   refine eX_block_hit ?_
   exact eX_J (fun hst => ⟨l3, A3, cap3, fp3, fr2, rfl, Fr.of hst (by kernel_rfl), F5, G3, hB, hZ⟩)
 ·rintro a' w28 ⟨l1, A2, cap2, fp2, fr1, hJ, hF14, F58, G13, hB, hZ⟩
  subst hJ
  refine Fr.goX hF14 (by kernel_rfl) ?_
  refine eX_then ?_
  refine cW_seq ?_
  refine cW_region ?_
  refine wS_pure 3 [(150, .int .i64 (wr ((shlI 1 (wu (((l0).length : Int)))) - 1))), (149, .int .i64 (shlI 1 (wu (((l0).length : Int))))), (148, .slice A2 (l1).length cap2)] (by kernel_rfl) ?_
  obtain ⟨x30, hx24, hm⟩ := bindE hm
  refine wS_idx (d := 151) (T := 40) (A := A2) (n := (l1).length) (cap := cap2) (kd := .i64) (m := wr ((shlI 1 (wu (((l0).length : Int)))) - 1)) (by kernel_rfl) sl40 ((F58.slr encI_ok).is hx24) ?_
  obtain ⟨A11, cap11, fp11, hc23, hsub7, F59, hcl7⟩ := OwR.lend F58 hx24
  have G14 := low_inr G13
  have Dm8 := (F58.dj).symm
  refine wS_load1 (d := 152) (T := 66) (ad := (elA A2 1 (wr ((shlI 1 (wu (((l0).length : Int)))) - 1)) 0)) (v := .slice A11 (x30).length cap11) (by kernel_rfl) vt66 hc23 ?_
  obtain ⟨x31, hx25, hm⟩ := bindE hm
  refine wS_idx (d := 153) (T := 66) (A := A11) (n := (x30).length) (cap := cap11) (kd := .i64) (m := 0) (by kernel_rfl) sl66 ((F59.sl encI_ok).is hx25) ?_
  refine wS_load1 (d := 154) (T := 2) (ad := (elA A11 1 (0) 0)) (v := .int .i64 (x31)) (by kernel_rfl) vt2 (Sl.cell (F59.sl encI_ok) hx25 0 (by rfl)) ?_
  refine wS_pure 1 [(16, .int .i64 (x31))] (by kernel_rfl) ?_
  refine wS_end (by rfl) ?_
  refine eX_then ?_
  refine cW_seq ?_
  refine cW_seq ?_
  refine cW_region ?_
  refine wS_pure 1 [(17, .int .i64 (1))] (by kernel_rfl) ?_
  refine wS_end (by rfl) ?_
  refine eX_then ?_
  obtain ⟨r7, hr13, hm⟩ := bindE hm
  have hm7 := hm
  refine cW_cut (fun a' w' => ∃ x32 : Int, x32 = r7 ∧ Fr 171 [(16, .int .i64 (x32))] a' ∧ Chg [] w0 w' ∧ w0.heap.size ≤ w'.heap.size) ?_ ?_
  ·refine cW_block ?_
   refine cW_loop _ (fun (s9 : Int × Int) a' w' => ∃ x33 : Int, ∃ x34 : Int, (x33, x34) = s9 ∧ Fr 171 [(4, .int .i64 (((y1).length : Int))), (5, .int .i64 (shlI 1 (wu (((l0).length : Int))))), (6, .slice A2 (l1).length cap2), (16, .int .i64 (x33)), (17, .int .i64 (x34))] a' ∧ OwR 1 encI 66 2 w' fp2 fr1 A2 cap2 l1 ∧ Chg [] w0 w' ∧ w0.heap.size ≤ w'.heap.size) hr13 (fun hst => ⟨x31, 1, rfl, Fr.of hst (by kernel_rfl), F58, hB, hZ⟩) ?_
   rintro _ c7 a' w29 ⟨x33, x34, rfl, hF15, F60, hB, hZ⟩ hx26
   refine Fr.goOn hF15 (by kernel_rfl) ?_
   have hm := hx26
   unfold m_spec_l05Steiner_s35 at hm
   refine cW_seq ?_
   refine cW_seq ?_
   refine cW_region ?_
   refine wS_pure 3 [(157, .bool (decide (x34 < (((y1).length : Int))))), (156, .int .i64 (((y1).length : Int))), (155, .int .i64 (x34))] (by kernel_rfl) ?_
   refine wS_end (by rfl) ?_
   refine eX_then ?_
   refine cW_cond (t := decide (x34 < (((y1).length : Int)))) (by kernel_rfl) (fun hb10 => ?_) (fun hb10 => ?_)
   ·have hm := condT hb10 hm
    refine cW_skip ?_
    refine eX_then ?_
    refine cW_seq ?_
    refine cW_block ?_
    refine cW_region ?_
    refine wS_pure 4 [(163, .int .i64 (wr ((shlI 1 (wu (((l0).length : Int)))) - 1))), (162, .int .i64 (shlI 1 (wu (((l0).length : Int))))), (161, .slice A2 (l1).length cap2), (160, .int .i64 (x33))] (by kernel_rfl) ?_
    obtain ⟨x35, hx27, hm⟩ := bindE hm
    refine wS_idx (d := 164) (T := 40) (A := A2) (n := (l1).length) (cap := cap2) (kd := .i64) (m := wr ((shlI 1 (wu (((l0).length : Int)))) - 1)) (by kernel_rfl) sl40 ((F60.slr encI_ok).is hx27) ?_
    obtain ⟨A12, cap12, fp12, hc24, hsub8, F61, hcl8⟩ := OwR.lend F60 hx27
    have G15 := low_inr G13
    have Dm9 := (F60.dj).symm
    refine wS_load1 (d := 165) (T := 66) (ad := (elA A2 1 (wr ((shlI 1 (wu (((l0).length : Int)))) - 1)) 0)) (v := .slice A12 (x35).length cap12) (by kernel_rfl) vt66 hc24 ?_
    refine wS_pure 1 [(166, .int .i64 (x34))] (by kernel_rfl) ?_
    obtain ⟨x36, hx28, hm⟩ := bindE hm
    refine wS_idx (d := 167) (T := 66) (A := A12) (n := (x35).length) (cap := cap12) (kd := .i64) (m := x34) (by kernel_rfl) sl66 ((F61.sl encI_ok).is hx28) ?_
    refine wS_load1 (d := 168) (T := 2) (ad := (elA A12 1 (x34) 0)) (v := .int .i64 (x36)) (by kernel_rfl) vt2 (Sl.cell (F61.sl encI_ok) hx28 0 (by rfl)) ?_
    obtain ⟨y6, hy6, hm⟩ := bindE hm
    refine wS_calls (d := 169) (f := 54) (vs := [.int .i64 (x33), .int .i64 (x36)]) (by kernel_rfl) ent54 (c_spec_l00Min hy6) ?_
    rintro _ w30 ⟨rfl, hc25⟩
    replace F60 := F60.chg hc25 Dj.nil
    replace F61 := F61.chg hc25 Dj.nil
    replace hcl8 := fun w2 l2 hc2 hO hl => hcl8 w2 l2 ((hc25.more (fun x hx => nomatch hx)).trans hc2) hO hl
    replace hB := hB.inS hc25 inNil
    replace hZ := Nat.le_trans hZ hc25.size
    refine ⟨.int .i64 (y6), rfl, ?_⟩
    refine wS_pure 1 [(16, .int .i64 (y6))] (by kernel_rfl) ?_
    refine wS_end (by rfl) ?_
    refine eX_block ?_
    refine eX_then ?_
    refine cW_region ?_
    refine wS_pure 3 [(17, .int .i64 (wr (x34 + 1))), (159, .int .i64 (wr (x34 + 1))), (158, .int .i64 (x34))] (by kernel_rfl) ?_
    refine wS_end (by rfl) ?_
    have hq : (some (Ctl.next ((y6, wr (x34 + 1)))) : Option (Ctl (Int × Int) (Int))) = some _ := hm
    replace hq := someE hq
    subst hq
    exact eX_next hx26 (fun hst => ⟨y6, wr (x34 + 1), rfl, Fr.of hst (by kernel_rfl), F60, hB, hZ⟩)
   ·have hm := condF hb10 hm
    refine cW_exit ?_
    refine eX_then_exit ?_
    have hq : (some (Ctl.out x33) : Option (Ctl (Int × Int) (Int))) = some _ := hm
    replace hq := someE hq
    subst hq
    refine eX_outX hx26 (fun hr14 => ?_)
    replace hr14 := hr14.symm
    subst hr14
    refine eX_block_hit ?_
    exact eX_J (fun hst => ⟨x33, rfl, Fr.of hst (by kernel_rfl), hB, hZ⟩)
  ·rintro a' w31 ⟨x32, hJ, hF16, hB, hZ⟩
   subst hJ
   refine Fr.goX hF16 (by kernel_rfl) ?_
   refine eX_then ?_
   refine cW_seq ?_
   refine cW_region ?_
   refine wS_pure 2 [(2, .int .i64 (x32)), (170, .int .i64 (x32))] (by kernel_rfl) ?_
   refine wS_end (by rfl) ?_
   refine eX_then ?_
   refine cW_ret ?_
   have hq : (some x32 : Option ((Int))) = some _ := hm
   replace hq := someE hq
   subst hq
   refine eX_ret (vs := [.int .i64 (x32)]) [.tmp 2] (by rfl) ⟨by (show lkE _ _ _ = _); kernel_rfl, trivial⟩ ?_
   exact ⟨rfl, hB⟩

set_option maxRecDepth 100000 in
/-- spec.SteinerLength -/
theorem c_spec_SteinerLength {w0 : World} {l0 : List (Int × Int)} {A0 : Option Addr} {cap0 : Nat} {fp0 : List Nat} {r : (Int) × (Bool)} (hm : m_spec_SteinerLength l0 = some r) (F0 : Sl 2 encII w0 fp0 A0 l0) (K0 : (l0).length ≤ cap0) :
  Calls Try.prog 16 #[.slice A0 (l0).length cap0] w0 fun e w' => e = .returned (.tuple #[.int .i64 (r.1), .bool (r.2)]) ∧ Chg [] w0 w' := by
 have L0 := F0.low
 have hB : Chg [] w0 w0 := Chg.refl _ _
 have hZ := Nat.le_refl w0.heap.size
 unfold m_spec_SteinerLength at hm
 refine enterE (N := 9) Try.func16 (by rfl) Try.ntmps16 (by simp) [(0, .slice A0 (l0).length cap0)] (by rfl) (by kernel_rfl) (fun a => ?_)
 refine cW_seq ?_
 refine cW_region ?_
 refine wS_pure 2 [(3, .bool (false)), (2, .int .i64 (0))] (by kernel_rfl) ?_
 refine wS_end (by rfl) ?_
 refine eX_then ?_
 refine cW_seq ?_
 refine cW_seq ?_
 refine cW_region ?_
 refine wS_pure 1 [(4, .slice A0 (l0).length cap0)] (by kernel_rfl) ?_
 obtain ⟨y1, hy1, hm⟩ := bindE hm
 refine wS_calls (d := 5) (f := 18) (vs := [.slice A0 (l0).length cap0]) (by kernel_rfl) ent18 (c_spec_l05Few hy1 F0 K0) ?_
 rintro _ w1 ⟨rfl, hc1⟩
 replace F0 := F0.chg hc1 Dj.nil
 replace hB := hB.inS hc1 inNil
 replace hZ := Nat.le_trans hZ hc1.size
 refine ⟨.bool (y1), rfl, ?_⟩
 refine wS_pure 1 [(6, .bool (!y1))] (by kernel_rfl) ?_
 refine wS_end (by rfl) ?_
 refine eX_then ?_
 refine cW_cond (t := !y1) (by kernel_rfl) (fun hb1 => ?_) (fun hb1 => ?_)
 ·have hm := condT hb1 hm
  refine cW_seq ?_
  refine cW_region ?_
  refine wS_pure 2 [(3, .bool (false)), (2, .int .i64 (0))] (by kernel_rfl) ?_
  refine wS_end (by rfl) ?_
  refine eX_then ?_
  refine cW_ret ?_
  refine eX_then_ret ?_
  have hq : (some ((0, false)) : Option ((Int) × (Bool))) = some _ := hm
  replace hq := someE hq
  subst hq
  refine eX_ret (vs := [.int .i64 (0), .bool (false)]) [.tmp 2, .tmp 3] (by rfl) ⟨by (show lkE _ _ _ = _); kernel_rfl, ⟨by (show lkE _ _ _ = _); kernel_rfl, trivial⟩⟩ ?_
  exact ⟨rfl, hB⟩
 ·have hm := condF hb1 hm
  refine cW_skip ?_
  refine eX_then ?_
  refine cW_seq ?_
  refine cW_region ?_
  refine wS_pure 1 [(7, .slice A0 (l0).length cap0)] (by kernel_rfl) ?_
  obtain ⟨y2, hy2, hm⟩ := bindE hm
  refine wS_calls (d := 8) (f := 35) (vs := [.slice A0 (l0).length cap0]) (by kernel_rfl) ent35 (c_spec_l05Steiner hy2 F0) ?_
  rintro _ w2 ⟨rfl, hc2⟩
  replace F0 := F0.chg hc2 Dj.nil
  replace hB := hB.inS hc2 inNil
  replace hZ := Nat.le_trans hZ hc2.size
  refine ⟨.int .i64 (y2), rfl, ?_⟩
  refine wS_pure 2 [(3, .bool (true)), (2, .int .i64 (y2))] (by kernel_rfl) ?_
  refine wS_end (by rfl) ?_
  refine eX_then ?_
  refine cW_ret ?_
  have hq : (some ((y2, true)) : Option ((Int) × (Bool))) = some _ := hm
  replace hq := someE hq
  subst hq
  refine eX_ret (vs := [.int .i64 (y2), .bool (true)]) [.tmp 2, .tmp 3] (by rfl) ⟨by (show lkE _ _ _ = _); kernel_rfl, ⟨by (show lkE _ _ _ = _); kernel_rfl, trivial⟩⟩ ?_
  exact ⟨rfl, hB⟩

set_option maxRecDepth 100000 in
/-- laws.b10Abs -/
theorem c_laws_b10Abs {w0 : World} {p0 : Int} {r : (Int)} (hm : m_laws_b10Abs p0 = some r)  :
  Calls Try.prog 36 #[.int .i64 (p0)] w0 fun e w' => e = .returned (.int .i64 (r)) ∧ Chg [] w0 w' := by
 have hB : Chg [] w0 w0 := Chg.refl _ _
 have hZ := Nat.le_refl w0.heap.size
 unfold m_laws_b10Abs at hm
 refine enterE (N := 8) Try.func36 (by rfl) Try.ntmps36 (by simp) [(0, .int .i64 (p0))] (by rfl) (by kernel_rfl) (fun a => ?_)
 refine cW_seq ?_
 refine cW_region ?_
 refine wS_pure 1 [(2, .int .i64 (0))] (by kernel_rfl) ?_
 refine wS_end (by rfl) ?_
 refine eX_then ?_
 refine cW_seq ?_
 refine cW_seq ?_
 refine cW_region ?_
 refine wS_pure 2 [(4, .bool (decide (p0 < 0))), (3, .int .i64 (p0))] (by kernel_rfl) ?_
 refine wS_end (by rfl) ?_
 refine eX_then ?_
 refine cW_cond (t := decide (p0 < 0)) (by kernel_rfl) (fun hb1 => ?_) (fun hb1 => ?_)
 ·have hm := condT hb1 hm
  refine cW_seq ?_
  refine cW_region ?_
  refine wS_pure 3 [(2, .int .i64 (wr (0 - p0))), (6, .int .i64 (wr (0 - p0))), (5, .int .i64 (p0))] (by kernel_rfl) ?_
  refine wS_end (by rfl) ?_
  refine eX_then ?_
  refine cW_ret ?_
  refine eX_then_ret ?_
  have hq : (some (wr (0 - p0)) : Option ((Int))) = some _ := hm
  replace hq := someE hq
  subst hq
  refine eX_ret (vs := [.int .i64 (wr (0 - p0))]) [.tmp 2] (by rfl) ⟨by (show lkE _ _ _ = _); kernel_rfl, trivial⟩ ?_
  exact ⟨rfl, hB⟩
 ·have hm := condF hb1 hm
  refine cW_skip ?_
  refine eX_then ?_
  refine cW_seq ?_
  refine cW_region ?_
  refine wS_pure 2 [(2, .int .i64 (p0)), (7, .int .i64 (p0))] (by kernel_rfl) ?_
  refine wS_end (by rfl) ?_
  refine eX_then ?_
  refine cW_ret ?_
  have hq : (some p0 : Option ((Int))) = some _ := hm
  replace hq := someE hq
  subst hq
  refine eX_ret (vs := [.int .i64 (p0)]) [.tmp 2] (by rfl) ⟨by (show lkE _ _ _ = _); kernel_rfl, trivial⟩ ?_
  exact ⟨rfl, hB⟩

set_option maxRecDepth 100000 in
/-- laws.b10Far -/
theorem c_laws_b10Far {w0 : World} {p0_0 : Int} {p0_1 : Int} {p1_0 : Int} {p1_1 : Int} {r : (Int)} (hm : m_laws_b10Far p0_0 p0_1 p1_0 p1_1 = some r)  :
  Calls Try.prog 17 #[.agg #[.int .i64 (p0_0), .int .i64 (p0_1)], .agg #[.int .i64 (p1_0), .int .i64 (p1_1)]] w0 fun e w' => e = .returned (.int .i64 (r)) ∧ Chg [] w0 w' := by
 have hB : Chg [] w0 w0 := Chg.refl _ _
 have hZ := Nat.le_refl w0.heap.size
 unfold m_laws_b10Far at hm
 refine enterE (N := 18) Try.func17 (by rfl) Try.ntmps17 (by simp) [(0, .agg #[.int .i64 (p0_0), .int .i64 (p0_1)]), (1, .agg #[.int .i64 (p1_0), .int .i64 (p1_1)])] (by rfl) (by kernel_rfl) (fun a => ?_)
 refine cW_seq ?_
 refine cW_region ?_
 refine wS_box (d := 2) (T := 34) (x := .agg #[.int .i64 (p0_0), .int .i64 (p0_1)]) (by kernel_rfl) ?_
 intro b1 w1 G1 F1 hc1
 replace F1 : Cl w1 b1 34 [.int .i64 (p0_0), .int .i64 (p0_1)] := F1
 replace hB := hB.inS hc1 inNil
 replace G1 := Nat.le_trans hZ G1
 replace hZ := Nat.le_trans hZ hc1.size
 refine wS_box (d := 3) (T := 34) (x := .agg #[.int .i64 (p1_0), .int .i64 (p1_1)]) (by kernel_rfl) ?_
 intro b2 w2 G2 F2 hc2
 replace F2 : Cl w2 b2 34 [.int .i64 (p1_0), .int .i64 (p1_1)] := F2
 have D1 : Dj [b1] [b2] := Dj.of (lt1 F1.lt) (low1 G2)
 replace F1 := F1.chg hc2 notNil
 replace hB := hB.inS hc2 inNil
 replace G2 := Nat.le_trans hZ G2
 replace hZ := Nat.le_trans hZ hc2.size
 refine wS_pure 1 [(4, .int .i64 (0))] (by kernel_rfl) ?_
 refine wS_end (by rfl) ?_
 refine eX_then ?_
 refine cW_seq ?_
 refine cW_drawnTail [] 11 (by kernel_rfl) (by kernel_rfl) (fun w3 hc3 => ?_)
 replace F1 := F1.chg hc3 notNil
 replace F2 := F2.chg hc3 notNil
 replace hB := hB.inS hc3 inNil
 replace hZ := Nat.le_trans hZ hc3.size
 have hS := Chg.refl [] w3
 have Z1 := F1
 have Z2 := F2
 refine wH_take [0] [0] [(5, .pointer (some ⟨b1, 0, none⟩))] (by kernel_rfl) (qT (qT qZ)) (by kernel_rfl) ?_
 refine wH_load1 (i := 1) (d := 6) (T := 2) (ad := ⟨b1, 0, none⟩) (v := .int .i64 (p0_0)) (by kernel_rfl) (qT (qT qZ)) (by kernel_rfl) (by kernel_rfl) vt2 (fun W hW => (Z1.chg hW notNil).cell 0) ?_
 refine wH_take [2] [2, 1, 0] [(7, .pointer (some ⟨b2, 0, none⟩))] (by kernel_rfl) (qT (qT qZ)) (by kernel_rfl) ?_
 refine wH_load1 (i := 3) (d := 8) (T := 2) (ad := ⟨b2, 0, none⟩) (v := .int .i64 (p1_0)) (by kernel_rfl) (qT (qT qZ)) (by kernel_rfl) (by kernel_rfl) vt2 (fun W hW => (Z2.chg hW notNil).cell 0) ?_
 refine wH_take [4, 6] [6, 4, 3, 2, 1, 0] [(11, .pointer (some ⟨b1, 1, none⟩)), (9, .int .i64 (wr (p0_0 - p1_0)))] (by kernel_rfl) (qT (qT qZ)) (by kernel_rfl) ?_
 refine wH_load1 (i := 7) (d := 12) (T := 2) (ad := ⟨b1, 1, none⟩) (v := .int .i64 (p0_1)) (by kernel_rfl) (qT (qT qZ)) (by kernel_rfl) (by kernel_rfl) vt2 (fun W hW => (Z1.chg hW notNil).cell 1) ?_
 refine wH_take [8] [8, 7, 6, 4, 3, 2, 1, 0] [(13, .pointer (some ⟨b2, 1, none⟩))] (by kernel_rfl) (qT (qT qZ)) (by kernel_rfl) ?_
 refine wH_load1 (i := 9) (d := 14) (T := 2) (ad := ⟨b2, 1, none⟩) (v := .int .i64 (p1_1)) (by kernel_rfl) (qT (qT qZ)) (by kernel_rfl) (by kernel_rfl) vt2 (fun W hW => (Z2.chg hW notNil).cell 1) ?_
 refine wH_take [10] [10, 9, 8, 7, 6, 4, 3, 2, 1, 0] [(15, .int .i64 (wr (p0_1 - p1_1)))] (by kernel_rfl) (qT (qT qZ)) (by kernel_rfl) ?_
 refine wH_all [5] (by rfl) (by kernel_rfl) (by simp) ⟨⟨by kernel_rfl, ?_⟩, trivial⟩
 obtain ⟨y1, hy1, hm⟩ := bindE hm
 refine wS_calls (d := 10) (f := 36) (vs := [.int .i64 (wr (p0_0 - p1_0))]) (by kernel_rfl) ent36 (c_laws_b10Abs hy1) ?_
 rintro _ w4 ⟨rfl, hc4⟩
 replace F1 := F1.chg hc4 notNil
 replace F2 := F2.chg hc4 notNil
 replace hB := hB.inS hc4 inNil
 have hSz := hS
 replace hS := hS.inS hc4 inNil
 replace hZ := Nat.le_trans hZ hc4.size
 refine ⟨.int .i64 (y1), rfl, ?_⟩
 refine wS_end (by kernel_rfl) ?_
 refine eX_KH hS ?_
 refine wH_done (by kernel_rfl) ?_
 refine eX_tail ?_
 obtain ⟨y2, hy2, hm⟩ := bindE hm
 refine wS_calls (d := 16) (f := 36) (vs := [.int .i64 (wr (p0_1 - p1_1))]) (by kernel_rfl) ent36 (c_laws_b10Abs hy2) ?_
 rintro _ w5 ⟨rfl, hc5⟩
 replace F1 := F1.chg hc5 notNil
 replace F2 := F2.chg hc5 notNil
 replace hB := hB.inS hc5 inNil
 replace hZ := Nat.le_trans hZ hc5.size
 refine ⟨.int .i64 (y2), rfl, ?_⟩
 refine wS_pure 2 [(4, .int .i64 (wr (y1 + y2))), (17, .int .i64 (wr (y1 + y2)))] (by kernel_rfl) ?_
 refine wS_end (by rfl) ?_
 refine eX_then ?_
 refine cW_ret ?_
 have hq : (some (wr (y1 + y2)) : Option ((Int))) = some _ := hm
 replace hq := someE hq
 subst hq
 refine eX_ret (vs := [.int .i64 (wr (y1 + y2))]) [.tmp 4] (by rfl) ⟨by (show lkE _ _ _ = _); kernel_rfl, trivial⟩ ?_
 exact ⟨rfl, hB⟩

set_option maxRecDepth 100000 in
/-- laws.FnRoots -/
theorem c_laws_FnRoots {w0 : World} {l0 : List (Int)} {A0 : Option Addr} {cap0 : Nat} {fp0 : List Nat} {l1 : List (Int)} {A1 : Option Addr} {cap1 : Nat} {fp1 : List Nat} {r : (Bool)} (hm : m_laws_FnRoots l0 l1 = some r) (F0 : Sl 1 encU w0 fp0 A0 l0) (F1 : Sl 1 encU w0 fp1 A1 l1) :
  Calls Try.prog 4 #[.slice A0 (l0).length cap0, .slice A1 (l1).length cap1] w0 fun e w' => e = .returned (.bool (r)) ∧ Chg [] w0 w' := by
 have L0 := F0.low
 have L1 := F1.low
 have hB : Chg [] w0 w0 := Chg.refl _ _
 have hZ := Nat.le_refl w0.heap.size
 unfold m_laws_FnRoots at hm
 refine enterE (N := 131) Try.func4 (by rfl) Try.ntmps4 (by simp) [(0, .slice A0 (l0).length cap0), (1, .slice A1 (l1).length cap1)] (by rfl) (by kernel_rfl) (fun a => ?_)
 refine cW_seq ?_
 refine cW_region ?_
 refine wS_pure 1 [(4, .bool (false))] (by kernel_rfl) ?_
 refine wS_end (by rfl) ?_
 refine eX_then ?_
 refine cW_seq ?_
 refine cW_seq ?_
 refine cW_region ?_
 refine wS_pure 2 [(24, .slice A1 (l1).length cap1), (23, .slice A0 (l0).length cap0)] (by kernel_rfl) ?_
 obtain ⟨y1, hy1, hm⟩ := bindE hm
 refine wS_calls (d := 25) (f := 10) (vs := [.slice A0 (l0).length cap0, .slice A1 (l1).length cap1]) (by kernel_rfl) ent10 (c_laws_b10Long hy1 F0 F1) ?_
 rintro _ w1 ⟨rfl, hc1⟩
 replace F0 := F0.chg hc1 Dj.nil
 replace F1 := F1.chg hc1 Dj.nil
 replace hB := hB.inS hc1 inNil
 replace hZ := Nat.le_trans hZ hc1.size
 refine ⟨.bool (y1), rfl, ?_⟩
 refine wS_end (by rfl) ?_
 refine eX_then ?_
 refine cW_cond (t := y1) (by kernel_rfl) (fun hb1 => ?_) (fun hb1 => ?_)
 ·have hm := condT hb1 hm
  refine cW_seq ?_
  refine cW_region ?_
  refine wS_pure 1 [(4, .bool (true))] (by kernel_rfl) ?_
  refine wS_end (by rfl) ?_
  refine eX_then ?_
  refine cW_ret ?_
  refine eX_then_ret ?_
  have hq : (some true : Option ((Bool))) = some _ := hm
  replace hq := someE hq
  subst hq
  refine eX_ret (vs := [.bool (true)]) [.tmp 4] (by rfl) ⟨by (show lkE _ _ _ = _); kernel_rfl, trivial⟩ ?_
  exact ⟨rfl, hB⟩
 ·have hm := condF hb1 hm
  refine cW_skip ?_
  refine eX_then ?_
  refine cW_seq ?_
  refine cW_region ?_
  refine wS_pure 1 [(26, .slice A0 (l0).length cap0)] (by kernel_rfl) ?_
  obtain ⟨y2, hy2, hm⟩ := bindE hm
  refine wS_calls (d := 27) (f := 11) (vs := [.slice A0 (l0).length cap0, .int .i64 (6)]) (by kernel_rfl) ent11 (c_spec_B10Pins hy2 F0) ?_
  rintro _ w2 ⟨A2, cap2, fp2, rfl, F2, G1, hc2⟩
  replace F0 := F0.chg hc2 Dj.nil
  replace F1 := F1.chg hc2 Dj.nil
  replace hB := hB.inS hc2 inNil
  replace G1 := low_le hZ G1
  replace hZ := Nat.le_trans hZ hc2.size
  refine ⟨.slice A2 (y2).length cap2, rfl, ?_⟩
  refine wS_pure 1 [(5, .slice A2 (y2).length cap2)] (by kernel_rfl) ?_
  refine wS_end (by rfl) ?_
  refine eX_then ?_
  refine cW_seq ?_
  refine cW_region ?_
  refine wS_pure 1 [(29, .slice A2 (y2).length cap2)] (by kernel_rfl) ?_
  obtain ⟨y3, hy3, hm⟩ := bindE hm
  refine wS_calls (d := 30) (f := 12) (vs := [.slice A2 (y2).length cap2]) (by kernel_rfl) ent12 (c_impl_BestRoot hy3 (F2.sl encII_ok)) ?_
  rintro _ w3 ⟨rfl, hc3⟩
  replace F0 := F0.chg hc3 Dj.nil
  replace F1 := F1.chg hc3 Dj.nil
  replace F2 := F2.chg hc3 Dj.nil
  replace hB := hB.inS hc3 inNil
  replace hZ := Nat.le_trans hZ hc3.size
  refine ⟨.tuple #[.agg #[.int .i64 (y3.1.1), .int .i64 (y3.1.2)], .int .i64 (y3.2.1), .bool (y3.2.2)], rfl, ?_⟩
  refine wS_pure 4 [(33, .bool (y3.2.2)), (32, .int .i64 (y3.2.1)), (31, .agg #[.int .i64 (y3.1.1), .int .i64 (y3.1.2)]), (28, .tuple #[.agg #[.int .i64 (y3.1.1), .int .i64 (y3.1.2)], .int .i64 (y3.2.1), .bool (y3.2.2)])] (by kernel_rfl) ?_
  refine wS_alloc (d := 6) (T := 34) (z := .agg #[.int .i64 (0), .int .i64 (0)]) (by kernel_rfl) (by kernel_rfl) ?_
  intro b1 w4 G2 F3 hc4
  replace F3 : Cl w4 b1 34 [.int .i64 (0), .int .i64 (0)] := F3
  have D1 : Dj fp2 [b1] := Dj.of F2.low (low1 G2)
  replace F0 := F0.chg hc4 Dj.nil
  replace F1 := F1.chg hc4 Dj.nil
  replace F2 := F2.chg hc4 Dj.nil
  replace hB := hB.inS hc4 inNil
  replace G2 := Nat.le_trans hZ G2
  replace hZ := Nat.le_trans hZ hc4.size
  refine wS_store (T := 34) (g := b1) (o := 0) (ad := ⟨b1, 0, none⟩) (v := .agg #[.int .i64 (y3.1.1), .int .i64 (y3.1.2)]) (vs := [.int .i64 (y3.1.1), .int .i64 (y3.1.2)]) (by kernel_rfl) (by rfl) sz34 (by rfl) (by rfl) F3 (by simp only [List.length_cons, List.length_nil]; omega) ?_
  intro w5 F4 hc5
  replace F0 := F0.chg hc5 (Dj.of L0 (low1 G2))
  replace F1 := F1.chg hc5 (Dj.of L1 (low1 G2))
  replace F2 := F2.chg hc5 D1
  replace hB := hB.inS hc5 (inLow (low1 G2))
  replace hZ := Nat.le_trans hZ hc5.size
  replace F4 : Cl w5 b1 34 [.int .i64 (y3.1.1), .int .i64 (y3.1.2)] := F4
  clear F3
  refine wS_pure 2 [(8, .bool (y3.2.2)), (7, .int .i64 (y3.2.1))] (by kernel_rfl) ?_
  refine wS_end (by rfl) ?_
  refine eX_then ?_
  refine cW_seq ?_
  refine cW_region ?_
  refine wS_pure 1 [(35, .slice A2 (y2).length cap2)] (by kernel_rfl) ?_
  refine wS_loadA (d := 36) (T := 34) (ad := ⟨b1, 0, none⟩) (vs := [.int .i64 (y3.1.1), .int .i64 (y3.1.2)]) (by kernel_rfl) vt34 (fun i u hu => box_cells F4 0 hu (by rfl)) ?_
  obtain ⟨y4, hy4, hm⟩ := bindE hm
  refine wS_calls (d := 37) (f := 13) (vs := [.slice A2 (y2).length cap2, .agg #[.int .i64 (y3.1.1), .int .i64 (y3.1.2)]]) (by kernel_rfl) ent13 (c_impl_StarLength hy4 (F2.sl encII_ok)) ?_
  rintro _ w6 ⟨rfl, hc6⟩
  replace F0 := F0.chg hc6 Dj.nil
  replace F1 := F1.chg hc6 Dj.nil
  replace F2 := F2.chg hc6 Dj.nil
  replace F4 := F4.chg hc6 notNil
  replace hB := hB.inS hc6 inNil
  replace hZ := Nat.le_trans hZ hc6.size
  refine ⟨.tuple #[.int .i64 (y4.1), .bool (y4.2)], rfl, ?_⟩
  refine wS_pure 5 [(10, .bool (y4.2)), (9, .int .i64 (y4.1)), (39, .bool (y4.2)), (38, .int .i64 (y4.1)), (34, .tuple #[.int .i64 (y4.1), .bool (y4.2)])] (by kernel_rfl) ?_
  refine wS_end (by rfl) ?_
  refine eX_then ?_
  refine cW_prune [(1, .slice A1 (l1).length cap1), (5, .slice A2 (y2).length cap2), (6, .pointer (some ⟨b1, 0, none⟩)), (7, .int .i64 (y3.2.1)), (8, .bool (y3.2.2)), (9, .int .i64 (y4.1)), (10, .bool (y4.2))] (by kernel_rfl) (by kernel_rfl) (fun a1 => ?_)
  refine cW_seq ?_
  refine cW_region ?_
  refine wS_pure 2 [(42, .slice A1 (l1).length cap1), (41, .slice A2 (y2).length cap2)] (by kernel_rfl) ?_
  obtain ⟨y5, hy5, hm⟩ := bindE hm
  refine wS_calls (d := 43) (f := 14) (vs := [.slice A1 (l1).length cap1, .int .i64 (0)]) (by kernel_rfl) ent14 (c_laws_b10Pin hy5 F1) ?_
  rintro _ w7 ⟨rfl, hc7⟩
  replace F0 := F0.chg hc7 Dj.nil
  replace F1 := F1.chg hc7 Dj.nil
  replace F2 := F2.chg hc7 Dj.nil
  replace F4 := F4.chg hc7 notNil
  replace hB := hB.inS hc7 inNil
  replace hZ := Nat.le_trans hZ hc7.size
  refine ⟨.agg #[.int .i64 (y5.1), .int .i64 (y5.2)], rfl, ?_⟩
  obtain ⟨y6, hy6, hm⟩ := bindE hm
  refine wS_calls (d := 44) (f := 13) (vs := [.slice A2 (y2).length cap2, .agg #[.int .i64 (y5.1), .int .i64 (y5.2)]]) (by kernel_rfl) ent13 (c_impl_StarLength hy6 (F2.sl encII_ok)) ?_
  rintro _ w8 ⟨rfl, hc8⟩
  replace F0 := F0.chg hc8 Dj.nil
  replace F1 := F1.chg hc8 Dj.nil
  replace F2 := F2.chg hc8 Dj.nil
  replace F4 := F4.chg hc8 notNil
  replace hB := hB.inS hc8 inNil
  replace hZ := Nat.le_trans hZ hc8.size
  refine ⟨.tuple #[.int .i64 (y6.1), .bool (y6.2)], rfl, ?_⟩
  refine wS_pure 5 [(12, .bool (y6.2)), (11, .int .i64 (y6.1)), (46, .bool (y6.2)), (45, .int .i64 (y6.1)), (40, .tuple #[.int .i64 (y6.1), .bool (y6.2)])] (by kernel_rfl) ?_
  refine wS_end (by rfl) ?_
  refine eX_then ?_
  refine cW_seq ?_
  refine cW_region ?_
  refine wS_pure 1 [(48, .slice A2 (y2).length cap2)] (by kernel_rfl) ?_
  obtain ⟨y7, hy7, hm⟩ := bindE hm
  refine wS_calls (d := 49) (f := 8) (vs := [.slice A2 (y2).length cap2]) (by kernel_rfl) ent8 (c_impl_BendTree hy7 (F2.sl encII_ok)) ?_
  rintro _ w9 ⟨rfl, hc9⟩
  replace F0 := F0.chg hc9 Dj.nil
  replace F1 := F1.chg hc9 Dj.nil
  replace F2 := F2.chg hc9 Dj.nil
  replace F4 := F4.chg hc9 notNil
  replace hB := hB.inS hc9 inNil
  replace hZ := Nat.le_trans hZ hc9.size
  refine ⟨.tuple #[.string (y7.1), .int .i64 (y7.2.1), .bool (y7.2.2)], rfl, ?_⟩
  refine wS_pure 7 [(15, .bool (y7.2.2)), (14, .int .i64 (y7.2.1)), (13, .string (y7.1)), (52, .bool (y7.2.2)), (51, .int .i64 (y7.2.1)), (50, .string (y7.1)), (47, .tuple #[.string (y7.1), .int .i64 (y7.2.1), .bool (y7.2.2)])] (by kernel_rfl) ?_
  refine wS_end (by rfl) ?_
  refine eX_then ?_
  refine cW_prune [(5, .slice A2 (y2).length cap2), (6, .pointer (some ⟨b1, 0, none⟩)), (7, .int .i64 (y3.2.1)), (8, .bool (y3.2.2)), (9, .int .i64 (y4.1)), (10, .bool (y4.2)), (11, .int .i64 (y6.1)), (12, .bool (y6.2)), (13, .string (y7.1)), (14, .int .i64 (y7.2.1)), (15, .bool (y7.2.2))] (by kernel_rfl) (by kernel_rfl) (fun a2 => ?_)
  refine cW_seq ?_
  refine cW_region ?_
  refine wS_pure 1 [(54, .slice A2 (y2).length cap2)] (by kernel_rfl) ?_
  obtain ⟨y8, hy8, hm⟩ := bindE hm
  refine wS_calls (d := 55) (f := 15) (vs := [.slice A2 (y2).length cap2]) (by kernel_rfl) ent15 (c_spec_SpanningTree hy8 (F2.sl encII_ok) F2.cap_le) ?_
  rintro _ w10 ⟨A3, cap3, fp3, fr1, rfl, F5, G3, hc10⟩
  have D2 : Dj fp2 (fp3 ++ fr1) := Dj.of F2.low G3
  have D3 : Dj [b1] (fp3 ++ fr1) := Dj.of (lt1 F4.lt) G3
  replace F0 := F0.chg hc10 Dj.nil
  replace F1 := F1.chg hc10 Dj.nil
  replace F2 := F2.chg hc10 Dj.nil
  replace F4 := F4.chg hc10 notNil
  replace hB := hB.inS hc10 inNil
  replace G3 := low_le hZ G3
  replace hZ := Nat.le_trans hZ hc10.size
  refine ⟨.tuple #[.slice A3 (y8.1).length cap3, .int .i64 (y8.2.1), .bool (y8.2.2)], rfl, ?_⟩
  refine wS_pure 7 [(18, .bool (y8.2.2)), (17, .int .i64 (y8.2.1)), (16, .slice A3 (y8.1).length cap3), (58, .bool (y8.2.2)), (57, .int .i64 (y8.2.1)), (56, .slice A3 (y8.1).length cap3), (53, .tuple #[.slice A3 (y8.1).length cap3, .int .i64 (y8.2.1), .bool (y8.2.2)])] (by kernel_rfl) ?_
  refine wS_end (by rfl) ?_
  refine eX_then ?_
  refine cW_seq ?_
  refine cW_region ?_
  refine wS_pure 1 [(60, .slice A2 (y2).length cap2)] (by kernel_rfl) ?_
  obtain ⟨y9, hy9, hm⟩ := bindE hm
  refine wS_calls (d := 61) (f := 16) (vs := [.slice A2 (y2).length cap2]) (by kernel_rfl) ent16 (c_spec_SteinerLength hy9 (F2.sl encII_ok) F2.cap_le) ?_
  rintro _ w11 ⟨rfl, hc11⟩
  replace F0 := F0.chg hc11 Dj.nil
  replace F1 := F1.chg hc11 Dj.nil
  replace F2 := F2.chg hc11 Dj.nil
  replace F4 := F4.chg hc11 notNil
  replace F5 := F5.chg hc11 Dj.nil
  replace hB := hB.inS hc11 inNil
  replace hZ := Nat.le_trans hZ hc11.size
  refine ⟨.tuple #[.int .i64 (y9.1), .bool (y9.2)], rfl, ?_⟩
  refine wS_pure 5 [(20, .bool (y9.2)), (19, .int .i64 (y9.1)), (63, .bool (y9.2)), (62, .int .i64 (y9.1)), (59, .tuple #[.int .i64 (y9.1), .bool (y9.2)])] (by kernel_rfl) ?_
  refine wS_end (by rfl) ?_
  refine eX_then ?_
  refine cW_prune [(5, .slice A2 (y2).length cap2), (6, .pointer (some ⟨b1, 0, none⟩)), (7, .int .i64 (y3.2.1)), (8, .bool (y3.2.2)), (9, .int .i64 (y4.1)), (10, .bool (y4.2)), (11, .int .i64 (y6.1)), (12, .bool (y6.2)), (13, .string (y7.1)), (14, .int .i64 (y7.2.1)), (15, .bool (y7.2.2)), (17, .int .i64 (y8.2.1)), (18, .bool (y8.2.2)), (19, .int .i64 (y9.1)), (20, .bool (y9.2))] (by kernel_rfl) (by kernel_rfl) (fun a3 => ?_)
  refine cW_seq ?_
  refine cW_seq ?_
  refine cW_region ?_
  refine wS_pure 3 [(66, .bool (!y3.2.2)), (65, .bool (!y3.2.2)), (64, .bool (y3.2.2))] (by kernel_rfl) ?_
  refine wS_bool (!y3.2.2) (fun hb2 => ?_) (fun hb2 => ?_)
  ·have hm := condT hb2 hm
   rewrite [hb2]
   refine wS_pure 47 [(113, .bool (true)), (112, undef), (111, undef), (110, undef), (109, undef), (108, undef), (107, undef), (106, .bool (true)), (105, .bool (true)), (104, undef), (103, undef), (102, undef), (101, .bool (true)), (100, .bool (true)), (99, undef), (98, undef), (97, undef), (96, .bool (true)), (95, .bool (true)), (94, undef), (93, undef), (92, undef), (91, .bool (true)), (90, .bool (true)), (89, undef), (88, undef), (87, undef), (86, .bool (true)), (85, .bool (true)), (84, undef), (83, undef), (82, .bool (true)), (81, .bool (true)), (80, undef), (79, undef), (78, .bool (true)), (77, .bool (true)), (76, undef), (75, undef), (74, .bool (true)), (73, .bool (true)), (72, undef), (71, undef), (70, .bool (true)), (69, .bool (true)), (68, undef), (67, undef)] (by kernel_rfl) ?_
   refine wS_end (by rfl) ?_
   refine eX_then ?_
   refine cW_prune [(5, .slice A2 (y2).length cap2), (6, .pointer (some ⟨b1, 0, none⟩)), (7, .int .i64 (y3.2.1)), (113, .bool (true))] (by kernel_rfl) (by kernel_rfl) (fun a4 => ?_)
   refine cW_cond_t (by kernel_rfl) ?_
   refine cW_seq ?_
   refine cW_region ?_
   refine wS_pure 1 [(4, .bool (false))] (by kernel_rfl) ?_
   refine wS_end (by rfl) ?_
   refine eX_then ?_
   refine cW_ret ?_
   refine eX_then_ret ?_
   have hq : (some false : Option ((Bool))) = some _ := hm
   replace hq := someE hq
   subst hq
   refine eX_ret (vs := [.bool (false)]) [.tmp 4] (by rfl) ⟨by (show lkE _ _ _ = _); kernel_rfl, trivial⟩ ?_
   exact ⟨rfl, hB⟩
  ·have hm := condF hb2 hm
   rewrite [hb2]
   refine wS_pure 4 [(70, .bool (!y4.2)), (69, .bool (!y4.2)), (68, .bool (!y4.2)), (67, .bool (y4.2))] (by kernel_rfl) ?_
   refine wS_bool (!y4.2) (fun hb3 => ?_) (fun hb3 => ?_)
   ·have hm := condT hb3 hm
    rewrite [hb3]
    refine wS_pure 43 [(113, .bool (true)), (112, undef), (111, undef), (110, undef), (109, undef), (108, undef), (107, undef), (106, .bool (true)), (105, .bool (true)), (104, undef), (103, undef), (102, undef), (101, .bool (true)), (100, .bool (true)), (99, undef), (98, undef), (97, undef), (96, .bool (true)), (95, .bool (true)), (94, undef), (93, undef), (92, undef), (91, .bool (true)), (90, .bool (true)), (89, undef), (88, undef), (87, undef), (86, .bool (true)), (85, .bool (true)), (84, undef), (83, undef), (82, .bool (true)), (81, .bool (true)), (80, undef), (79, undef), (78, .bool (true)), (77, .bool (true)), (76, undef), (75, undef), (74, .bool (true)), (73, .bool (true)), (72, undef), (71, undef)] (by kernel_rfl) ?_
    refine wS_end (by rfl) ?_
    refine eX_then ?_
    refine cW_prune [(5, .slice A2 (y2).length cap2), (6, .pointer (some ⟨b1, 0, none⟩)), (7, .int .i64 (y3.2.1)), (113, .bool (true))] (by kernel_rfl) (by kernel_rfl) (fun a5 => ?_)
    refine cW_cond_t (by kernel_rfl) ?_
    refine cW_seq ?_
    refine cW_region ?_
    refine wS_pure 1 [(4, .bool (false))] (by kernel_rfl) ?_
    refine wS_end (by rfl) ?_
    refine eX_then ?_
    refine cW_ret ?_
    refine eX_then_ret ?_
    have hq : (some false : Option ((Bool))) = some _ := hm
    replace hq := someE hq
    subst hq
    refine eX_ret (vs := [.bool (false)]) [.tmp 4] (by rfl) ⟨by (show lkE _ _ _ = _); kernel_rfl, trivial⟩ ?_
    exact ⟨rfl, hB⟩
   ·have hm := condF hb3 hm
    rewrite [hb3]
    refine wS_pure 4 [(74, .bool (!y6.2)), (73, .bool (!y6.2)), (72, .bool (!y6.2)), (71, .bool (y6.2))] (by kernel_rfl) ?_
    refine wS_bool (!y6.2) (fun hb4 => ?_) (fun hb4 => ?_)
    ·have hm := condT hb4 hm
     rewrite [hb4]
     refine wS_pure 39 [(113, .bool (true)), (112, undef), (111, undef), (110, undef), (109, undef), (108, undef), (107, undef), (106, .bool (true)), (105, .bool (true)), (104, undef), (103, undef), (102, undef), (101, .bool (true)), (100, .bool (true)), (99, undef), (98, undef), (97, undef), (96, .bool (true)), (95, .bool (true)), (94, undef), (93, undef), (92, undef), (91, .bool (true)), (90, .bool (true)), (89, undef), (88, undef), (87, undef), (86, .bool (true)), (85, .bool (true)), (84, undef), (83, undef), (82, .bool (true)), (81, .bool (true)), (80, undef), (79, undef), (78, .bool (true)), (77, .bool (true)), (76, undef), (75, undef)] (by kernel_rfl) ?_
     refine wS_end (by rfl) ?_
     refine eX_then ?_
     refine cW_prune [(5, .slice A2 (y2).length cap2), (6, .pointer (some ⟨b1, 0, none⟩)), (7, .int .i64 (y3.2.1)), (113, .bool (true))] (by kernel_rfl) (by kernel_rfl) (fun a6 => ?_)
     refine cW_cond_t (by kernel_rfl) ?_
     refine cW_seq ?_
     refine cW_region ?_
     refine wS_pure 1 [(4, .bool (false))] (by kernel_rfl) ?_
     refine wS_end (by rfl) ?_
     refine eX_then ?_
     refine cW_ret ?_
     refine eX_then_ret ?_
     have hq : (some false : Option ((Bool))) = some _ := hm
     replace hq := someE hq
     subst hq
     refine eX_ret (vs := [.bool (false)]) [.tmp 4] (by rfl) ⟨by (show lkE _ _ _ = _); kernel_rfl, trivial⟩ ?_
     exact ⟨rfl, hB⟩
    ·have hm := condF hb4 hm
     rewrite [hb4]
     refine wS_pure 4 [(78, .bool (!y7.2.2)), (77, .bool (!y7.2.2)), (76, .bool (!y7.2.2)), (75, .bool (y7.2.2))] (by kernel_rfl) ?_
     refine wS_bool (!y7.2.2) (fun hb5 => ?_) (fun hb5 => ?_)
     ·have hm := condT hb5 hm
      rewrite [hb5]
      refine wS_pure 35 [(113, .bool (true)), (112, undef), (111, undef), (110, undef), (109, undef), (108, undef), (107, undef), (106, .bool (true)), (105, .bool (true)), (104, undef), (103, undef), (102, undef), (101, .bool (true)), (100, .bool (true)), (99, undef), (98, undef), (97, undef), (96, .bool (true)), (95, .bool (true)), (94, undef), (93, undef), (92, undef), (91, .bool (true)), (90, .bool (true)), (89, undef), (88, undef), (87, undef), (86, .bool (true)), (85, .bool (true)), (84, undef), (83, undef), (82, .bool (true)), (81, .bool (true)), (80, undef), (79, undef)] (by kernel_rfl) ?_
      refine wS_end (by rfl) ?_
      refine eX_then ?_
      refine cW_prune [(5, .slice A2 (y2).length cap2), (6, .pointer (some ⟨b1, 0, none⟩)), (7, .int .i64 (y3.2.1)), (113, .bool (true))] (by kernel_rfl) (by kernel_rfl) (fun a7 => ?_)
      refine cW_cond_t (by kernel_rfl) ?_
      refine cW_seq ?_
      refine cW_region ?_
      refine wS_pure 1 [(4, .bool (false))] (by kernel_rfl) ?_
      refine wS_end (by rfl) ?_
      refine eX_then ?_
      refine cW_ret ?_
      refine eX_then_ret ?_
      have hq : (some false : Option ((Bool))) = some _ := hm
      replace hq := someE hq
      subst hq
      refine eX_ret (vs := [.bool (false)]) [.tmp 4] (by rfl) ⟨by (show lkE _ _ _ = _); kernel_rfl, trivial⟩ ?_
      exact ⟨rfl, hB⟩
     ·have hm := condF hb5 hm
      rewrite [hb5]
      refine wS_pure 4 [(82, .bool (!y8.2.2)), (81, .bool (!y8.2.2)), (80, .bool (!y8.2.2)), (79, .bool (y8.2.2))] (by kernel_rfl) ?_
      refine wS_bool (!y8.2.2) (fun hb6 => ?_) (fun hb6 => ?_)
      ·have hm := condT hb6 hm
       rewrite [hb6]
       refine wS_pure 31 [(113, .bool (true)), (112, undef), (111, undef), (110, undef), (109, undef), (108, undef), (107, undef), (106, .bool (true)), (105, .bool (true)), (104, undef), (103, undef), (102, undef), (101, .bool (true)), (100, .bool (true)), (99, undef), (98, undef), (97, undef), (96, .bool (true)), (95, .bool (true)), (94, undef), (93, undef), (92, undef), (91, .bool (true)), (90, .bool (true)), (89, undef), (88, undef), (87, undef), (86, .bool (true)), (85, .bool (true)), (84, undef), (83, undef)] (by kernel_rfl) ?_
       refine wS_end (by rfl) ?_
       refine eX_then ?_
       refine cW_prune [(5, .slice A2 (y2).length cap2), (6, .pointer (some ⟨b1, 0, none⟩)), (7, .int .i64 (y3.2.1)), (113, .bool (true))] (by kernel_rfl) (by kernel_rfl) (fun a8 => ?_)
       refine cW_cond_t (by kernel_rfl) ?_
       refine cW_seq ?_
       refine cW_region ?_
       refine wS_pure 1 [(4, .bool (false))] (by kernel_rfl) ?_
       refine wS_end (by rfl) ?_
       refine eX_then ?_
       refine cW_ret ?_
       refine eX_then_ret ?_
       have hq : (some false : Option ((Bool))) = some _ := hm
       replace hq := someE hq
       subst hq
       refine eX_ret (vs := [.bool (false)]) [.tmp 4] (by rfl) ⟨by (show lkE _ _ _ = _); kernel_rfl, trivial⟩ ?_
       exact ⟨rfl, hB⟩
      ·have hm := condF hb6 hm
       rewrite [hb6]
       refine wS_pure 4 [(86, .bool (!y9.2)), (85, .bool (!y9.2)), (84, .bool (!y9.2)), (83, .bool (y9.2))] (by kernel_rfl) ?_
       refine wS_bool (!y9.2) (fun hb7 => ?_) (fun hb7 => ?_)
       ·have hm := condT hb7 hm
        rewrite [hb7]
        refine wS_pure 27 [(113, .bool (true)), (112, undef), (111, undef), (110, undef), (109, undef), (108, undef), (107, undef), (106, .bool (true)), (105, .bool (true)), (104, undef), (103, undef), (102, undef), (101, .bool (true)), (100, .bool (true)), (99, undef), (98, undef), (97, undef), (96, .bool (true)), (95, .bool (true)), (94, undef), (93, undef), (92, undef), (91, .bool (true)), (90, .bool (true)), (89, undef), (88, undef), (87, undef)] (by kernel_rfl) ?_
        refine wS_end (by rfl) ?_
        refine eX_then ?_
        refine cW_prune [(5, .slice A2 (y2).length cap2), (6, .pointer (some ⟨b1, 0, none⟩)), (7, .int .i64 (y3.2.1)), (113, .bool (true))] (by kernel_rfl) (by kernel_rfl) (fun a9 => ?_)
        refine cW_cond_t (by kernel_rfl) ?_
        refine cW_seq ?_
        refine cW_region ?_
        refine wS_pure 1 [(4, .bool (false))] (by kernel_rfl) ?_
        refine wS_end (by rfl) ?_
        refine eX_then ?_
        refine cW_ret ?_
        refine eX_then_ret ?_
        have hq : (some false : Option ((Bool))) = some _ := hm
        replace hq := someE hq
        subst hq
        refine eX_ret (vs := [.bool (false)]) [.tmp 4] (by rfl) ⟨by (show lkE _ _ _ = _); kernel_rfl, trivial⟩ ?_
        exact ⟨rfl, hB⟩
       ·have hm := condF hb7 hm
        rewrite [hb7]
        refine wS_pure 5 [(91, .bool (y4.1 != y3.2.1)), (90, .bool (y4.1 != y3.2.1)), (89, .bool (y4.1 != y3.2.1)), (88, .int .i64 (y3.2.1)), (87, .int .i64 (y4.1))] (by kernel_rfl) ?_
        refine wS_bool (y4.1 != y3.2.1) (fun hb8 => ?_) (fun hb8 => ?_)
        ·have hm := condT hb8 hm
         rewrite [hb8]
         refine wS_pure 22 [(113, .bool (true)), (112, undef), (111, undef), (110, undef), (109, undef), (108, undef), (107, undef), (106, .bool (true)), (105, .bool (true)), (104, undef), (103, undef), (102, undef), (101, .bool (true)), (100, .bool (true)), (99, undef), (98, undef), (97, undef), (96, .bool (true)), (95, .bool (true)), (94, undef), (93, undef), (92, undef)] (by kernel_rfl) ?_
         refine wS_end (by rfl) ?_
         refine eX_then ?_
         refine cW_prune [(5, .slice A2 (y2).length cap2), (6, .pointer (some ⟨b1, 0, none⟩)), (7, .int .i64 (y3.2.1)), (113, .bool (true))] (by kernel_rfl) (by kernel_rfl) (fun a10 => ?_)
         refine cW_cond_t (by kernel_rfl) ?_
         refine cW_seq ?_
         refine cW_region ?_
         refine wS_pure 1 [(4, .bool (false))] (by kernel_rfl) ?_
         refine wS_end (by rfl) ?_
         refine eX_then ?_
         refine cW_ret ?_
         refine eX_then_ret ?_
         have hq : (some false : Option ((Bool))) = some _ := hm
         replace hq := someE hq
         subst hq
         refine eX_ret (vs := [.bool (false)]) [.tmp 4] (by rfl) ⟨by (show lkE _ _ _ = _); kernel_rfl, trivial⟩ ?_
         exact ⟨rfl, hB⟩
        ·have hm := condF hb8 hm
         rewrite [hb8]
         refine wS_pure 5 [(96, .bool (decide (y6.1 < y3.2.1))), (95, .bool (decide (y6.1 < y3.2.1))), (94, .bool (decide (y6.1 < y3.2.1))), (93, .int .i64 (y3.2.1)), (92, .int .i64 (y6.1))] (by kernel_rfl) ?_
         refine wS_bool (decide (y6.1 < y3.2.1)) (fun hb9 => ?_) (fun hb9 => ?_)
         ·have hm := condT hb9 hm
          rewrite [hb9]
          refine wS_pure 17 [(113, .bool (true)), (112, undef), (111, undef), (110, undef), (109, undef), (108, undef), (107, undef), (106, .bool (true)), (105, .bool (true)), (104, undef), (103, undef), (102, undef), (101, .bool (true)), (100, .bool (true)), (99, undef), (98, undef), (97, undef)] (by kernel_rfl) ?_
          refine wS_end (by rfl) ?_
          refine eX_then ?_
          refine cW_prune [(5, .slice A2 (y2).length cap2), (6, .pointer (some ⟨b1, 0, none⟩)), (7, .int .i64 (y3.2.1)), (113, .bool (true))] (by kernel_rfl) (by kernel_rfl) (fun a11 => ?_)
          refine cW_cond_t (by kernel_rfl) ?_
          refine cW_seq ?_
          refine cW_region ?_
          refine wS_pure 1 [(4, .bool (false))] (by kernel_rfl) ?_
          refine wS_end (by rfl) ?_
          refine eX_then ?_
          refine cW_ret ?_
          refine eX_then_ret ?_
          have hq : (some false : Option ((Bool))) = some _ := hm
          replace hq := someE hq
          subst hq
          refine eX_ret (vs := [.bool (false)]) [.tmp 4] (by rfl) ⟨by (show lkE _ _ _ = _); kernel_rfl, trivial⟩ ?_
          exact ⟨rfl, hB⟩
         ·have hm := condF hb9 hm
          rewrite [hb9]
          refine wS_pure 5 [(101, .bool (decide (y7.2.1 > y8.2.1))), (100, .bool (decide (y7.2.1 > y8.2.1))), (99, .bool (decide (y7.2.1 > y8.2.1))), (98, .int .i64 (y8.2.1)), (97, .int .i64 (y7.2.1))] (by kernel_rfl) ?_
          refine wS_bool (decide (y7.2.1 > y8.2.1)) (fun hb10 => ?_) (fun hb10 => ?_)
          ·have hm := condT hb10 hm
           rewrite [hb10]
           refine wS_pure 12 [(113, .bool (true)), (112, undef), (111, undef), (110, undef), (109, undef), (108, undef), (107, undef), (106, .bool (true)), (105, .bool (true)), (104, undef), (103, undef), (102, undef)] (by kernel_rfl) ?_
           refine wS_end (by rfl) ?_
           refine eX_then ?_
           refine cW_prune [(5, .slice A2 (y2).length cap2), (6, .pointer (some ⟨b1, 0, none⟩)), (7, .int .i64 (y3.2.1)), (113, .bool (true))] (by kernel_rfl) (by kernel_rfl) (fun a12 => ?_)
           refine cW_cond_t (by kernel_rfl) ?_
           refine cW_seq ?_
           refine cW_region ?_
           refine wS_pure 1 [(4, .bool (false))] (by kernel_rfl) ?_
           refine wS_end (by rfl) ?_
           refine eX_then ?_
           refine cW_ret ?_
           refine eX_then_ret ?_
           have hq : (some false : Option ((Bool))) = some _ := hm
           replace hq := someE hq
           subst hq
           refine eX_ret (vs := [.bool (false)]) [.tmp 4] (by rfl) ⟨by (show lkE _ _ _ = _); kernel_rfl, trivial⟩ ?_
           exact ⟨rfl, hB⟩
          ·have hm := condF hb10 hm
           rewrite [hb10]
           refine wS_pure 5 [(106, .bool (decide (y7.2.1 < y9.1))), (105, .bool (decide (y7.2.1 < y9.1))), (104, .bool (decide (y7.2.1 < y9.1))), (103, .int .i64 (y9.1)), (102, .int .i64 (y7.2.1))] (by kernel_rfl) ?_
           refine wS_bool (decide (y7.2.1 < y9.1)) (fun hb11 => ?_) (fun hb11 => ?_)
           ·have hm := condT hb11 hm
            rewrite [hb11]
            refine wS_pure 7 [(113, .bool (true)), (112, undef), (111, undef), (110, undef), (109, undef), (108, undef), (107, undef)] (by kernel_rfl) ?_
            refine wS_end (by rfl) ?_
            refine eX_then ?_
            refine cW_prune [(5, .slice A2 (y2).length cap2), (6, .pointer (some ⟨b1, 0, none⟩)), (7, .int .i64 (y3.2.1)), (113, .bool (true))] (by kernel_rfl) (by kernel_rfl) (fun a13 => ?_)
            refine cW_cond_t (by kernel_rfl) ?_
            refine cW_seq ?_
            refine cW_region ?_
            refine wS_pure 1 [(4, .bool (false))] (by kernel_rfl) ?_
            refine wS_end (by rfl) ?_
            refine eX_then ?_
            refine cW_ret ?_
            refine eX_then_ret ?_
            have hq : (some false : Option ((Bool))) = some _ := hm
            replace hq := someE hq
            subst hq
            refine eX_ret (vs := [.bool (false)]) [.tmp 4] (by rfl) ⟨by (show lkE _ _ _ = _); kernel_rfl, trivial⟩ ?_
            exact ⟨rfl, hB⟩
           ·have hm := condF hb11 hm
            rewrite [hb11]
            refine wS_pure 7 [(113, .bool ((((y7.1).size : Int)) != (wr ((((y2).length : Int)) - 1)))), (112, .bool ((((y7.1).size : Int)) != (wr ((((y2).length : Int)) - 1)))), (111, .int .i64 (wr ((((y2).length : Int)) - 1))), (110, .int .i64 (((y2).length : Int))), (109, .slice A2 (y2).length cap2), (108, .int .i64 (((y7.1).size : Int))), (107, .string (y7.1))] (by kernel_rfl) ?_
            refine wS_end (by rfl) ?_
            refine eX_then ?_
            refine cW_prune [(5, .slice A2 (y2).length cap2), (6, .pointer (some ⟨b1, 0, none⟩)), (7, .int .i64 (y3.2.1)), (113, .bool ((((y7.1).size : Int)) != (wr ((((y2).length : Int)) - 1))))] (by kernel_rfl) (by kernel_rfl) (fun a14 => ?_)
            refine cW_cond (t := (((y7.1).size : Int)) != (wr ((((y2).length : Int)) - 1))) (by kernel_rfl) (fun hb12 => ?_) (fun hb12 => ?_)
            ·have hm := condT hb12 hm
             refine cW_seq ?_
             refine cW_region ?_
             refine wS_pure 1 [(4, .bool (false))] (by kernel_rfl) ?_
             refine wS_end (by rfl) ?_
             refine eX_then ?_
             refine cW_ret ?_
             refine eX_then_ret ?_
             have hq : (some false : Option ((Bool))) = some _ := hm
             replace hq := someE hq
             subst hq
             refine eX_ret (vs := [.bool (false)]) [.tmp 4] (by rfl) ⟨by (show lkE _ _ _ = _); kernel_rfl, trivial⟩ ?_
             exact ⟨rfl, hB⟩
            ·have hm := condF hb12 hm
             refine cW_skip ?_
             refine eX_then ?_
             refine cW_seq ?_
             refine cW_region ?_
             refine wS_pure 1 [(21, .int .i64 (0))] (by kernel_rfl) ?_
             refine wS_end (by rfl) ?_
             refine eX_then ?_
             refine cW_seq ?_
             refine cW_seq ?_
             refine cW_region ?_
             refine wS_pure 1 [(22, .int .i64 (0))] (by kernel_rfl) ?_
             refine wS_end (by rfl) ?_
             refine eX_then ?_
             obtain ⟨r1, hr1, hm⟩ := bindE hm
             have hm1 := hm
             refine cW_cut (fun a' w' => ∃ x1 : Int, x1 = r1 ∧ Fr 131 [(7, .int .i64 (y3.2.1)), (21, .int .i64 (x1))] a' ∧ Chg [] w0 w' ∧ w0.heap.size ≤ w'.heap.size) ?_ ?_
             ·refine cW_block ?_
              refine cW_loop _ (fun (s1 : Int × Int) a' w' => ∃ x2 : Int, ∃ x3 : Int, (x2, x3) = s1 ∧ Fr 131 [(5, .slice A2 (y2).length cap2), (6, .pointer (some ⟨b1, 0, none⟩)), (7, .int .i64 (y3.2.1)), (21, .int .i64 (x2)), (22, .int .i64 (x3))] a' ∧ Ow 2 encII 34 w' fp2 A2 cap2 y2 ∧ Cl w' b1 34 [.int .i64 (y3.1.1), .int .i64 (y3.1.2)] ∧ Chg [] w0 w' ∧ w0.heap.size ≤ w'.heap.size) hr1 (fun hst => ⟨0, 0, rfl, Fr.of hst (by kernel_rfl), F2, F4, hB, hZ⟩) ?_
              rintro _ c1 a' w12 ⟨x2, x3, rfl, hF1, F6, F7, hB, hZ⟩ hx1
              refine Fr.goOn hF1 (by kernel_rfl) ?_
              have hm := hx1
              unfold m_laws_FnRoots_s1 at hm
              refine cW_seq ?_
              refine cW_seq ?_
              refine cW_region ?_
              refine wS_pure 4 [(117, .bool (decide (x3 < (((y2).length : Int))))), (116, .int .i64 (((y2).length : Int))), (115, .slice A2 (y2).length cap2), (114, .int .i64 (x3))] (by kernel_rfl) ?_
              refine wS_end (by rfl) ?_
              refine eX_then ?_
              refine cW_cond (t := decide (x3 < (((y2).length : Int)))) (by kernel_rfl) (fun hb13 => ?_) (fun hb13 => ?_)
              ·have hm := condT hb13 hm
               refine cW_skip ?_
               refine eX_then ?_
               refine cW_seq ?_
               refine cW_block ?_
               refine cW_drawnTail [] 7 (by kernel_rfl) (by kernel_rfl) (fun w13 hc12 => ?_)
               replace F6 := F6.chg hc12 Dj.nil
               replace F7 := F7.chg hc12 notNil
               replace hB := hB.inS hc12 inNil
               replace hZ := Nat.le_trans hZ hc12.size
               have hS := Chg.refl [] w13
               have Z1 := F6
               have Z2 := F7
               refine wH_take [0, 1, 2] [2, 1, 0] [(122, .int .i64 (x3)), (121, .slice A2 (y2).length cap2), (120, .int .i64 (x2))] (by kernel_rfl) (qT (qB (qT (qL (qB (qT (qT qZ))))))) (by kernel_rfl) ?_
               obtain ⟨x4, hx2, hm⟩ := bindE hm
               refine wH_idx (i := 3) (d := 123) (T := 26) (A := A2) (n := (y2).length) (cap := cap2) (kd := .i64) (m := x3) (by kernel_rfl) (qT (qB (qT (qL (qB (qT (qT qZ))))))) (by kernel_rfl) (by kernel_rfl) sl26 ((F6.sl encII_ok).is hx2) ?_
               refine wH_loadA (i := 4) (d := 124) (T := 34) (ad := (elA A2 2 (x3) 0)) (vs := [.int .i64 (x4.1), .int .i64 (x4.2)]) (by kernel_rfl) (qT (qB (qT (qL (qB (qT (qT qZ))))))) (by kernel_rfl) (by kernel_rfl) vt34 (fun W hW i u hu => Sl.cells_at ((Z1.chg hW Dj.nil).sl encII_ok) hx2 0 hu (by rfl)) ?_
               refine wH_loadA (i := 5) (d := 125) (T := 34) (ad := ⟨b1, 0, none⟩) (vs := [.int .i64 (y3.1.1), .int .i64 (y3.1.2)]) (by kernel_rfl) (qT (qB (qT (qL (qB (qT (qT qZ))))))) (by kernel_rfl) (by kernel_rfl) vt34 (fun W hW i u hu => box_cells (Z2.chg hW notNil) 0 hu (by rfl)) ?_
               refine wH_all [6] (by rfl) (by kernel_rfl) (by simp) ⟨⟨by kernel_rfl, ?_⟩, trivial⟩
               obtain ⟨y10, hy10, hm⟩ := bindE hm
               refine wS_calls (d := 126) (f := 17) (vs := [.agg #[.int .i64 (x4.1), .int .i64 (x4.2)], .agg #[.int .i64 (y3.1.1), .int .i64 (y3.1.2)]]) (by kernel_rfl) ent17 (c_laws_b10Far hy10) ?_
               rintro _ w14 ⟨rfl, hc13⟩
               replace F6 := F6.chg hc13 Dj.nil
               replace F7 := F7.chg hc13 notNil
               replace hB := hB.inS hc13 inNil
               have hSz := hS
               replace hS := hS.inS hc13 inNil
               replace hZ := Nat.le_trans hZ hc13.size
               refine ⟨.int .i64 (y10), rfl, ?_⟩
               refine wS_end (by kernel_rfl) ?_
               refine eX_KH hS ?_
               refine wH_done (by kernel_rfl) ?_
               refine eX_tail ?_
               refine wS_pure 2 [(21, .int .i64 (wr (x2 + y10))), (127, .int .i64 (wr (x2 + y10)))] (by kernel_rfl) ?_
               refine wS_end (by rfl) ?_
               refine eX_block ?_
               refine eX_then ?_
               refine cW_region ?_
               refine wS_pure 3 [(22, .int .i64 (wr (x3 + 1))), (119, .int .i64 (wr (x3 + 1))), (118, .int .i64 (x3))] (by kernel_rfl) ?_
               refine wS_end (by rfl) ?_
               have hq : (some (Ctl.next ((wr (x2 + y10), wr (x3 + 1)))) : Option (Ctl (Int × Int) (Int))) = some _ := hm
               replace hq := someE hq
               subst hq
               exact eX_next hx1 (fun hst => ⟨wr (x2 + y10), wr (x3 + 1), rfl, Fr.of hst (by kernel_rfl), F6, F7, hB, hZ⟩)
              ·have hm := condF hb13 hm
               refine cW_exit ?_
               refine eX_then_exit ?_
               have hq : (some (Ctl.out x2) : Option (Ctl (Int × Int) (Int))) = some _ := hm
               replace hq := someE hq
               subst hq
               refine eX_outX hx1 (fun hr2 => ?_)
               replace hr2 := hr2.symm
               subst hr2
               refine eX_block_hit ?_
               exact eX_J (fun hst => ⟨x2, rfl, Fr.of hst (by kernel_rfl), hB, hZ⟩)
             ·rintro a' w15 ⟨x1, hJ, hF2, hB, hZ⟩
              subst hJ
              refine Fr.goX hF2 (by kernel_rfl) ?_
              refine eX_then ?_
              refine cW_seq ?_
              refine cW_region ?_
              refine wS_pure 4 [(4, .bool (x1 == y3.2.1)), (130, .bool (x1 == y3.2.1)), (129, .int .i64 (y3.2.1)), (128, .int .i64 (x1))] (by kernel_rfl) ?_
              refine wS_end (by rfl) ?_
              refine eX_then ?_
              refine cW_ret ?_
              have hq : (some (x1 == y3.2.1) : Option ((Bool))) = some _ := hm
              replace hq := someE hq
              subst hq
              refine eX_ret (vs := [.bool (x1 == y3.2.1)]) [.tmp 4] (by rfl) ⟨by (show lkE _ _ _ = _); kernel_rfl, trivial⟩ ?_
              exact ⟨rfl, hB⟩

end Go.Proofs.Ytdmokbjaeikfdaa
