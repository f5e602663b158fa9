/- Printed walks: impl.IsJoins, impl.tree, impl.ClockWires, laws.r8Sum, laws.FnBestClocks. -/
import Derived.Test.YtfjpfomdoohabaaProg
import Derived.Test.YtfjpfomdoohabaaWBc01
set_option linter.unusedSimpArgs false
set_option linter.unusedVariables false
namespace Go.Proofs.Ytfjpfomdoohabaa
open Go.RowKit
attribute [local irreducible] wS cW eX wH

theorem ent5 : Ent Try.prog 5 := fun _ => by kernel_rfl
theorem ent6 : Ent Try.prog 6 := fun _ => by kernel_rfl
theorem ent7 : Ent Try.prog 7 := fun _ => by kernel_rfl
theorem ent8 : Ent Try.prog 8 := fun _ => by kernel_rfl
theorem ent9 : Ent Try.prog 9 := fun _ => by kernel_rfl
theorem ent10 : Ent Try.prog 10 := fun _ => by kernel_rfl
theorem ent11 : Ent Try.prog 11 := fun _ => by kernel_rfl
theorem ent12 : Ent Try.prog 12 := fun _ => by kernel_rfl
theorem ent30 : Ent Try.prog 30 := fun _ => by kernel_rfl
theorem vt32 : VarTy Try.prog 32 1 false := ⟨by kernel_rfl, by kernel_rfl⟩
theorem mk69 : MK Try.prog 2 kI okI := mkI Try.underlying2
theorem mp69 : MpTy Try.prog 69 2 4 (vB false) := ⟨Try.underlying69, by kernel_rfl⟩

set_option maxRecDepth 100000 in
/-- impl.IsJoins -/
theorem c_impl_IsJoins {w0 : World} {p0 : Int} {l1 : List (List (Int))} {A1 : Option Addr} {cap1 : Nat} {fp1 : List Nat} {r : (Bool)} (hm : m_impl_IsJoins p0 l1 = some r) (F1 : SlR 1 encI w0 fp1 A1 l1) :
  Calls Try.prog 12 #[.int .i64 (p0), .slice A1 (l1).length cap1] w0 fun e w' => e = .returned (.bool (r)) ∧ Chg [] w0 w' := by
 have L1 := F1.low
 have hB : Chg [] w0 w0 := Chg.refl _ _
 have hZ := Nat.le_refl w0.heap.size
 unfold m_impl_IsJoins at hm
 refine enterE (N := 80) Try.func12 (by rfl) Try.ntmps12 (by simp) [(0, .int .i64 (p0)), (1, .slice A1 (l1).length cap1)] (by rfl) (by kernel_rfl) (fun a => ?_)
 refine cW_seq ?_
 refine cW_region ?_
 refine wS_pure 1 [(4, .bool (false))] (by kernel_rfl) ?_
 refine wS_end (by rfl) ?_
 refine eX_then ?_
 refine cW_seq ?_
 refine cW_seq ?_
 refine cW_region ?_
 refine wS_pure 1 [(8, .int .i64 (p0))] (by kernel_rfl) ?_
 obtain ⟨y1, hy1, hm⟩ := bindE hm
 refine wS_calls (d := 9) (f := 31) (vs := [.int .i64 (p0), .int .i64 (2), .int .i64 (12)]) (by kernel_rfl) ent31 (c_impl_in hy1) ?_
 rintro _ w1 ⟨rfl, hc1⟩
 replace F1 := F1.chg hc1 Dj.nil
 replace hB := hB.inS hc1 inNil
 replace hZ := Nat.le_trans hZ hc1.size
 refine ⟨.bool (y1), rfl, ?_⟩
 refine wS_pure 2 [(11, .bool (!y1)), (10, .bool (!y1))] (by kernel_rfl) ?_
 refine wS_bool (!y1) (fun hb1 => ?_) (fun hb1 => ?_)
 ·have hm := condT hb1 hm
  rewrite [hb1]
  refine wS_pure 6 [(17, .bool (true)), (16, undef), (15, undef), (14, undef), (13, undef), (12, undef)] (by kernel_rfl) ?_
  refine wS_end (by rfl) ?_
  refine eX_then ?_
  refine cW_cond_t (by kernel_rfl) ?_
  refine cW_seq ?_
  refine cW_region ?_
  refine wS_pure 1 [(4, .bool (false))] (by kernel_rfl) ?_
  refine wS_end (by rfl) ?_
  refine eX_then ?_
  refine cW_ret ?_
  refine eX_then_ret ?_
  have hq : (some false : Option ((Bool))) = some _ := hm
  replace hq := someE hq
  subst hq
  refine eX_ret (vs := [.bool (false)]) [.tmp 4] (by rfl) ⟨by (show lkE _ _ _ = _); kernel_rfl, trivial⟩ ?_
  exact ⟨rfl, hB⟩
 ·have hm := condF hb1 hm
  rewrite [hb1]
  refine wS_pure 6 [(17, .bool ((((l1).length : Int)) != (wr (p0 - 1)))), (16, .bool ((((l1).length : Int)) != (wr (p0 - 1)))), (15, .int .i64 (wr (p0 - 1))), (14, .int .i64 (p0)), (13, .int .i64 (((l1).length : Int))), (12, .slice A1 (l1).length cap1)] (by kernel_rfl) ?_
  refine wS_end (by rfl) ?_
  refine eX_then ?_
  refine cW_cond (t := (((l1).length : Int)) != (wr (p0 - 1))) (by kernel_rfl) (fun hb2 => ?_) (fun hb2 => ?_)
  ·have hm := condT hb2 hm
   refine cW_seq ?_
   refine cW_region ?_
   refine wS_pure 1 [(4, .bool (false))] (by kernel_rfl) ?_
   refine wS_end (by rfl) ?_
   refine eX_then ?_
   refine cW_ret ?_
   refine eX_then_ret ?_
   have hq : (some false : Option ((Bool))) = some _ := hm
   replace hq := someE hq
   subst hq
   refine eX_ret (vs := [.bool (false)]) [.tmp 4] (by rfl) ⟨by (show lkE _ _ _ = _); kernel_rfl, trivial⟩ ?_
   exact ⟨rfl, hB⟩
  ·have hm := condF hb2 hm
   refine cW_skip ?_
   refine eX_then ?_
   refine cW_seq ?_
   refine cW_region ?_
   refine wS_makeMap (V := Bool) (d := 18) (T := 69) (by kernel_rfl) okI kI vB ?_
   intro b1 w2 G1 F2 hc2
   replace F1 := F1.chg hc2 Dj.nil
   replace hB := hB.inS hc2 inNil
   replace G1 := Nat.le_trans hZ G1
   replace G1 := low1 G1
   replace hZ := Nat.le_trans hZ hc2.size
   refine wS_pure 1 [(5, .map (some b1))] (by kernel_rfl) ?_
   refine wS_end (by rfl) ?_
   refine eX_then ?_
   refine cW_seq ?_
   refine cW_seq ?_
   refine cW_region ?_
   refine wS_pure 3 [(21, .int .i64 (0)), (20, .int .i64 (((l1).length : Int))), (19, .slice A1 (l1).length cap1)] (by kernel_rfl) ?_
   refine wS_end (by rfl) ?_
   refine eX_then ?_
   obtain ⟨r1, hr1, hm⟩ := bindE hm
   have hm1 := hm
   refine cW_cut (fun a' w' => Sum.inl (()) = r1 ∧ Fr 80 [] a' ∧ Chg [] w0 w' ∧ w0.heap.size ≤ w'.heap.size) ?_ ?_
   ·refine cW_block ?_
    refine cW_loop _ (fun (s1 : Int × (List (Int × Bool))) a' w' => ∃ x1 : Int, ∃ l2 : List (Int × Bool), (x1, l2) = s1 ∧ Fr 80 [(0, .int .i64 (p0)), (5, .map (some b1)), (19, .slice A1 (l1).length cap1), (20, .int .i64 (((l1).length : Int))), (21, .int .i64 (x1))] a' ∧ SlR 1 encI w' fp1 A1 l1 ∧ Mp okI kI vB w' b1 l2 ∧ Chg [] w0 w' ∧ w0.heap.size ≤ w'.heap.size) hr1 (fun hst => ⟨0, ([] : List (Int × Bool)), rfl, Fr.of hst (by kernel_rfl), F1, F2, hB, hZ⟩) ?_
    rintro _ c1 a' w3 ⟨x1, l2, rfl, hF1, F3, F4, hB, hZ⟩ hx1
    refine Fr.goOn hF1 (by kernel_rfl) ?_
    have hm := hx1
    unfold m_impl_IsJoins_s1 at hm
    refine cW_seq ?_
    refine cW_region ?_
    refine wS_pure 1 [(22, .bool (decide (x1 < (((l1).length : Int)))))] (by kernel_rfl) ?_
    refine wS_end (by rfl) ?_
    refine eX_then ?_
    refine cW_seq ?_
    refine cW_cond (t := decide (x1 < (((l1).length : Int)))) (by kernel_rfl) (fun hb3 => ?_) (fun hb3 => ?_)
    ·have hm := condT hb3 hm
     refine cW_skip ?_
     refine eX_then ?_
     refine cW_seq ?_
     refine cW_block ?_
     refine cW_seq ?_
     refine cW_region ?_
     refine wS_pure 1 [(23, .int .i64 (x1))] (by kernel_rfl) ?_
     obtain ⟨x2, hx2, hm⟩ := bindE hm
     refine wS_idx (d := 24) (T := 26) (A := A1) (n := (l1).length) (cap := cap1) (kd := .i64) (m := x1) (by kernel_rfl) sl26 (F3.is hx2) ?_
     obtain ⟨A2, cap2, hc3, F5, K1⟩ := SlR.row F3 hx2
     refine wS_load1 (d := 25) (T := 32) (ad := (elA A1 1 (x1) 0)) (v := .slice A2 (x2).length cap2) (by kernel_rfl) vt32 hc3 ?_
     refine wS_pure 2 [(7, .slice A2 (x2).length cap2), (6, .int .i64 (x1))] (by kernel_rfl) ?_
     refine wS_end (by rfl) ?_
     refine eX_then ?_
     refine cW_seq ?_
     refine cW_seq ?_
     refine cW_drawnTail [] 39 (by kernel_rfl) (by kernel_rfl) (fun w4 hc4 => ?_)
     replace F3 := F3.chg hc4 Dj.nil
     replace F4 := F4.chg hc4 Dj.nil
     replace F5 := F5.chg hc4 Dj.nil
     replace hB := hB.inS hc4 inNil
     replace hZ := Nat.le_trans hZ hc4.size
     have hS := Chg.refl [] w4
     have Z1 := F3
     have Z2 := F4
     have Z3 := F5
     refine wH_take [0, 1, 2, 3] [3, 2, 1, 0] [(29, .bool ((((x2).length : Int)) != 2)), (28, .bool ((((x2).length : Int)) != 2)), (27, .int .i64 (((x2).length : Int))), (26, .slice A2 (x2).length cap2)] (by kernel_rfl) (qT (qT (qT (qB (qT (qL (qB (qT (qT qZ))))))))) (by kernel_rfl) ?_
     refine wH_bool ((((x2).length : Int)) != 2) (fun hb4 => ?_) (fun hb4 => ?_)
     ·have hm := condT hb4 hm
      rewrite [hb4]
      refine wH_take [4, 5, 6, 7, 8, 9, 10, 11, 12, 13, 14, 15, 16, 17, 18, 19, 20, 21, 22, 23, 24, 25, 26, 27, 28, 29, 30, 31, 32, 33, 34, 35, 36, 37, 38] [38, 37, 36, 35, 34, 33, 32, 31, 30, 29, 28, 27, 26, 25, 24, 23, 22, 21, 20, 19, 18, 17, 16, 15, 14, 13, 12, 11, 10, 9, 8, 7, 6, 5, 4, 3, 2, 1, 0] [(64, undef), (63, undef), (62, undef), (61, undef), (60, .bool (true)), (59, .bool (true)), (58, undef), (57, undef), (56, undef), (55, undef), (54, undef), (53, .bool (true)), (52, .bool (true)), (51, undef), (50, undef), (49, undef), (48, undef), (47, undef), (46, undef), (45, undef), (44, .bool (true)), (43, .bool (true)), (42, undef), (41, undef), (40, undef), (39, undef), (38, undef), (37, undef), (36, undef), (35, .bool (true)), (34, .bool (true)), (33, undef), (32, undef), (31, undef), (30, undef)] (by kernel_rfl) (qT (qT (qT (qB (qT (qL (qB (qT (qT qZ))))))))) (by kernel_rfl) ?_
      refine wH_done (by kernel_rfl) ?_
      refine eX_tail ?_
      refine wS_pure 2 [(66, .bool (true)), (65, undef)] (by kernel_rfl) ?_
      refine wS_end (by rfl) ?_
      refine eX_then ?_
      refine cW_prune [(0, .int .i64 (p0)), (5, .map (some b1)), (7, .slice A2 (x2).length cap2), (19, .slice A1 (l1).length cap1), (20, .int .i64 (((l1).length : Int))), (21, .int .i64 (x1)), (66, .bool (true))] (by kernel_rfl) (by kernel_rfl) (fun a1 => ?_)
      refine cW_cond_t (by kernel_rfl) ?_
      refine cW_seq ?_
      refine cW_region ?_
      refine wS_pure 1 [(4, .bool (false))] (by kernel_rfl) ?_
      refine wS_end (by rfl) ?_
      refine eX_then ?_
      refine cW_ret ?_
      refine eX_then_ret ?_
      refine eX_block_ret ?_
      refine eX_then_ret ?_
      have hq : (some (Ctl.out (Sum.inr false)) : Option (Ctl (Int × (List (Int × Bool))) (Sum (Unit) ((Bool))))) = some _ := hm
      replace hq := someE hq
      subst hq
      refine eX_outR hx1 (fun hr => ?_)
      subst hr
      refine eX_block_ret ?_
      refine eX_then_ret ?_
      refine eX_then_ret ?_
      have hq : (some false : Option ((Bool))) = some _ := hm1
      replace hq := someE hq
      subst hq
      refine eX_ret (vs := [.bool (false)]) [.tmp 4] (by rfl) ⟨by (show lkE _ _ _ = _); kernel_rfl, trivial⟩ ?_
      exact ⟨rfl, hB⟩
     ·have hm := condF hb4 hm
      rewrite [hb4]
      refine wH_take [4] [4, 3, 2, 1, 0] [(30, .slice A2 (x2).length cap2)] (by kernel_rfl) (qT (qT (qT (qB (qT (qL (qB (qT (qT qZ))))))))) (by kernel_rfl) ?_
      obtain ⟨x3, hx3, hm⟩ := bindE hm
      refine wH_idx (i := 5) (d := 31) (T := 32) (A := A2) (n := (x2).length) (cap := cap2) (kd := .i64) (m := 0) (by kernel_rfl) (qT (qT (qT (qB (qT (qL (qB (qT (qT qZ))))))))) (by kernel_rfl) (by kernel_rfl) sl32 (F5.is hx3) ?_
      refine wH_load1 (i := 6) (d := 32) (T := 2) (ad := (elA A2 1 (0) 0)) (v := .int .i64 (x3)) (by kernel_rfl) (qT (qT (qT (qB (qT (qL (qB (qT (qT qZ))))))))) (by kernel_rfl) (by kernel_rfl) vt2 (fun W hW => Sl.cell (Z3.chg hW Dj.nil) hx3 0 (by rfl)) ?_
      refine wH_take [7, 8, 9] [9, 8, 7, 6, 5, 4, 3, 2, 1, 0] [(35, .bool (decide (x3 < 0))), (34, .bool (decide (x3 < 0))), (33, .bool (decide (x3 < 0)))] (by kernel_rfl) (qT (qT (qT (qB (qT (qL (qB (qT (qT qZ))))))))) (by kernel_rfl) ?_
      refine wH_bool (decide (x3 < 0)) (fun hb5 => ?_) (fun hb5 => ?_)
      ·have hm := condT hb5 hm
       rewrite [hb5]
       refine wH_take [10, 11, 12, 13, 14, 15, 16, 17, 18, 19, 20, 21, 22, 23, 24, 25, 26, 27, 28, 29, 30, 31, 32, 33, 34, 35, 36, 37, 38] [38, 37, 36, 35, 34, 33, 32, 31, 30, 29, 28, 27, 26, 25, 24, 23, 22, 21, 20, 19, 18, 17, 16, 15, 14, 13, 12, 11, 10, 9, 8, 7, 6, 5, 4, 3, 2, 1, 0] [(64, undef), (63, undef), (62, undef), (61, undef), (60, .bool (true)), (59, .bool (true)), (58, undef), (57, undef), (56, undef), (55, undef), (54, undef), (53, .bool (true)), (52, .bool (true)), (51, undef), (50, undef), (49, undef), (48, undef), (47, undef), (46, undef), (45, undef), (44, .bool (true)), (43, .bool (true)), (42, undef), (41, undef), (40, undef), (39, undef), (38, undef), (37, undef), (36, undef)] (by kernel_rfl) (qT (qT (qT (qB (qT (qL (qB (qT (qT qZ))))))))) (by kernel_rfl) ?_
       refine wH_done (by kernel_rfl) ?_
       refine eX_tail ?_
       refine wS_pure 2 [(66, .bool (true)), (65, undef)] (by kernel_rfl) ?_
       refine wS_end (by rfl) ?_
       refine eX_then ?_
       refine cW_prune [(0, .int .i64 (p0)), (5, .map (some b1)), (7, .slice A2 (x2).length cap2), (19, .slice A1 (l1).length cap1), (20, .int .i64 (((l1).length : Int))), (21, .int .i64 (x1)), (66, .bool (true))] (by kernel_rfl) (by kernel_rfl) (fun a2 => ?_)
       refine cW_cond_t (by kernel_rfl) ?_
       refine cW_seq ?_
       refine cW_region ?_
       refine wS_pure 1 [(4, .bool (false))] (by kernel_rfl) ?_
       refine wS_end (by rfl) ?_
       refine eX_then ?_
       refine cW_ret ?_
       refine eX_then_ret ?_
       refine eX_block_ret ?_
       refine eX_then_ret ?_
       have hq : (some (Ctl.out (Sum.inr false)) : Option (Ctl (Int × (List (Int × Bool))) (Sum (Unit) ((Bool))))) = some _ := hm
       replace hq := someE hq
       subst hq
       refine eX_outR hx1 (fun hr => ?_)
       subst hr
       refine eX_block_ret ?_
       refine eX_then_ret ?_
       refine eX_then_ret ?_
       have hq : (some false : Option ((Bool))) = some _ := hm1
       replace hq := someE hq
       subst hq
       refine eX_ret (vs := [.bool (false)]) [.tmp 4] (by rfl) ⟨by (show lkE _ _ _ = _); kernel_rfl, trivial⟩ ?_
       exact ⟨rfl, hB⟩
      ·have hm := condF hb5 hm
       rewrite [hb5]
       refine wH_take [10] [10, 9, 8, 7, 6, 5, 4, 3, 2, 1, 0] [(36, .slice A2 (x2).length cap2)] (by kernel_rfl) (qT (qT (qT (qB (qT (qL (qB (qT (qT qZ))))))))) (by kernel_rfl) ?_
       obtain ⟨x4, hx4, hm⟩ := bindE hm
       refine wH_idx (i := 11) (d := 37) (T := 32) (A := A2) (n := (x2).length) (cap := cap2) (kd := .i64) (m := 0) (by kernel_rfl) (qT (qT (qT (qB (qT (qL (qB (qT (qT qZ))))))))) (by kernel_rfl) (by kernel_rfl) sl32 (F5.is hx4) ?_
       refine wH_load1 (i := 12) (d := 38) (T := 2) (ad := (elA A2 1 (0) 0)) (v := .int .i64 (x4)) (by kernel_rfl) (qT (qT (qT (qB (qT (qL (qB (qT (qT qZ))))))))) (by kernel_rfl) (by kernel_rfl) vt2 (fun W hW => Sl.cell (Z3.chg hW Dj.nil) hx4 0 (by rfl)) ?_
       refine wH_take [13] [13, 12, 11, 10, 9, 8, 7, 6, 5, 4, 3, 2, 1, 0] [(39, .slice A2 (x2).length cap2)] (by kernel_rfl) (qT (qT (qT (qB (qT (qL (qB (qT (qT qZ))))))))) (by kernel_rfl) ?_
       obtain ⟨x5, hx5, hm⟩ := bindE hm
       refine wH_idx (i := 14) (d := 40) (T := 32) (A := A2) (n := (x2).length) (cap := cap2) (kd := .i64) (m := 1) (by kernel_rfl) (qT (qT (qT (qB (qT (qL (qB (qT (qT qZ))))))))) (by kernel_rfl) (by kernel_rfl) sl32 (F5.is hx5) ?_
       refine wH_load1 (i := 15) (d := 41) (T := 2) (ad := (elA A2 1 (1) 0)) (v := .int .i64 (x5)) (by kernel_rfl) (qT (qT (qT (qB (qT (qL (qB (qT (qT qZ))))))))) (by kernel_rfl) (by kernel_rfl) vt2 (fun W hW => Sl.cell (Z3.chg hW Dj.nil) hx5 0 (by rfl)) ?_
       refine wH_take [16, 17, 18] [18, 17, 16, 15, 14, 13, 12, 11, 10, 9, 8, 7, 6, 5, 4, 3, 2, 1, 0] [(44, .bool (decide (x4 ≥ x5))), (43, .bool (decide (x4 ≥ x5))), (42, .bool (decide (x4 ≥ x5)))] (by kernel_rfl) (qT (qT (qT (qB (qT (qL (qB (qT (qT qZ))))))))) (by kernel_rfl) ?_
       refine wH_bool (decide (x4 ≥ x5)) (fun hb6 => ?_) (fun hb6 => ?_)
       ·have hm := condT hb6 hm
        rewrite [hb6]
        refine wH_take [19, 20, 21, 22, 23, 24, 25, 26, 27, 28, 29, 30, 31, 32, 33, 34, 35, 36, 37, 38] [38, 37, 36, 35, 34, 33, 32, 31, 30, 29, 28, 27, 26, 25, 24, 23, 22, 21, 20, 19, 18, 17, 16, 15, 14, 13, 12, 11, 10, 9, 8, 7, 6, 5, 4, 3, 2, 1, 0] [(64, undef), (63, undef), (62, undef), (61, undef), (60, .bool (true)), (59, .bool (true)), (58, undef), (57, undef), (56, undef), (55, undef), (54, undef), (53, .bool (true)), (52, .bool (true)), (51, undef), (50, undef), (49, undef), (48, undef), (47, undef), (46, undef), (45, undef)] (by kernel_rfl) (qT (qT (qT (qB (qT (qL (qB (qT (qT qZ))))))))) (by kernel_rfl) ?_
        refine wH_done (by kernel_rfl) ?_
        refine eX_tail ?_
        refine wS_pure 2 [(66, .bool (true)), (65, undef)] (by kernel_rfl) ?_
        refine wS_end (by rfl) ?_
        refine eX_then ?_
        refine cW_prune [(0, .int .i64 (p0)), (5, .map (some b1)), (7, .slice A2 (x2).length cap2), (19, .slice A1 (l1).length cap1), (20, .int .i64 (((l1).length : Int))), (21, .int .i64 (x1)), (66, .bool (true))] (by kernel_rfl) (by kernel_rfl) (fun a3 => ?_)
        refine cW_cond_t (by kernel_rfl) ?_
        refine cW_seq ?_
        refine cW_region ?_
        refine wS_pure 1 [(4, .bool (false))] (by kernel_rfl) ?_
        refine wS_end (by rfl) ?_
        refine eX_then ?_
        refine cW_ret ?_
        refine eX_then_ret ?_
        refine eX_block_ret ?_
        refine eX_then_ret ?_
        have hq : (some (Ctl.out (Sum.inr false)) : Option (Ctl (Int × (List (Int × Bool))) (Sum (Unit) ((Bool))))) = some _ := hm
        replace hq := someE hq
        subst hq
        refine eX_outR hx1 (fun hr => ?_)
        subst hr
        refine eX_block_ret ?_
        refine eX_then_ret ?_
        refine eX_then_ret ?_
        have hq : (some false : Option ((Bool))) = some _ := hm1
        replace hq := someE hq
        subst hq
        refine eX_ret (vs := [.bool (false)]) [.tmp 4] (by rfl) ⟨by (show lkE _ _ _ = _); kernel_rfl, trivial⟩ ?_
        exact ⟨rfl, hB⟩
       ·have hm := condF hb6 hm
        rewrite [hb6]
        refine wH_take [19] [19, 18, 17, 16, 15, 14, 13, 12, 11, 10, 9, 8, 7, 6, 5, 4, 3, 2, 1, 0] [(45, .slice A2 (x2).length cap2)] (by kernel_rfl) (qT (qT (qT (qB (qT (qL (qB (qT (qT qZ))))))))) (by kernel_rfl) ?_
        obtain ⟨x6, hx6, hm⟩ := bindE hm
        refine wH_idx (i := 20) (d := 46) (T := 32) (A := A2) (n := (x2).length) (cap := cap2) (kd := .i64) (m := 1) (by kernel_rfl) (qT (qT (qT (qB (qT (qL (qB (qT (qT qZ))))))))) (by kernel_rfl) (by kernel_rfl) sl32 (F5.is hx6) ?_
        refine wH_load1 (i := 21) (d := 47) (T := 2) (ad := (elA A2 1 (1) 0)) (v := .int .i64 (x6)) (by kernel_rfl) (qT (qT (qT (qB (qT (qL (qB (qT (qT qZ))))))))) (by kernel_rfl) (by kernel_rfl) vt2 (fun W hW => Sl.cell (Z3.chg hW Dj.nil) hx6 0 (by rfl)) ?_
        refine wH_take [22, 23, 24, 25, 26, 27] [27, 26, 25, 24, 23, 22, 21, 20, 19, 18, 17, 16, 15, 14, 13, 12, 11, 10, 9, 8, 7, 6, 5, 4, 3, 2, 1, 0] [(53, .bool (decide (x6 ≥ (wr (p0 + x1))))), (52, .bool (decide (x6 ≥ (wr (p0 + x1))))), (51, .bool (decide (x6 ≥ (wr (p0 + x1))))), (50, .int .i64 (wr (p0 + x1))), (49, .int .i64 (x1)), (48, .int .i64 (p0))] (by kernel_rfl) (qT (qT (qT (qB (qT (qL (qB (qT (qT qZ))))))))) (by kernel_rfl) ?_
        refine wH_bool (decide (x6 ≥ (wr (p0 + x1)))) (fun hb7 => ?_) (fun hb7 => ?_)
        ·have hm := condT hb7 hm
         rewrite [hb7]
         refine wH_take [28, 29, 30, 31, 32, 33, 34, 35, 36, 37, 38] [38, 37, 36, 35, 34, 33, 32, 31, 30, 29, 28, 27, 26, 25, 24, 23, 22, 21, 20, 19, 18, 17, 16, 15, 14, 13, 12, 11, 10, 9, 8, 7, 6, 5, 4, 3, 2, 1, 0] [(64, undef), (63, undef), (62, undef), (61, undef), (60, .bool (true)), (59, .bool (true)), (58, undef), (57, undef), (56, undef), (55, undef), (54, undef)] (by kernel_rfl) (qT (qT (qT (qB (qT (qL (qB (qT (qT qZ))))))))) (by kernel_rfl) ?_
         refine wH_done (by kernel_rfl) ?_
         refine eX_tail ?_
         refine wS_pure 2 [(66, .bool (true)), (65, undef)] (by kernel_rfl) ?_
         refine wS_end (by rfl) ?_
         refine eX_then ?_
         refine cW_prune [(0, .int .i64 (p0)), (5, .map (some b1)), (7, .slice A2 (x2).length cap2), (19, .slice A1 (l1).length cap1), (20, .int .i64 (((l1).length : Int))), (21, .int .i64 (x1)), (66, .bool (true))] (by kernel_rfl) (by kernel_rfl) (fun a4 => ?_)
         refine cW_cond_t (by kernel_rfl) ?_
         refine cW_seq ?_
         refine cW_region ?_
         refine wS_pure 1 [(4, .bool (false))] (by kernel_rfl) ?_
         refine wS_end (by rfl) ?_
         refine eX_then ?_
         refine cW_ret ?_
         refine eX_then_ret ?_
         refine eX_block_ret ?_
         refine eX_then_ret ?_
         have hq : (some (Ctl.out (Sum.inr false)) : Option (Ctl (Int × (List (Int × Bool))) (Sum (Unit) ((Bool))))) = some _ := hm
         replace hq := someE hq
         subst hq
         refine eX_outR hx1 (fun hr => ?_)
         subst hr
         refine eX_block_ret ?_
         refine eX_then_ret ?_
         refine eX_then_ret ?_
         have hq : (some false : Option ((Bool))) = some _ := hm1
         replace hq := someE hq
         subst hq
         refine eX_ret (vs := [.bool (false)]) [.tmp 4] (by rfl) ⟨by (show lkE _ _ _ = _); kernel_rfl, trivial⟩ ?_
         exact ⟨rfl, hB⟩
        ·have hm := condF hb7 hm
         rewrite [hb7]
         refine wH_take [28, 29] [29, 28, 27, 26, 25, 24, 23, 22, 21, 20, 19, 18, 17, 16, 15, 14, 13, 12, 11, 10, 9, 8, 7, 6, 5, 4, 3, 2, 1, 0] [(55, .slice A2 (x2).length cap2), (54, .map (some b1))] (by kernel_rfl) (qT (qT (qT (qB (qT (qL (qB (qT (qT qZ))))))))) (by kernel_rfl) ?_
         obtain ⟨x7, hx7, hm⟩ := bindE hm
         refine wH_idx (i := 30) (d := 56) (T := 32) (A := A2) (n := (x2).length) (cap := cap2) (kd := .i64) (m := 0) (by kernel_rfl) (qT (qT (qT (qB (qT (qL (qB (qT (qT qZ))))))))) (by kernel_rfl) (by kernel_rfl) sl32 (F5.is hx7) ?_
         refine wH_load1 (i := 31) (d := 57) (T := 2) (ad := (elA A2 1 (0) 0)) (v := .int .i64 (x7)) (by kernel_rfl) (qT (qT (qT (qB (qT (qL (qB (qT (qT qZ))))))))) (by kernel_rfl) (by kernel_rfl) vt2 (fun W hW => Sl.cell (Z3.chg hW Dj.nil) hx7 0 (by rfl)) ?_
         obtain ⟨y2, hy2, hm⟩ := bindE hm
         refine wH_look (i := 32) (d := 58) (T := 69) (by kernel_rfl) (qT (qT (qT (qB (qT (qL (qB (qT (qT qZ))))))))) (by kernel_rfl) (by kernel_rfl) mk69 mp69 (fun W hW => Z2.chg hW Dj.nil) hy2 ?_
         refine wH_take [33, 34] [34, 33, 32, 31, 30, 29, 28, 27, 26, 25, 24, 23, 22, 21, 20, 19, 18, 17, 16, 15, 14, 13, 12, 11, 10, 9, 8, 7, 6, 5, 4, 3, 2, 1, 0] [(60, .bool (y2)), (59, .bool (y2))] (by kernel_rfl) (qT (qT (qT (qB (qT (qL (qB (qT (qT qZ))))))))) (by kernel_rfl) ?_
         refine wH_bool y2 (fun hb8 => ?_) (fun hb8 => ?_)
         ·have hm := condT hb8 hm
          rewrite [hb8]
          refine wH_take [35, 36, 37, 38] [38, 37, 36, 35, 34, 33, 32, 31, 30, 29, 28, 27, 26, 25, 24, 23, 22, 21, 20, 19, 18, 17, 16, 15, 14, 13, 12, 11, 10, 9, 8, 7, 6, 5, 4, 3, 2, 1, 0] [(64, undef), (63, undef), (62, undef), (61, undef)] (by kernel_rfl) (qT (qT (qT (qB (qT (qL (qB (qT (qT qZ))))))))) (by kernel_rfl) ?_
          refine wH_done (by kernel_rfl) ?_
          refine eX_tail ?_
          refine wS_pure 2 [(66, .bool (true)), (65, undef)] (by kernel_rfl) ?_
          refine wS_end (by rfl) ?_
          refine eX_then ?_
          refine cW_prune [(0, .int .i64 (p0)), (5, .map (some b1)), (7, .slice A2 (x2).length cap2), (19, .slice A1 (l1).length cap1), (20, .int .i64 (((l1).length : Int))), (21, .int .i64 (x1)), (66, .bool (true))] (by kernel_rfl) (by kernel_rfl) (fun a5 => ?_)
          refine cW_cond_t (by kernel_rfl) ?_
          refine cW_seq ?_
          refine cW_region ?_
          refine wS_pure 1 [(4, .bool (false))] (by kernel_rfl) ?_
          refine wS_end (by rfl) ?_
          refine eX_then ?_
          refine cW_ret ?_
          refine eX_then_ret ?_
          refine eX_block_ret ?_
          refine eX_then_ret ?_
          have hq : (some (Ctl.out (Sum.inr false)) : Option (Ctl (Int × (List (Int × Bool))) (Sum (Unit) ((Bool))))) = some _ := hm
          replace hq := someE hq
          subst hq
          refine eX_outR hx1 (fun hr => ?_)
          subst hr
          refine eX_block_ret ?_
          refine eX_then_ret ?_
          refine eX_then_ret ?_
          have hq : (some false : Option ((Bool))) = some _ := hm1
          replace hq := someE hq
          subst hq
          refine eX_ret (vs := [.bool (false)]) [.tmp 4] (by rfl) ⟨by (show lkE _ _ _ = _); kernel_rfl, trivial⟩ ?_
          exact ⟨rfl, hB⟩
         ·have hm := condF hb8 hm
          rewrite [hb8]
          refine wH_take [35, 36] [36, 35, 34, 33, 32, 31, 30, 29, 28, 27, 26, 25, 24, 23, 22, 21, 20, 19, 18, 17, 16, 15, 14, 13, 12, 11, 10, 9, 8, 7, 6, 5, 4, 3, 2, 1, 0] [(62, .slice A2 (x2).length cap2), (61, .map (some b1))] (by kernel_rfl) (qT (qT (qT (qB (qT (qL (qB (qT (qT qZ))))))))) (by kernel_rfl) ?_
          obtain ⟨x8, hx8, hm⟩ := bindE hm
          refine wH_idx (i := 37) (d := 63) (T := 32) (A := A2) (n := (x2).length) (cap := cap2) (kd := .i64) (m := 1) (by kernel_rfl) (qT (qT (qT (qB (qT (qL (qB (qT (qT qZ))))))))) (by kernel_rfl) (by kernel_rfl) sl32 (F5.is hx8) ?_
          refine wH_load1 (i := 38) (d := 64) (T := 2) (ad := (elA A2 1 (1) 0)) (v := .int .i64 (x8)) (by kernel_rfl) (qT (qT (qT (qB (qT (qL (qB (qT (qT qZ))))))))) (by kernel_rfl) (by kernel_rfl) vt2 (fun W hW => Sl.cell (Z3.chg hW Dj.nil) hx8 0 (by rfl)) ?_
          refine wH_done (by kernel_rfl) ?_
          refine eX_tail ?_
          obtain ⟨y3, hy3, hm⟩ := bindE hm
          refine wS_look (d := 65) (T := 69) (by kernel_rfl) mk69 mp69 F4 hy3 ?_
          refine wS_pure 1 [(66, .bool (y3))] (by kernel_rfl) ?_
          refine wS_end (by rfl) ?_
          refine eX_then ?_
          refine cW_prune [(0, .int .i64 (p0)), (5, .map (some b1)), (7, .slice A2 (x2).length cap2), (19, .slice A1 (l1).length cap1), (20, .int .i64 (((l1).length : Int))), (21, .int .i64 (x1)), (66, .bool (y3))] (by kernel_rfl) (by kernel_rfl) (fun a6 => ?_)
          refine cW_cond (t := y3) (by kernel_rfl) (fun hb9 => ?_) (fun hb9 => ?_)
          ·have hm := condT hb9 hm
           refine cW_seq ?_
           refine cW_region ?_
           refine wS_pure 1 [(4, .bool (false))] (by kernel_rfl) ?_
           refine wS_end (by rfl) ?_
           refine eX_then ?_
           refine cW_ret ?_
           refine eX_then_ret ?_
           refine eX_block_ret ?_
           refine eX_then_ret ?_
           have hq : (some (Ctl.out (Sum.inr false)) : Option (Ctl (Int × (List (Int × Bool))) (Sum (Unit) ((Bool))))) = some _ := hm
           replace hq := someE hq
           subst hq
           refine eX_outR hx1 (fun hr => ?_)
           subst hr
           refine eX_block_ret ?_
           refine eX_then_ret ?_
           refine eX_then_ret ?_
           have hq : (some false : Option ((Bool))) = some _ := hm1
           replace hq := someE hq
           subst hq
           refine eX_ret (vs := [.bool (false)]) [.tmp 4] (by rfl) ⟨by (show lkE _ _ _ = _); kernel_rfl, trivial⟩ ?_
           exact ⟨rfl, hB⟩
          ·have hm := condF hb9 hm
           refine cW_skip ?_
           refine eX_then ?_
           refine cW_drawnTail [b1] 11 (by kernel_rfl) (by kernel_rfl) (fun w5 hc5 => ?_)
           replace F3 := F3.chg hc5 Dj.nil
           replace F4 := F4.chg hc5 Dj.nil
           replace F5 := F5.chg hc5 Dj.nil
           replace hB := hB.inS hc5 inNil
           replace hZ := Nat.le_trans hZ hc5.size
           have hS := Chg.refl [b1] w5
           have Z4 := F3
           have Z5 := F4
           have Z6 := F5
           refine wH_take [0, 1] [1, 0] [(68, .slice A2 (x2).length cap2), (67, .map (some b1))] (by kernel_rfl) (qT (qB (qT (qL (qB (qT (qT qZ))))))) (by kernel_rfl) ?_
           obtain ⟨x9, hx9, hm⟩ := bindE hm
           refine wH_idx (i := 2) (d := 69) (T := 32) (A := A2) (n := (x2).length) (cap := cap2) (kd := .i64) (m := 0) (by kernel_rfl) (qT (qB (qT (qL (qB (qT (qT qZ))))))) (by kernel_rfl) (by kernel_rfl) sl32 (F5.is hx9) ?_
           refine wH_load1 (i := 3) (d := 70) (T := 2) (ad := (elA A2 1 (0) 0)) (v := .int .i64 (x9)) (by kernel_rfl) (qT (qB (qT (qL (qB (qT (qT qZ))))))) (by kernel_rfl) (by kernel_rfl) vt2 (fun W hW => Sl.cell (Z6.chg hW (Dj.of L1 G1)) hx9 0 (by rfl)) ?_
           refine wH_take [4, 5] [5, 4, 3, 2, 1, 0] [(72, .slice A2 (x2).length cap2), (71, .map (some b1))] (by kernel_rfl) (qT (qB (qT (qL (qB (qT (qT qZ))))))) (by kernel_rfl) ?_
           obtain ⟨x10, hx10, hm⟩ := bindE hm
           refine wH_idx (i := 6) (d := 73) (T := 32) (A := A2) (n := (x2).length) (cap := cap2) (kd := .i64) (m := 1) (by kernel_rfl) (qT (qB (qT (qL (qB (qT (qT qZ))))))) (by kernel_rfl) (by kernel_rfl) sl32 (F5.is hx10) ?_
           refine wH_load1 (i := 7) (d := 74) (T := 2) (ad := (elA A2 1 (1) 0)) (v := .int .i64 (x10)) (by kernel_rfl) (qT (qB (qT (qL (qB (qT (qT qZ))))))) (by kernel_rfl) (by kernel_rfl) vt2 (fun W hW => Sl.cell (Z6.chg hW (Dj.of L1 G1)) hx10 0 (by rfl)) ?_
           refine wH_all [8] (by rfl) (by kernel_rfl) (by simp) ⟨⟨by kernel_rfl, ?_⟩, trivial⟩
           obtain ⟨_, hk1, hm⟩ := bindE hm
           refine wS_entry (k := x9) (d := 75) (T := 69) (by kernel_rfl) mk69 mp69 F4 (mpE hk1) ?_
           intro v1 s2 w6 F6 hc6
           replace F3 := F3.chg hc6 (Dj.of L1 G1)
           replace F5 := F5.chg hc6 (Dj.of L1 G1)
           replace hB := hB.inS hc6 (inLow G1)
           have hSz := hS
           replace hS := hS.trans hc6
           replace hZ := Nat.le_trans hZ hc6.size
           clear F4
           refine wS_end (by kernel_rfl) ?_
           refine eX_KH hS ?_
           refine wH_take [9] [9, 8, 7, 6, 5, 4, 3, 2, 1, 0] [(76, .int .i64 (s2 : Nat))] (by kernel_rfl) (qT (qB (qT (qL (qB (qT (qT qZ))))))) (by kernel_rfl) ?_
           refine wH_all [10] (by rfl) (by kernel_rfl) (by simp) ⟨⟨by kernel_rfl, ?_⟩, trivial⟩
           refine wS_eStore (x := true) (T := 69) (by kernel_rfl) (by rfl) mk69 F6 ?_
           intro w7 F7 hc7
           replace F3 := F3.chg hc7 (Dj.of L1 G1)
           replace F5 := F5.chg hc7 (Dj.of L1 G1)
           replace hB := hB.inS hc7 (inLow G1)
           have hSz := hS
           replace hS := hS.trans hc7
           replace hZ := Nat.le_trans hZ hc7.size
           clear F6
           refine wS_end (by kernel_rfl) ?_
           refine eX_KH hS ?_
           refine wH_done (by kernel_rfl) ?_
           refine eX_tail ?_
           obtain ⟨_, hk2, hm⟩ := bindE hm
           refine wS_entry (k := x10) (d := 77) (T := 69) (by kernel_rfl) mk69 mp69 F7 (mpE hk2) ?_
           intro v2 s3 w8 F8 hc8
           replace F3 := F3.chg hc8 (Dj.of L1 G1)
           replace F5 := F5.chg hc8 (Dj.of L1 G1)
           replace hB := hB.inS hc8 (inLow G1)
           replace hZ := Nat.le_trans hZ hc8.size
           clear F7
           refine wS_pure 1 [(78, .int .i64 (s3 : Nat))] (by kernel_rfl) ?_
           refine wS_eStore (x := true) (T := 69) (by kernel_rfl) (by rfl) mk69 F8 ?_
           intro w9 F9 hc9
           replace F3 := F3.chg hc9 (Dj.of L1 G1)
           replace F5 := F5.chg hc9 (Dj.of L1 G1)
           replace hB := hB.inS hc9 (inLow G1)
           replace hZ := Nat.le_trans hZ hc9.size
           clear F8
           refine wS_end (by rfl) ?_
           refine eX_block ?_
           refine eX_then ?_
           refine cW_region ?_
           refine wS_pure 2 [(21, .int .i64 (wr (x1 + 1))), (79, .int .i64 (wr (x1 + 1)))] (by kernel_rfl) ?_
           refine wS_end (by rfl) ?_
           have hq : (some (Ctl.next ((wr (x1 + 1), mset (ment false (mset (ment false l2 x9) x9 true) x10) x10 true))) : Option (Ctl (Int × (List (Int × Bool))) (Sum (Unit) ((Bool))))) = some _ := hm
           replace hq := someE hq
           subst hq
           exact eX_next hx1 (fun hst => ⟨wr (x1 + 1), mset (ment false (mset (ment false l2 x9) x9 true) x10) x10 true, rfl, Fr.of hst (by kernel_rfl), F3, F9, hB, hZ⟩)
    ·have hm := condF hb3 hm
     refine cW_exit ?_
     refine eX_then_exit ?_
     have hq : (some (Ctl.out (Sum.inl (()))) : Option (Ctl (Int × (List (Int × Bool))) (Sum (Unit) ((Bool))))) = some _ := hm
     replace hq := someE hq
     subst hq
     refine eX_outX hx1 (fun hr2 => ?_)
     replace hr2 := hr2.symm
     subst hr2
     refine eX_block_hit ?_
     exact eX_J (fun hst => ⟨rfl, Fr.of hst (by kernel_rfl), hB, hZ⟩)
   ·rintro a' w10 ⟨hJ, hF2, hB, hZ⟩
    subst hJ
    refine Fr.goX hF2 (by kernel_rfl) ?_
    refine eX_then ?_
    refine cW_seq ?_
    refine cW_region ?_
    refine wS_pure 1 [(4, .bool (true))] (by kernel_rfl) ?_
    refine wS_end (by rfl) ?_
    refine eX_then ?_
    refine cW_ret ?_
    have hq : (some true : Option ((Bool))) = some _ := hm
    replace hq := someE hq
    subst hq
    refine eX_ret (vs := [.bool (true)]) [.tmp 4] (by rfl) ⟨by (show lkE _ _ _ = _); kernel_rfl, trivial⟩ ?_
    exact ⟨rfl, hB⟩

set_option maxRecDepth 100000 in
/-- impl.tree -/
theorem c_impl_tree {w0 : World} {l0 : List (Int × Int)} {A0 : Option Addr} {cap0 : Nat} {fp0 : List Nat} {l1 : List (List (Int))} {A1 : Option Addr} {cap1 : Nat} {fp1 : List Nat} {r : (List (Int × Int × Int × Int × Int)) × (List (Int)) × (Bool)} (hm : m_impl_tree l0 l1 = some r) (F0 : Sl 2 encII w0 fp0 A0 l0) (F1 : SlR 1 encI w0 fp1 A1 l1) :
  Calls Try.prog 30 #[.slice A0 (l0).length cap0, .slice A1 (l1).length cap1] w0 fun e w' => ∃ A100 cap100 fp100, ∃ A101 cap101 fp101, e = .returned (.tuple #[.slice A100 (r.1).length cap100, .slice A101 (r.2.1).length cap101, .bool (r.2.2)]) ∧ Ow 5 encIIIII 58 w' fp100 A100 cap100 r.1 ∧ (∀ x ∈ fp100, w0.heap.size ≤ x) ∧ Ow 1 encI 2 w' fp101 A101 cap101 r.2.1 ∧ (∀ x ∈ fp101, w0.heap.size ≤ x) ∧ Dj fp100 fp101 ∧ Chg [] w0 w' := by
 have L0 := F0.low
 have L1 := F1.low
 have hB : Chg [] w0 w0 := Chg.refl _ _
 have hZ := Nat.le_refl w0.heap.size
 unfold m_impl_tree at hm
 refine enterE (N := 91) Try.func30 (by rfl) Try.ntmps30 (by simp) [(0, .slice A0 (l0).length cap0), (1, .slice A1 (l1).length cap1)] (by rfl) (by kernel_rfl) (fun a => ?_)
 refine cW_seq ?_
 refine cW_region ?_
 refine wS_pure 3 [(6, .bool (false)), (5, .slice none 0 0), (4, .slice none 0 0)] (by kernel_rfl) ?_
 refine wS_end (by rfl) ?_
 refine eX_then ?_
 refine cW_seq ?_
 refine cW_seq ?_
 refine cW_region ?_
 refine wS_pure 1 [(17, .slice A0 (l0).length cap0)] (by kernel_rfl) ?_
 obtain ⟨y1, hy1, hm⟩ := bindE hm
 refine wS_calls (d := 18) (f := 23) (vs := [.slice A0 (l0).length cap0]) (by kernel_rfl) ent23 (c_impl_clockPins hy1 F0) ?_
 rintro _ w1 ⟨rfl, hc1⟩
 replace F0 := F0.chg hc1 Dj.nil
 replace F1 := F1.chg hc1 Dj.nil
 replace hB := hB.inS hc1 inNil
 replace hZ := Nat.le_trans hZ hc1.size
 refine ⟨.bool (y1), rfl, ?_⟩
 refine wS_pure 2 [(20, .bool (!y1)), (19, .bool (!y1))] (by kernel_rfl) ?_
 refine wS_bool (!y1) (fun hb1 => ?_) (fun hb1 => ?_)
 ·have hm := condT hb1 hm
  rewrite [hb1]
  refine wS_pure 6 [(26, .bool (true)), (25, undef), (24, undef), (23, undef), (22, undef), (21, undef)] (by kernel_rfl) ?_
  refine wS_end (by rfl) ?_
  refine eX_then ?_
  refine cW_cond_t (by kernel_rfl) ?_
  refine cW_seq ?_
  refine cW_region ?_
  refine wS_pure 3 [(6, .bool (false)), (5, .slice none 0 0), (4, .slice none 0 0)] (by kernel_rfl) ?_
  refine wS_end (by rfl) ?_
  refine eX_then ?_
  refine cW_ret ?_
  refine eX_then_ret ?_
  have hq : (some (([], [], false)) : Option ((List (Int × Int × Int × Int × Int)) × (List (Int)) × (Bool))) = some _ := hm
  replace hq := someE hq
  subst hq
  refine eX_ret (vs := [.slice none 0 0, .slice none 0 0, .bool (false)]) [.tmp 4, .tmp 5, .tmp 6] (by rfl) ⟨by (show lkE _ _ _ = _); kernel_rfl, ⟨by (show lkE _ _ _ = _); kernel_rfl, ⟨by (show lkE _ _ _ = _); kernel_rfl, trivial⟩⟩⟩ ?_
  exact ⟨none, 0, [], none, 0, [], rfl, Ow.nil _, lowNil, Ow.nil _, lowNil, Dj.nil, hB⟩
 ·have hm := condF hb1 hm
  rewrite [hb1]
  refine wS_pure 3 [(23, .slice A1 (l1).length cap1), (22, .int .i64 (((l0).length : Int))), (21, .slice A0 (l0).length cap0)] (by kernel_rfl) ?_
  obtain ⟨y2, hy2, hm⟩ := bindE hm
  refine wS_calls (d := 24) (f := 12) (vs := [.int .i64 (((l0).length : Int)), .slice A1 (l1).length cap1]) (by kernel_rfl) ent12 (c_impl_IsJoins hy2 F1) ?_
  rintro _ w2 ⟨rfl, hc2⟩
  replace F0 := F0.chg hc2 Dj.nil
  replace F1 := F1.chg hc2 Dj.nil
  replace hB := hB.inS hc2 inNil
  replace hZ := Nat.le_trans hZ hc2.size
  refine ⟨.bool (y2), rfl, ?_⟩
  refine wS_pure 2 [(26, .bool (!y2)), (25, .bool (!y2))] (by kernel_rfl) ?_
  refine wS_end (by rfl) ?_
  refine eX_then ?_
  refine cW_cond (t := !y2) (by kernel_rfl) (fun hb2 => ?_) (fun hb2 => ?_)
  ·have hm := condT hb2 hm
   refine cW_seq ?_
   refine cW_region ?_
   refine wS_pure 3 [(6, .bool (false)), (5, .slice none 0 0), (4, .slice none 0 0)] (by kernel_rfl) ?_
   refine wS_end (by rfl) ?_
   refine eX_then ?_
   refine cW_ret ?_
   refine eX_then_ret ?_
   have hq : (some (([], [], false)) : Option ((List (Int × Int × Int × Int × Int)) × (List (Int)) × (Bool))) = some _ := hm
   replace hq := someE hq
   subst hq
   refine eX_ret (vs := [.slice none 0 0, .slice none 0 0, .bool (false)]) [.tmp 4, .tmp 5, .tmp 6] (by rfl) ⟨by (show lkE _ _ _ = _); kernel_rfl, ⟨by (show lkE _ _ _ = _); kernel_rfl, ⟨by (show lkE _ _ _ = _); kernel_rfl, trivial⟩⟩⟩ ?_
   exact ⟨none, 0, [], none, 0, [], rfl, Ow.nil _, lowNil, Ow.nil _, lowNil, Dj.nil, hB⟩
  ·have hm := condF hb2 hm
   refine cW_skip ?_
   refine eX_then ?_
   refine cW_seq ?_
   obtain ⟨s1, hs1, hm⟩ := bindE hm
   refine cW_cut (fun a' w' => ∃ l3 : List (Int × Int × Int × Int × Int), ∃ A3 : Option Addr, ∃ cap3 : Nat, ∃ fp2 : List Nat, ∃ l4 : List (Int), ∃ A4 : Option Addr, ∃ cap4 : Nat, ∃ fp3 : List Nat, (l3, l4) = s1 ∧ Fr 91 [(0, .slice A0 (l0).length cap0), (1, .slice A1 (l1).length cap1), (7, .slice A3 (l3).length cap3), (8, .slice A4 (l4).length cap4)] a' ∧ Sl 2 encII w' fp0 A0 l0 ∧ SlR 1 encI w' fp1 A1 l1 ∧ Ow 5 encIIIII 58 w' fp2 A3 cap3 l3 ∧ Ow 1 encI 2 w' fp3 A4 cap4 l4 ∧ (∀ x ∈ fp2, w0.heap.size ≤ x) ∧ (∀ x ∈ fp3, w0.heap.size ≤ x) ∧ Dj fp3 fp2 ∧ Chg [] w0 w' ∧ w0.heap.size ≤ w'.heap.size) ?_ ?_
   ·have hm := hs1
    refine cW_drawnTail [] 7 (by kernel_rfl) (by kernel_rfl) (fun w3 hc3 => ?_)
    replace F0 := F0.chg hc3 Dj.nil
    replace F1 := F1.chg hc3 Dj.nil
    replace hB := hB.inS hc3 inNil
    replace hZ := Nat.le_trans hZ hc3.size
    have hS := Chg.refl [] w3
    have Z1 := F0
    have Z2 := F1
    refine wH_take [1, 2, 3, 4] [4, 3, 2, 1] [(31, .int .i64 (wr ((wr (2 * (((l0).length : Int)))) - 1))), (30, .int .i64 (wr (2 * (((l0).length : Int))))), (29, .int .i64 (((l0).length : Int))), (28, .slice A0 (l0).length cap0)] (by kernel_rfl) (qT (qT (qT qZ))) (by kernel_rfl) ?_
    refine wH_all [0, 5] (by rfl) (by kernel_rfl) (by simp) ⟨⟨by kernel_rfl, ?_⟩, ⟨by kernel_rfl, ?_⟩, trivial⟩
    ·skip
     refine wS_bs0 (α := Int × Int × Int × Int × Int) (enc := encIIIII) (d := 27) (t := 51) (T := 58) (by kernel_rfl) el51 ?_
     intro b1 w4 G1 F2 hc4
     replace F0 := F0.chg hc4 Dj.nil
     replace F1 := F1.chg hc4 Dj.nil
     replace hB := hB.inS hc4 inNil
     have hSz := hS
     replace hS := hS.inS hc4 inNil
     have Gz1 := low1 (Nat.le_trans hSz.size G1)
     replace G1 := Nat.le_trans hZ G1
     replace G1 := low1 G1
     replace hZ := Nat.le_trans hZ hc4.size
     refine wS_end (by kernel_rfl) ?_
     refine eX_KH hS ?_
     refine wH_take [6] [6, 0, 4, 3, 2, 1] [(7, .slice (some ⟨b1, 0, none⟩) (([] : List (Int × Int × Int × Int × Int))).length 0)] (by kernel_rfl) (qT (qT (qT qZ))) (by kernel_rfl) ?_
     refine wH_all [5] (by rfl) (by kernel_rfl) (by simp) ⟨⟨by kernel_rfl, ?_⟩, trivial⟩
     obtain ⟨_, hk1, hm⟩ := bindE hm
     replace hk1 := mkE hk1
     refine wS_make (enc := encI) (x0 := (0 : Int)) (d := 32) (t := 32) (T := 2) (k1 := .i64) (k2 := .i64) (m := wr ((wr (2 * (((l0).length : Int)))) - 1)) (by kernel_rfl) el32 encI_ok (by rfl) hk1.1 hk1.2 ?_
     intro b2 w5 G2 F3 hc5
     have D1 : Dj [b1] [b2] := Dj.of F2.low (low1 G2)
     replace F0 := F0.chg hc5 Dj.nil
     replace F1 := F1.chg hc5 Dj.nil
     replace F2 := F2.chg hc5 Dj.nil
     replace hB := hB.inS hc5 inNil
     have hSz := hS
     replace hS := hS.inS hc5 inNil
     have Gz2 := low1 (Nat.le_trans hSz.size G2)
     replace G2 := Nat.le_trans hZ G2
     replace G2 := low1 G2
     replace hZ := Nat.le_trans hZ hc5.size
     refine wS_end (by kernel_rfl) ?_
     refine eX_KH hS ?_
     refine wH_done (by kernel_rfl) ?_
     refine eX_tail ?_
     refine wS_pure 1 [(8, .slice (some ⟨b2, 0, none⟩) (List.replicate (Int.toNat (wr ((wr (2 * (((l0).length : Int)))) - 1))) ((0 : Int))).length (Int.toNat (wr ((wr (2 * (((l0).length : Int)))) - 1))))] (by kernel_rfl) ?_
     refine wS_end (by rfl) ?_
     have hq : (some ((([] : List (Int × Int × Int × Int × Int)), List.replicate (Int.toNat (wr ((wr (2 * (((l0).length : Int)))) - 1))) ((0 : Int)))) : Option ((List (Int × Int × Int × Int × Int)) × (List (Int)))) = some _ := hm
     replace hq := someE hq
     subst hq
     exact eX_J (fun hst => ⟨([] : List (Int × Int × Int × Int × Int)), (some ⟨b1, 0, none⟩), 0, [b1], List.replicate (Int.toNat (wr ((wr (2 * (((l0).length : Int)))) - 1))) ((0 : Int)), (some ⟨b2, 0, none⟩), (Int.toNat (wr ((wr (2 * (((l0).length : Int)))) - 1))), [b2], rfl, Fr.of hst (by kernel_rfl), F0, F1, F2, F3, G1, G2, (D1).symm, hB, hZ⟩)
    ·skip
     obtain ⟨_, hk2, hm⟩ := bindE hm
     replace hk2 := mkE hk2
     refine wS_make (enc := encI) (x0 := (0 : Int)) (d := 32) (t := 32) (T := 2) (k1 := .i64) (k2 := .i64) (m := wr ((wr (2 * (((l0).length : Int)))) - 1)) (by kernel_rfl) el32 encI_ok (by rfl) hk2.1 hk2.2 ?_
     intro b3 w6 G3 F4 hc6
     replace F0 := F0.chg hc6 Dj.nil
     replace F1 := F1.chg hc6 Dj.nil
     replace hB := hB.inS hc6 inNil
     have hSz := hS
     replace hS := hS.inS hc6 inNil
     have Gz3 := low1 (Nat.le_trans hSz.size G3)
     replace G3 := Nat.le_trans hZ G3
     replace G3 := low1 G3
     replace hZ := Nat.le_trans hZ hc6.size
     refine wS_end (by kernel_rfl) ?_
     refine eX_KH hS ?_
     refine wH_all [0] (by rfl) (by kernel_rfl) (by simp) ⟨⟨by kernel_rfl, ?_⟩, trivial⟩
     refine wS_bs0 (α := Int × Int × Int × Int × Int) (enc := encIIIII) (d := 27) (t := 51) (T := 58) (by kernel_rfl) el51 ?_
     intro b4 w7 G4 F5 hc7
     have D2 : Dj [b3] [b4] := Dj.of F4.low (low1 G4)
     replace F0 := F0.chg hc7 Dj.nil
     replace F1 := F1.chg hc7 Dj.nil
     replace F4 := F4.chg hc7 Dj.nil
     replace hB := hB.inS hc7 inNil
     have hSz := hS
     replace hS := hS.inS hc7 inNil
     have Gz4 := low1 (Nat.le_trans hSz.size G4)
     replace G4 := Nat.le_trans hZ G4
     replace G4 := low1 G4
     replace hZ := Nat.le_trans hZ hc7.size
     refine wS_end (by kernel_rfl) ?_
     refine eX_KH hS ?_
     refine wH_take [6] [6, 0, 5, 4, 3, 2, 1] [(7, .slice (some ⟨b4, 0, none⟩) (([] : List (Int × Int × Int × Int × Int))).length 0)] (by kernel_rfl) (qT (qT (qT qZ))) (by kernel_rfl) ?_
     refine wH_done (by kernel_rfl) ?_
     refine eX_tail ?_
     refine wS_pure 1 [(8, .slice (some ⟨b3, 0, none⟩) (List.replicate (Int.toNat (wr ((wr (2 * (((l0).length : Int)))) - 1))) ((0 : Int))).length (Int.toNat (wr ((wr (2 * (((l0).length : Int)))) - 1))))] (by kernel_rfl) ?_
     refine wS_end (by rfl) ?_
     have hq : (some ((([] : List (Int × Int × Int × Int × Int)), List.replicate (Int.toNat (wr ((wr (2 * (((l0).length : Int)))) - 1))) ((0 : Int)))) : Option ((List (Int × Int × Int × Int × Int)) × (List (Int)))) = some _ := hm
     replace hq := someE hq
     subst hq
     exact eX_J (fun hst => ⟨([] : List (Int × Int × Int × Int × Int)), (some ⟨b4, 0, none⟩), 0, [b4], List.replicate (Int.toNat (wr ((wr (2 * (((l0).length : Int)))) - 1))) ((0 : Int)), (some ⟨b3, 0, none⟩), (Int.toNat (wr ((wr (2 * (((l0).length : Int)))) - 1))), [b3], rfl, Fr.of hst (by kernel_rfl), F0, F1, F5, F4, G4, G3, D2, hB, hZ⟩)
   ·rintro a' w8 ⟨l3, A3, cap3, fp2, l4, A4, cap4, fp3, hJ, hF1, F6, F7, F8, F9, G5, G6, D3, hB, hZ⟩
    subst hJ
    refine Fr.goX hF1 (by kernel_rfl) ?_
    refine eX_then ?_
    refine cW_seq ?_
    refine cW_seq ?_
    refine cW_region ?_
    refine wS_pure 3 [(35, .int .i64 (0)), (34, .int .i64 (((l0).length : Int))), (33, .slice A0 (l0).length cap0)] (by kernel_rfl) ?_
    refine wS_end (by rfl) ?_
    refine eX_then ?_
    obtain ⟨r1, hr1, hm⟩ := bindE hm
    have hm1 := hm
    refine cW_cut (fun a' w' => ∃ l5 : List (Int × Int × Int × Int × Int), ∃ A5 : Option Addr, ∃ cap5 : Nat, ∃ fp4 : List Nat, l5 = r1 ∧ Fr 91 [(1, .slice A1 (l1).length cap1), (7, .slice A5 (l5).length cap5), (8, .slice A4 (l4).length cap4)] a' ∧ SlR 1 encI w' fp1 A1 l1 ∧ Ow 1 encI 2 w' fp3 A4 cap4 l4 ∧ Ow 5 encIIIII 58 w' fp4 A5 cap5 l5 ∧ (∀ x ∈ fp4, w0.heap.size ≤ x) ∧ Dj fp3 fp4 ∧ Chg [] w0 w' ∧ w0.heap.size ≤ w'.heap.size) ?_ ?_
    ·refine cW_block ?_
     refine cW_loop _ (fun (s2 : (List (Int × Int × Int × Int × Int)) × Int) a' w' => ∃ l6 : List (Int × Int × Int × Int × Int), ∃ A6 : Option Addr, ∃ cap6 : Nat, ∃ fp5 : List Nat, ∃ x1 : Int, (l6, x1) = s2 ∧ Fr 91 [(1, .slice A1 (l1).length cap1), (7, .slice A6 (l6).length cap6), (8, .slice A4 (l4).length cap4), (33, .slice A0 (l0).length cap0), (34, .int .i64 (((l0).length : Int))), (35, .int .i64 (x1))] a' ∧ Sl 2 encII w' fp0 A0 l0 ∧ SlR 1 encI w' fp1 A1 l1 ∧ Ow 1 encI 2 w' fp3 A4 cap4 l4 ∧ Ow 5 encIIIII 58 w' fp5 A6 cap6 l6 ∧ (∀ x ∈ fp5, w0.heap.size ≤ x) ∧ Dj fp3 fp5 ∧ Chg [] w0 w' ∧ w0.heap.size ≤ w'.heap.size) hr1 (fun hst => ⟨l3, A3, cap3, fp2, 0, rfl, Fr.of hst (by kernel_rfl), F6, F7, F9, F8, G5, D3, hB, hZ⟩) ?_
     rintro _ c1 a' w9 ⟨l6, A6, cap6, fp5, x1, rfl, hF2, F10, F11, F12, F13, G7, D4, hB, hZ⟩ hx1
     refine Fr.goOn hF2 (by kernel_rfl) ?_
     have hm := hx1
     unfold m_impl_tree_s1 at hm
     refine cW_seq ?_
     refine cW_region ?_
     refine wS_pure 1 [(36, .bool (decide (x1 < (((l0).length : Int)))))] (by kernel_rfl) ?_
     refine wS_end (by rfl) ?_
     refine eX_then ?_
     refine cW_seq ?_
     refine cW_cond (t := decide (x1 < (((l0).length : Int)))) (by kernel_rfl) (fun hb3 => ?_) (fun hb3 => ?_)
     ·have hm := condT hb3 hm
      refine cW_skip ?_
      refine eX_then ?_
      refine cW_seq ?_
      refine cW_block ?_
      refine cW_seq ?_
      refine cW_region ?_
      obtain ⟨x2, hx2, hm⟩ := bindE hm
      refine wS_idx (d := 37) (T := 24) (A := A0) (n := (l0).length) (cap := cap0) (kd := .i64) (m := x1) (by kernel_rfl) sl24 (F10.is hx2) ?_
      refine wS_loadA (d := 38) (T := 49) (ad := (elA A0 2 (x1) 0)) (vs := [.int .i64 (x2.1), .int .i64 (x2.2)]) (by kernel_rfl) vt49 (fun i u hu => Sl.cells_at F10 hx2 0 hu (by rfl)) ?_
      refine wS_alloc (d := 10) (T := 49) (z := .agg #[.int .i64 (0), .int .i64 (0)]) (by kernel_rfl) (by kernel_rfl) ?_
      intro b5 w10 G8 F14 hc8
      replace F14 : Cl w10 b5 49 [.int .i64 (0), .int .i64 (0)] := F14
      have D5 : Dj fp3 [b5] := Dj.of F12.low (low1 G8)
      have D6 : Dj fp5 [b5] := Dj.of F13.low (low1 G8)
      replace F10 := F10.chg hc8 Dj.nil
      replace F11 := F11.chg hc8 Dj.nil
      replace F12 := F12.chg hc8 Dj.nil
      replace F13 := F13.chg hc8 Dj.nil
      replace hB := hB.inS hc8 inNil
      replace G8 := Nat.le_trans hZ G8
      replace hZ := Nat.le_trans hZ hc8.size
      refine wS_store (T := 49) (g := b5) (o := 0) (ad := ⟨b5, 0, none⟩) (v := .agg #[.int .i64 (x2.1), .int .i64 (x2.2)]) (vs := [.int .i64 (x2.1), .int .i64 (x2.2)]) (by kernel_rfl) (by rfl) sz49 (by rfl) (by rfl) F14 (by simp only [List.length_cons, List.length_nil]; omega) ?_
      intro w11 F15 hc9
      replace F10 := F10.chg hc9 (Dj.of L0 (low1 G8))
      replace F11 := F11.chg hc9 (Dj.of L1 (low1 G8))
      replace F12 := F12.chg hc9 D5
      replace F13 := F13.chg hc9 D6
      replace hB := hB.inS hc9 (inLow (low1 G8))
      replace hZ := Nat.le_trans hZ hc9.size
      replace F15 : Cl w11 b5 49 [.int .i64 (x2.1), .int .i64 (x2.2)] := F15
      clear F14
      refine wS_end (by rfl) ?_
      refine eX_then ?_
      refine cW_region ?_
      refine wS_pure 1 [(39, .slice A6 (l6).length cap6)] (by kernel_rfl) ?_
      refine wS_loadA (d := 40) (T := 49) (ad := ⟨b5, 0, none⟩) (vs := [.int .i64 (x2.1), .int .i64 (x2.2)]) (by kernel_rfl) vt49 (fun i u hu => box_cells F15 0 hu (by rfl)) ?_
      obtain ⟨y3, hy3, hm⟩ := bindE hm
      refine wS_calls (d := 41) (f := 24) (vs := [.agg #[.int .i64 (x2.1), .int .i64 (x2.2)]]) (by kernel_rfl) ent24 (c_impl_leaf hy3) ?_
      rintro _ w12 ⟨rfl, hc10⟩
      replace F10 := F10.chg hc10 Dj.nil
      replace F11 := F11.chg hc10 Dj.nil
      replace F12 := F12.chg hc10 Dj.nil
      replace F13 := F13.chg hc10 Dj.nil
      replace F15 := F15.chg hc10 notNil
      replace hB := hB.inS hc10 inNil
      replace hZ := Nat.le_trans hZ hc10.size
      refine ⟨.agg #[.int .i64 (y3.1), .int .i64 (y3.2.1), .int .i64 (y3.2.2.1), .int .i64 (y3.2.2.2)], rfl, ?_⟩
      refine wS_pure 1 [(42, .agg #[.int .i64 (y3.1), .int .i64 (y3.2.1), .int .i64 (y3.2.2.1), .int .i64 (y3.2.2.2), .int .i64 (0)])] (by kernel_rfl) ?_
      refine wS_bs (enc := encIIIII) ([(y3.1, y3.2.1, y3.2.2.1, y3.2.2.2, 0)] : List (Int × Int × Int × Int × Int)) [.int .i64 (y3.1), .int .i64 (y3.2.1), .int .i64 (y3.2.2.1), .int .i64 (y3.2.2.2), .int .i64 (0)] (d := 43) (t := 51) (T := 58) (n := 1) (ps := [(0, .agg #[.int .i64 (y3.1), .int .i64 (y3.2.1), .int .i64 (y3.2.2.1), .int .i64 (y3.2.2.2), .int .i64 (0)])]) (by kernel_rfl) el51 encIIIII_ok (by rfl) (by omega) (by omega) (by kernel_rfl) (by rfl) ?_
      intro b6 w13 G9 F16 hc11
      have D7 : Dj fp3 [b6] := Dj.of F12.low (low1 G9)
      have D8 : Dj fp5 [b6] := Dj.of F13.low (low1 G9)
      have D9 : Dj [b5] [b6] := Dj.of (lt1 F15.lt) (low1 G9)
      replace F10 := F10.chg hc11 Dj.nil
      replace F11 := F11.chg hc11 Dj.nil
      replace F12 := F12.chg hc11 Dj.nil
      replace F13 := F13.chg hc11 Dj.nil
      replace F15 := F15.chg hc11 notNil
      replace hB := hB.inS hc11 inNil
      replace G9 := Nat.le_trans hZ G9
      replace G9 := low1 G9
      replace hZ := Nat.le_trans hZ hc11.size
      obtain ⟨_, hk3, hm⟩ := bindE hm
      replace hk3 := apE hk3
      refine wS_append (enc := encIIIII) (l := (l6 : List (Int × Int × Int × Int × Int))) (l2 := (([(y3.1, y3.2.1, y3.2.2.1, y3.2.2.2, 0)] : List (Int × Int × Int × Int × Int)) : List (Int × Int × Int × Int × Int))) (d := 44) (t := 51) (T := 58) (A := A6) (A2 := (some ⟨b6, 0, none⟩)) (cap := cap6) (cap2 := 1) (by kernel_rfl) el51 encIIIII_ok F13 (F16.sl encIIIII_ok) (by rfl) hk3 ?_
      intro w14 fp6 A7 cap7 F17 hc12 hp1
      have G10 := low_ap G7 hZ hp1
      have D10 : Dj fp3 fp6 := Dj.ap D4 F12.low hp1
      have D11 : Dj [b5] fp6 := Dj.ap (D6).symm (lt1 F15.lt) hp1
      have D12 : Dj [b6] fp6 := Dj.ap (D8).symm F16.low hp1
      replace F10 := F10.chg hc12 (Dj.of L0 G7)
      replace F11 := F11.chg hc12 (Dj.of L1 G7)
      replace F12 := F12.chg hc12 D4
      replace F15 := F15.chg hc12 (dj1 (D6).symm)
      replace F16 := F16.chg hc12 (D8).symm
      replace hB := hB.inS hc12 (inLow G7)
      replace hZ := Nat.le_trans hZ hc12.size
      refine wS_pure 1 [(7, .slice A7 (l6 ++ (([(y3.1, y3.2.1, y3.2.2.1, y3.2.2.2, 0)] : List (Int × Int × Int × Int × Int)))).length cap7)] (by kernel_rfl) ?_
      refine wS_end (by rfl) ?_
      refine eX_block ?_
      refine eX_then ?_
      refine cW_region ?_
      refine wS_pure 2 [(35, .int .i64 (wr (x1 + 1))), (45, .int .i64 (wr (x1 + 1)))] (by kernel_rfl) ?_
      refine wS_end (by rfl) ?_
      have hq : (some (Ctl.next ((l6 ++ (([(y3.1, y3.2.1, y3.2.2.1, y3.2.2.2, 0)] : List (Int × Int × Int × Int × Int))), wr (x1 + 1)))) : Option (Ctl ((List (Int × Int × Int × Int × Int)) × Int) ((List (Int × Int × Int × Int × Int))))) = some _ := hm
      replace hq := someE hq
      subst hq
      exact eX_next hx1 (fun hst => ⟨l6 ++ (([(y3.1, y3.2.1, y3.2.2.1, y3.2.2.2, 0)] : List (Int × Int × Int × Int × Int))), A7, cap7, fp6, wr (x1 + 1), rfl, Fr.of hst (by kernel_rfl), F10, F11, F12, F17, G10, D10, hB, hZ⟩)
     ·have hm := condF hb3 hm
      refine cW_exit ?_
      refine eX_then_exit ?_
      have hq : (some (Ctl.out l6) : Option (Ctl ((List (Int × Int × Int × Int × Int)) × Int) ((List (Int × Int × Int × Int × Int))))) = some _ := hm
      replace hq := someE hq
      subst hq
      refine eX_outX hx1 (fun hr2 => ?_)
      replace hr2 := hr2.symm
      subst hr2
      refine eX_block_hit ?_
      exact eX_J (fun hst => ⟨l6, A6, cap6, fp5, rfl, Fr.of hst (by kernel_rfl), F11, F12, F13, G7, D4, hB, hZ⟩)
    ·rintro a' w15 ⟨l5, A5, cap5, fp4, hJ, hF3, F18, F19, F20, G11, D13, hB, hZ⟩
     subst hJ
     refine Fr.goX hF3 (by kernel_rfl) ?_
     refine eX_then ?_
     refine cW_seq ?_
     refine cW_seq ?_
     refine cW_region ?_
     refine wS_pure 3 [(48, .int .i64 (0)), (47, .int .i64 (((l1).length : Int))), (46, .slice A1 (l1).length cap1)] (by kernel_rfl) ?_
     refine wS_end (by rfl) ?_
     refine eX_then ?_
     obtain ⟨r2, hr3, hm⟩ := bindE hm
     have hm2 := hm
     refine cW_cut (fun a' w' => ∃ l7 : List (Int × Int × Int × Int × Int), ∃ A8 : Option Addr, ∃ cap8 : Nat, ∃ fp7 : List Nat, ∃ l8 : List (Int), Sum.inl ((l7, l8)) = r2 ∧ Fr 91 [(7, .slice A8 (l7).length cap8), (8, .slice A4 (l8).length cap4)] a' ∧ Ow 1 encI 2 w' fp3 A4 cap4 l8 ∧ Ow 5 encIIIII 58 w' fp7 A8 cap8 l7 ∧ (∀ x ∈ fp7, w0.heap.size ≤ x) ∧ Dj fp3 fp7 ∧ Chg [] w0 w' ∧ w0.heap.size ≤ w'.heap.size) ?_ ?_
     ·refine cW_block ?_
      refine cW_loop _ (fun (s3 : (List (Int × Int × Int × Int × Int)) × Int × (List (Int))) a' w' => ∃ l9 : List (Int × Int × Int × Int × Int), ∃ A9 : Option Addr, ∃ cap9 : Nat, ∃ fp8 : List Nat, ∃ x3 : Int, ∃ l10 : List (Int), (l9, x3, l10) = s3 ∧ Fr 91 [(7, .slice A9 (l9).length cap9), (8, .slice A4 (l10).length cap4), (46, .slice A1 (l1).length cap1), (47, .int .i64 (((l1).length : Int))), (48, .int .i64 (x3))] a' ∧ SlR 1 encI w' fp1 A1 l1 ∧ Ow 1 encI 2 w' fp3 A4 cap4 l10 ∧ Ow 5 encIIIII 58 w' fp8 A9 cap9 l9 ∧ (∀ x ∈ fp8, w0.heap.size ≤ x) ∧ Dj fp3 fp8 ∧ Chg [] w0 w' ∧ w0.heap.size ≤ w'.heap.size) hr3 (fun hst => ⟨l5, A5, cap5, fp4, 0, l4, rfl, Fr.of hst (by kernel_rfl), F18, F19, F20, G11, D13, hB, hZ⟩) ?_
      rintro _ c2 a' w16 ⟨l9, A9, cap9, fp8, x3, l10, rfl, hF4, F21, F22, F23, G12, D14, hB, hZ⟩ hx3
      refine Fr.goOn hF4 (by kernel_rfl) ?_
      have hm := hx3
      unfold m_impl_tree_s2 at hm
      refine cW_seq ?_
      refine cW_region ?_
      refine wS_pure 1 [(49, .bool (decide (x3 < (((l1).length : Int)))))] (by kernel_rfl) ?_
      refine wS_end (by rfl) ?_
      refine eX_then ?_
      refine cW_seq ?_
      refine cW_cond (t := decide (x3 < (((l1).length : Int)))) (by kernel_rfl) (fun hb4 => ?_) (fun hb4 => ?_)
      ·have hm := condT hb4 hm
       refine cW_skip ?_
       refine eX_then ?_
       refine cW_seq ?_
       refine cW_block ?_
       refine cW_seq ?_
       refine cW_region ?_
       obtain ⟨x4, hx4, hm⟩ := bindE hm
       refine wS_idx (d := 50) (T := 26) (A := A1) (n := (l1).length) (cap := cap1) (kd := .i64) (m := x3) (by kernel_rfl) sl26 (F21.is hx4) ?_
       obtain ⟨A10, cap10, hc13, F24, K1⟩ := SlR.row F21 hx4
       refine wS_load1 (d := 51) (T := 32) (ad := (elA A1 1 (x3) 0)) (v := .slice A10 (x4).length cap10) (by kernel_rfl) vt32 hc13 ?_
       refine wS_pure 1 [(12, .slice A10 (x4).length cap10)] (by kernel_rfl) ?_
       refine wS_end (by rfl) ?_
       refine eX_then ?_
       refine cW_seq ?_
       obtain ⟨s4, hs2, hm⟩ := bindE hm
       refine cW_cut (fun a' w' => ∃ b7 : Nat, ∃ x5 : Int, ∃ x6 : Int, ∃ x7 : Int, ∃ x8 : Int, ∃ x9 : Int, ∃ x10 : Int, ∃ x11 : Int, ∃ x12 : Bool, (x5, x6, x7, x8, x9, x10, x11, x12) = s4 ∧ Fr 91 [(7, .slice A9 (l9).length cap9), (8, .slice A4 (l10).length cap4), (12, .slice A10 (x4).length cap10), (13, .pointer (some ⟨b7, 0, none⟩)), (14, .int .i64 (x10)), (15, .int .i64 (x11)), (16, .bool (x12)), (46, .slice A1 (l1).length cap1), (47, .int .i64 (((l1).length : Int))), (48, .int .i64 (x3))] a' ∧ SlR 1 encI w' fp1 A1 l1 ∧ Ow 1 encI 2 w' fp3 A4 cap4 l10 ∧ Ow 5 encIIIII 58 w' fp8 A9 cap9 l9 ∧ Sl 1 encI w' fp1 A10 x4 ∧ Cl w' b7 58 [.int .i64 (x5), .int .i64 (x6), .int .i64 (x7), .int .i64 (x8), .int .i64 (x9)] ∧ w0.heap.size ≤ b7 ∧ Dj fp3 [b7] ∧ Dj fp8 [b7] ∧ Chg [] w0 w' ∧ w0.heap.size ≤ w'.heap.size) ?_ ?_
       ·have hm := hs2
        refine cW_drawnTail [] 22 (by kernel_rfl) (by kernel_rfl) (fun w17 hc14 => ?_)
        replace F21 := F21.chg hc14 Dj.nil
        replace F22 := F22.chg hc14 Dj.nil
        replace F23 := F23.chg hc14 Dj.nil
        replace F24 := F24.chg hc14 Dj.nil
        replace hB := hB.inS hc14 inNil
        replace hZ := Nat.le_trans hZ hc14.size
        have hS := Chg.refl [] w17
        have Z3 := F21
        have Z4 := F22
        have Z5 := F23
        have Z6 := F24
        refine wH_take [0, 1] [1, 0] [(54, .slice A10 (x4).length cap10), (53, .slice A9 (l9).length cap9)] (by kernel_rfl) (qT (qT (qT (qB (qT (qL (qB (qT (qT qZ))))))))) (by kernel_rfl) ?_
        obtain ⟨x13, hx5, hm⟩ := bindE hm
        refine wH_idx (i := 2) (d := 55) (T := 32) (A := A10) (n := (x4).length) (cap := cap10) (kd := .i64) (m := 0) (by kernel_rfl) (qT (qT (qT (qB (qT (qL (qB (qT (qT qZ))))))))) (by kernel_rfl) (by kernel_rfl) sl32 (F24.is hx5) ?_
        refine wH_load1 (i := 3) (d := 56) (T := 2) (ad := (elA A10 1 (0) 0)) (v := .int .i64 (x13)) (by kernel_rfl) (qT (qT (qT (qB (qT (qL (qB (qT (qT qZ))))))))) (by kernel_rfl) (by kernel_rfl) vt2 (fun W hW => Sl.cell (Z6.chg hW Dj.nil) hx5 0 (by rfl)) ?_
        obtain ⟨x14, hx6, hm⟩ := bindE hm
        refine wH_idx (i := 4) (d := 57) (T := 51) (A := A9) (n := (l9).length) (cap := cap9) (kd := .i64) (m := x13) (by kernel_rfl) (qT (qT (qT (qB (qT (qL (qB (qT (qT qZ))))))))) (by kernel_rfl) (by kernel_rfl) sl51 ((F23.sl encIIIII_ok).is hx6) ?_
        refine wH_loadA (i := 5) (d := 58) (T := 58) (ad := (elA A9 5 (x13) 0)) (vs := [.int .i64 (x14.1), .int .i64 (x14.2.1), .int .i64 (x14.2.2.1), .int .i64 (x14.2.2.2.1), .int .i64 (x14.2.2.2.2)]) (by kernel_rfl) (qT (qT (qT (qB (qT (qL (qB (qT (qT qZ))))))))) (by kernel_rfl) (by kernel_rfl) vt58 (fun W hW i u hu => Sl.cells_at ((Z5.chg hW Dj.nil).sl encIIIII_ok) hx6 0 hu (by rfl)) ?_
        refine wH_take [6, 7] [7, 6, 5, 4, 3, 2, 1, 0] [(60, .slice A10 (x4).length cap10), (59, .slice A9 (l9).length cap9)] (by kernel_rfl) (qT (qT (qT (qB (qT (qL (qB (qT (qT qZ))))))))) (by kernel_rfl) ?_
        obtain ⟨x15, hx7, hm⟩ := bindE hm
        refine wH_idx (i := 8) (d := 61) (T := 32) (A := A10) (n := (x4).length) (cap := cap10) (kd := .i64) (m := 1) (by kernel_rfl) (qT (qT (qT (qB (qT (qL (qB (qT (qT qZ))))))))) (by kernel_rfl) (by kernel_rfl) sl32 (F24.is hx7) ?_
        refine wH_load1 (i := 9) (d := 62) (T := 2) (ad := (elA A10 1 (1) 0)) (v := .int .i64 (x15)) (by kernel_rfl) (qT (qT (qT (qB (qT (qL (qB (qT (qT qZ))))))))) (by kernel_rfl) (by kernel_rfl) vt2 (fun W hW => Sl.cell (Z6.chg hW Dj.nil) hx7 0 (by rfl)) ?_
        obtain ⟨x16, hx8, hm⟩ := bindE hm
        refine wH_idx (i := 10) (d := 63) (T := 51) (A := A9) (n := (l9).length) (cap := cap9) (kd := .i64) (m := x15) (by kernel_rfl) (qT (qT (qT (qB (qT (qL (qB (qT (qT qZ))))))))) (by kernel_rfl) (by kernel_rfl) sl51 ((F23.sl encIIIII_ok).is hx8) ?_
        refine wH_loadA (i := 11) (d := 64) (T := 58) (ad := (elA A9 5 (x15) 0)) (vs := [.int .i64 (x16.1), .int .i64 (x16.2.1), .int .i64 (x16.2.2.1), .int .i64 (x16.2.2.2.1), .int .i64 (x16.2.2.2.2)]) (by kernel_rfl) (qT (qT (qT (qB (qT (qL (qB (qT (qT qZ))))))))) (by kernel_rfl) (by kernel_rfl) vt58 (fun W hW i u hu => Sl.cells_at ((Z5.chg hW Dj.nil).sl encIIIII_ok) hx8 0 hu (by rfl)) ?_
        refine wH_all [12, 18] (by rfl) (by kernel_rfl) (by simp) ⟨⟨by kernel_rfl, ?_⟩, ⟨by kernel_rfl, ?_⟩, trivial⟩
        ·skip
         obtain ⟨y4, hy4, hm⟩ := bindE hm
         refine wS_calls (d := 65) (f := 27) (vs := [.agg #[.int .i64 (x14.1), .int .i64 (x14.2.1), .int .i64 (x14.2.2.1), .int .i64 (x14.2.2.2.1), .int .i64 (x14.2.2.2.2)], .agg #[.int .i64 (x16.1), .int .i64 (x16.2.1), .int .i64 (x16.2.2.1), .int .i64 (x16.2.2.2.1), .int .i64 (x16.2.2.2.2)]]) (by kernel_rfl) ent27 (c_impl_merge hy4) ?_
         rintro _ w18 ⟨rfl, hc15⟩
         replace F21 := F21.chg hc15 Dj.nil
         replace F22 := F22.chg hc15 Dj.nil
         replace F23 := F23.chg hc15 Dj.nil
         replace F24 := F24.chg hc15 Dj.nil
         replace hB := hB.inS hc15 inNil
         have hSz := hS
         replace hS := hS.inS hc15 inNil
         replace hZ := Nat.le_trans hZ hc15.size
         refine ⟨.tuple #[.agg #[.int .i64 (y4.1.1), .int .i64 (y4.1.2.1), .int .i64 (y4.1.2.2.1), .int .i64 (y4.1.2.2.2.1), .int .i64 (y4.1.2.2.2.2)], .int .i64 (y4.2.1), .int .i64 (y4.2.2.1), .bool (y4.2.2.2)], rfl, ?_⟩
         refine wS_end (by kernel_rfl) ?_
         refine eX_KH hS ?_
         refine wH_take [13, 14, 15, 16, 17] [17, 16, 15, 14, 13, 12, 11, 10, 9, 8, 7, 6, 5, 4, 3, 2, 1, 0] [(69, .bool (y4.2.2.2)), (68, .int .i64 (y4.2.2.1)), (67, .int .i64 (y4.2.1)), (66, .agg #[.int .i64 (y4.1.1), .int .i64 (y4.1.2.1), .int .i64 (y4.1.2.2.1), .int .i64 (y4.1.2.2.2.1), .int .i64 (y4.1.2.2.2.2)]), (52, .tuple #[.agg #[.int .i64 (y4.1.1), .int .i64 (y4.1.2.1), .int .i64 (y4.1.2.2.1), .int .i64 (y4.1.2.2.2.1), .int .i64 (y4.1.2.2.2.2)], .int .i64 (y4.2.1), .int .i64 (y4.2.2.1), .bool (y4.2.2.2)])] (by kernel_rfl) (qT (qT (qT (qB (qT (qL (qB (qT (qT qZ))))))))) (by kernel_rfl) ?_
         refine wH_all [18] (by rfl) (by kernel_rfl) (by simp) ⟨⟨by kernel_rfl, ?_⟩, trivial⟩
         refine wS_alloc (d := 13) (T := 58) (z := .agg #[.int .i64 (0), .int .i64 (0), .int .i64 (0), .int .i64 (0), .int .i64 (0)]) (by kernel_rfl) (by kernel_rfl) ?_
         intro b8 w19 G13 F25 hc16
         replace F25 : Cl w19 b8 58 [.int .i64 (0), .int .i64 (0), .int .i64 (0), .int .i64 (0), .int .i64 (0)] := F25
         have D15 : Dj fp3 [b8] := Dj.of F22.low (low1 G13)
         have D16 : Dj fp8 [b8] := Dj.of F23.low (low1 G13)
         replace F21 := F21.chg hc16 Dj.nil
         replace F22 := F22.chg hc16 Dj.nil
         replace F23 := F23.chg hc16 Dj.nil
         replace F24 := F24.chg hc16 Dj.nil
         replace hB := hB.inS hc16 inNil
         have hSz := hS
         replace hS := hS.inS hc16 inNil
         have Gz5 := low1 (Nat.le_trans hSz.size G13)
         replace G13 := Nat.le_trans hZ G13
         replace hZ := Nat.le_trans hZ hc16.size
         refine wS_end (by kernel_rfl) ?_
         refine eX_KH hS ?_
         refine wH_all [19] (by rfl) (by kernel_rfl) (by simp) ⟨⟨by kernel_rfl, ?_⟩, trivial⟩
         refine wS_store (T := 58) (g := b8) (o := 0) (ad := ⟨b8, 0, none⟩) (v := .agg #[.int .i64 (y4.1.1), .int .i64 (y4.1.2.1), .int .i64 (y4.1.2.2.1), .int .i64 (y4.1.2.2.2.1), .int .i64 (y4.1.2.2.2.2)]) (vs := [.int .i64 (y4.1.1), .int .i64 (y4.1.2.1), .int .i64 (y4.1.2.2.1), .int .i64 (y4.1.2.2.2.1), .int .i64 (y4.1.2.2.2.2)]) (by kernel_rfl) (by rfl) sz58 (by rfl) (by rfl) F25 (by simp only [List.length_cons, List.length_nil]; omega) ?_
         intro w20 F26 hc17
         replace F21 := F21.chg hc17 (Dj.of L1 (low1 G13))
         replace F22 := F22.chg hc17 D15
         replace F23 := F23.chg hc17 D16
         replace F24 := F24.chg hc17 (Dj.of L1 (low1 G13))
         replace hB := hB.inS hc17 (inLow (low1 G13))
         have hSz := hS
         replace hS := hS.inS hc17 (inLow Gz5)
         replace hZ := Nat.le_trans hZ hc17.size
         replace F26 : Cl w20 b8 58 [.int .i64 (y4.1.1), .int .i64 (y4.1.2.1), .int .i64 (y4.1.2.2.1), .int .i64 (y4.1.2.2.2.1), .int .i64 (y4.1.2.2.2.2)] := F26
         clear F25
         refine wS_end (by kernel_rfl) ?_
         refine eX_KH hS ?_
         refine wH_take [20, 21] [21, 20, 19, 18, 17, 16, 15, 14, 13, 12, 11, 10, 9, 8, 7, 6, 5, 4, 3, 2, 1, 0] [(15, .int .i64 (y4.2.2.1)), (14, .int .i64 (y4.2.1))] (by kernel_rfl) (qT (qT (qT (qB (qT (qL (qB (qT (qT qZ))))))))) (by kernel_rfl) ?_
         refine wH_done (by kernel_rfl) ?_
         refine eX_tail ?_
         refine wS_pure 1 [(16, .bool (y4.2.2.2))] (by kernel_rfl) ?_
         refine wS_end (by rfl) ?_
         have hq : (some ((y4.1.1, y4.1.2.1, y4.1.2.2.1, y4.1.2.2.2.1, y4.1.2.2.2.2, y4.2.1, y4.2.2.1, y4.2.2.2)) : Option (Int × Int × Int × Int × Int × Int × Int × Bool)) = some _ := hm
         replace hq := someE hq
         subst hq
         exact eX_J (fun hst => ⟨b8, y4.1.1, y4.1.2.1, y4.1.2.2.1, y4.1.2.2.2.1, y4.1.2.2.2.2, y4.2.1, y4.2.2.1, y4.2.2.2, rfl, Fr.of hst (by kernel_rfl), F21, F22, F23, F24, F26, G13, D15, D16, hB, hZ⟩)
        ·skip
         refine wS_alloc (d := 13) (T := 58) (z := .agg #[.int .i64 (0), .int .i64 (0), .int .i64 (0), .int .i64 (0), .int .i64 (0)]) (by kernel_rfl) (by kernel_rfl) ?_
         intro b9 w21 G14 F27 hc18
         replace F27 : Cl w21 b9 58 [.int .i64 (0), .int .i64 (0), .int .i64 (0), .int .i64 (0), .int .i64 (0)] := F27
         have D17 : Dj fp3 [b9] := Dj.of F22.low (low1 G14)
         have D18 : Dj fp8 [b9] := Dj.of F23.low (low1 G14)
         replace F21 := F21.chg hc18 Dj.nil
         replace F22 := F22.chg hc18 Dj.nil
         replace F23 := F23.chg hc18 Dj.nil
         replace F24 := F24.chg hc18 Dj.nil
         replace hB := hB.inS hc18 inNil
         have hSz := hS
         replace hS := hS.inS hc18 inNil
         have Gz6 := low1 (Nat.le_trans hSz.size G14)
         replace G14 := Nat.le_trans hZ G14
         replace hZ := Nat.le_trans hZ hc18.size
         refine wS_end (by kernel_rfl) ?_
         refine eX_KH hS ?_
         refine wH_all [12] (by rfl) (by kernel_rfl) (by simp) ⟨⟨by kernel_rfl, ?_⟩, trivial⟩
         obtain ⟨y5, hy5, hm⟩ := bindE hm
         refine wS_calls (d := 65) (f := 27) (vs := [.agg #[.int .i64 (x14.1), .int .i64 (x14.2.1), .int .i64 (x14.2.2.1), .int .i64 (x14.2.2.2.1), .int .i64 (x14.2.2.2.2)], .agg #[.int .i64 (x16.1), .int .i64 (x16.2.1), .int .i64 (x16.2.2.1), .int .i64 (x16.2.2.2.1), .int .i64 (x16.2.2.2.2)]]) (by kernel_rfl) ent27 (c_impl_merge hy5) ?_
         rintro _ w22 ⟨rfl, hc19⟩
         replace F21 := F21.chg hc19 Dj.nil
         replace F22 := F22.chg hc19 Dj.nil
         replace F23 := F23.chg hc19 Dj.nil
         replace F24 := F24.chg hc19 Dj.nil
         replace F27 := F27.chg hc19 notNil
         replace hB := hB.inS hc19 inNil
         have hSz := hS
         replace hS := hS.inS hc19 inNil
         replace hZ := Nat.le_trans hZ hc19.size
         refine ⟨.tuple #[.agg #[.int .i64 (y5.1.1), .int .i64 (y5.1.2.1), .int .i64 (y5.1.2.2.1), .int .i64 (y5.1.2.2.2.1), .int .i64 (y5.1.2.2.2.2)], .int .i64 (y5.2.1), .int .i64 (y5.2.2.1), .bool (y5.2.2.2)], rfl, ?_⟩
         refine wS_end (by kernel_rfl) ?_
         refine eX_KH hS ?_
         refine wH_take [13, 14, 15, 16, 17] [17, 16, 15, 14, 13, 12, 18, 11, 10, 9, 8, 7, 6, 5, 4, 3, 2, 1, 0] [(69, .bool (y5.2.2.2)), (68, .int .i64 (y5.2.2.1)), (67, .int .i64 (y5.2.1)), (66, .agg #[.int .i64 (y5.1.1), .int .i64 (y5.1.2.1), .int .i64 (y5.1.2.2.1), .int .i64 (y5.1.2.2.2.1), .int .i64 (y5.1.2.2.2.2)]), (52, .tuple #[.agg #[.int .i64 (y5.1.1), .int .i64 (y5.1.2.1), .int .i64 (y5.1.2.2.1), .int .i64 (y5.1.2.2.2.1), .int .i64 (y5.1.2.2.2.2)], .int .i64 (y5.2.1), .int .i64 (y5.2.2.1), .bool (y5.2.2.2)])] (by kernel_rfl) (qT (qT (qT (qB (qT (qL (qB (qT (qT qZ))))))))) (by kernel_rfl) ?_
         refine wH_all [19] (by rfl) (by kernel_rfl) (by simp) ⟨⟨by kernel_rfl, ?_⟩, trivial⟩
         refine wS_store (T := 58) (g := b9) (o := 0) (ad := ⟨b9, 0, none⟩) (v := .agg #[.int .i64 (y5.1.1), .int .i64 (y5.1.2.1), .int .i64 (y5.1.2.2.1), .int .i64 (y5.1.2.2.2.1), .int .i64 (y5.1.2.2.2.2)]) (vs := [.int .i64 (y5.1.1), .int .i64 (y5.1.2.1), .int .i64 (y5.1.2.2.1), .int .i64 (y5.1.2.2.2.1), .int .i64 (y5.1.2.2.2.2)]) (by kernel_rfl) (by rfl) sz58 (by rfl) (by rfl) F27 (by simp only [List.length_cons, List.length_nil]; omega) ?_
         intro w23 F28 hc20
         replace F21 := F21.chg hc20 (Dj.of L1 (low1 G14))
         replace F22 := F22.chg hc20 D17
         replace F23 := F23.chg hc20 D18
         replace F24 := F24.chg hc20 (Dj.of L1 (low1 G14))
         replace hB := hB.inS hc20 (inLow (low1 G14))
         have hSz := hS
         replace hS := hS.inS hc20 (inLow Gz6)
         replace hZ := Nat.le_trans hZ hc20.size
         replace F28 : Cl w23 b9 58 [.int .i64 (y5.1.1), .int .i64 (y5.1.2.1), .int .i64 (y5.1.2.2.1), .int .i64 (y5.1.2.2.2.1), .int .i64 (y5.1.2.2.2.2)] := F28
         clear F27
         refine wS_end (by kernel_rfl) ?_
         refine eX_KH hS ?_
         refine wH_take [20, 21] [21, 20, 19, 17, 16, 15, 14, 13, 12, 18, 11, 10, 9, 8, 7, 6, 5, 4, 3, 2, 1, 0] [(15, .int .i64 (y5.2.2.1)), (14, .int .i64 (y5.2.1))] (by kernel_rfl) (qT (qT (qT (qB (qT (qL (qB (qT (qT qZ))))))))) (by kernel_rfl) ?_
         refine wH_done (by kernel_rfl) ?_
         refine eX_tail ?_
         refine wS_pure 1 [(16, .bool (y5.2.2.2))] (by kernel_rfl) ?_
         refine wS_end (by rfl) ?_
         have hq : (some ((y5.1.1, y5.1.2.1, y5.1.2.2.1, y5.1.2.2.2.1, y5.1.2.2.2.2, y5.2.1, y5.2.2.1, y5.2.2.2)) : Option (Int × Int × Int × Int × Int × Int × Int × Bool)) = some _ := hm
         replace hq := someE hq
         subst hq
         exact eX_J (fun hst => ⟨b9, y5.1.1, y5.1.2.1, y5.1.2.2.1, y5.1.2.2.2.1, y5.1.2.2.2.2, y5.2.1, y5.2.2.1, y5.2.2.2, rfl, Fr.of hst (by kernel_rfl), F21, F22, F23, F24, F28, G14, D17, D18, hB, hZ⟩)
       ·rintro a' w24 ⟨b7, x5, x6, x7, x8, x9, x10, x11, x12, hJ, hF5, F29, F30, F31, F32, F33, G15, D19, D20, hB, hZ⟩
        subst hJ
        refine Fr.goX hF5 (by kernel_rfl) ?_
        refine eX_then ?_
        refine cW_seq ?_
        refine cW_seq ?_
        refine cW_region ?_
        refine wS_pure 2 [(71, .bool (!x12)), (70, .bool (x12))] (by kernel_rfl) ?_
        refine wS_end (by rfl) ?_
        refine eX_then ?_
        refine cW_cond (t := !x12) (by kernel_rfl) (fun hb5 => ?_) (fun hb5 => ?_)
        ·have hm := condT hb5 hm
         refine cW_seq ?_
         refine cW_region ?_
         refine wS_pure 3 [(6, .bool (false)), (5, .slice none 0 0), (4, .slice none 0 0)] (by kernel_rfl) ?_
         refine wS_end (by rfl) ?_
         refine eX_then ?_
         refine cW_ret ?_
         refine eX_then_ret ?_
         refine eX_block_ret ?_
         refine eX_then_ret ?_
         have hq : (some (Ctl.out (Sum.inr (([], [], false)))) : Option (Ctl ((List (Int × Int × Int × Int × Int)) × Int × (List (Int))) (Sum ((List (Int × Int × Int × Int × Int)) × (List (Int))) ((List (Int × Int × Int × Int × Int)) × (List (Int)) × (Bool))))) = some _ := hm
         replace hq := someE hq
         subst hq
         refine eX_outR hx3 (fun hr => ?_)
         subst hr
         refine eX_block_ret ?_
         refine eX_then_ret ?_
         refine eX_then_ret ?_
         have hq : (some (([], [], false)) : Option ((List (Int × Int × Int × Int × Int)) × (List (Int)) × (Bool))) = some _ := hm2
         replace hq := someE hq
         subst hq
         refine eX_ret (vs := [.slice none 0 0, .slice none 0 0, .bool (false)]) [.tmp 4, .tmp 5, .tmp 6] (by rfl) ⟨by (show lkE _ _ _ = _); kernel_rfl, ⟨by (show lkE _ _ _ = _); kernel_rfl, ⟨by (show lkE _ _ _ = _); kernel_rfl, trivial⟩⟩⟩ ?_
         exact ⟨none, 0, [], none, 0, [], rfl, Ow.nil _, lowNil, Ow.nil _, lowNil, Dj.nil, hB⟩
        ·have hm := condF hb5 hm
         refine cW_skip ?_
         refine eX_then ?_
         refine cW_seq ?_
         refine cW_region ?_
         refine wS_pure 1 [(72, .slice A9 (l9).length cap9)] (by kernel_rfl) ?_
         refine wS_loadA (d := 73) (T := 58) (ad := ⟨b7, 0, none⟩) (vs := [.int .i64 (x5), .int .i64 (x6), .int .i64 (x7), .int .i64 (x8), .int .i64 (x9)]) (by kernel_rfl) vt58 (fun i u hu => box_cells F33 0 hu (by rfl)) ?_
         refine wS_bs (enc := encIIIII) ([(x5, x6, x7, x8, x9)] : List (Int × Int × Int × Int × Int)) [.int .i64 (x5), .int .i64 (x6), .int .i64 (x7), .int .i64 (x8), .int .i64 (x9)] (d := 74) (t := 51) (T := 58) (n := 1) (ps := [(0, .agg #[.int .i64 (x5), .int .i64 (x6), .int .i64 (x7), .int .i64 (x8), .int .i64 (x9)])]) (by kernel_rfl) el51 encIIIII_ok (by rfl) (by omega) (by omega) (by kernel_rfl) (by rfl) ?_
         intro b10 w25 G16 F34 hc21
         have D21 : Dj fp3 [b10] := Dj.of F30.low (low1 G16)
         have D22 : Dj fp8 [b10] := Dj.of F31.low (low1 G16)
         have D23 : Dj [b7] [b10] := Dj.of (lt1 F33.lt) (low1 G16)
         replace F29 := F29.chg hc21 Dj.nil
         replace F30 := F30.chg hc21 Dj.nil
         replace F31 := F31.chg hc21 Dj.nil
         replace F32 := F32.chg hc21 Dj.nil
         replace F33 := F33.chg hc21 notNil
         replace hB := hB.inS hc21 inNil
         replace G16 := Nat.le_trans hZ G16
         replace G16 := low1 G16
         replace hZ := Nat.le_trans hZ hc21.size
         obtain ⟨_, hk4, hm⟩ := bindE hm
         replace hk4 := apE hk4
         refine wS_append (enc := encIIIII) (l := (l9 : List (Int × Int × Int × Int × Int))) (l2 := (([(x5, x6, x7, x8, x9)] : List (Int × Int × Int × Int × Int)) : List (Int × Int × Int × Int × Int))) (d := 75) (t := 51) (T := 58) (A := A9) (A2 := (some ⟨b10, 0, none⟩)) (cap := cap9) (cap2 := 1) (by kernel_rfl) el51 encIIIII_ok F31 (F34.sl encIIIII_ok) (by rfl) hk4 ?_
         intro w26 fp9 A11 cap11 F35 hc22 hp2
         have G17 := low_ap G12 hZ hp2
         have D24 : Dj fp3 fp9 := Dj.ap D14 F30.low hp2
         have D25 : Dj [b7] fp9 := Dj.ap (D20).symm (lt1 F33.lt) hp2
         have D26 : Dj [b10] fp9 := Dj.ap (D22).symm F34.low hp2
         replace F29 := F29.chg hc22 (Dj.of L1 G12)
         replace F30 := F30.chg hc22 D14
         replace F32 := F32.chg hc22 (Dj.of L1 G12)
         replace F33 := F33.chg hc22 (dj1 (D20).symm)
         replace F34 := F34.chg hc22 (D22).symm
         replace hB := hB.inS hc22 (inLow G12)
         replace hZ := Nat.le_trans hZ hc22.size
         refine wS_pure 1 [(7, .slice A11 (l9 ++ (([(x5, x6, x7, x8, x9)] : List (Int × Int × Int × Int × Int)))).length cap11)] (by kernel_rfl) ?_
         refine wS_end (by rfl) ?_
         refine eX_then ?_
         refine cW_drawnTail2 [] 10 [0, 1, 4, 5, 8, 9] [9, 8, 5, 4, 1, 0] [(85, .int .i64 (x11)), (84, .int .i64 (x10)), (81, .slice A10 (x4).length cap10), (80, .slice A4 (l10).length cap4), (77, .slice A10 (x4).length cap10), (76, .slice A4 (l10).length cap4)] (by kernel_rfl) (by kernel_rfl) (qB (qT (qL (qB (qT (qT qZ)))))) (by kernel_rfl) (by kernel_rfl) (by decide) (fun w27 hc23 => ?_)
         replace F29 := F29.chg hc23 Dj.nil
         replace F30 := F30.chg hc23 Dj.nil
         replace F32 := F32.chg hc23 Dj.nil
         replace F33 := F33.chg hc23 notNil
         replace F34 := F34.chg hc23 Dj.nil
         replace F35 := F35.chg hc23 Dj.nil
         replace hB := hB.inS hc23 inNil
         replace hZ := Nat.le_trans hZ hc23.size
         have hS := Chg.refl [] w27
         have Z7 := F29
         have Z8 := F30
         have Z9 := F32
         have Z10 := F33
         have Z11 := F34
         have Z12 := F35
         obtain ⟨x17, hx9, hm⟩ := bindE hm
         refine wH_idx (i := 2) (d := 78) (T := 32) (A := A10) (n := (x4).length) (cap := cap10) (kd := .i64) (m := 0) (by kernel_rfl) (qT (qB (qT (qL (qB (qT (qT qZ))))))) (by kernel_rfl) (by kernel_rfl) sl32 (F32.is hx9) ?_
         refine wH_load1 (i := 3) (d := 79) (T := 2) (ad := (elA A10 1 (0) 0)) (v := .int .i64 (x17)) (by kernel_rfl) (qT (qB (qT (qL (qB (qT (qT qZ))))))) (by kernel_rfl) (by kernel_rfl) vt2 (fun W hW => Sl.cell (Z9.chg hW Dj.nil) hx9 0 (by rfl)) ?_
         obtain ⟨x18, hx10, hm⟩ := bindE hm
         refine wH_idx (i := 6) (d := 82) (T := 32) (A := A10) (n := (x4).length) (cap := cap10) (kd := .i64) (m := 1) (by kernel_rfl) (qT (qB (qT (qL (qB (qT (qT qZ))))))) (by kernel_rfl) (by kernel_rfl) sl32 (F32.is hx10) ?_
         refine wH_load1 (i := 7) (d := 83) (T := 2) (ad := (elA A10 1 (1) 0)) (v := .int .i64 (x18)) (by kernel_rfl) (qT (qB (qT (qL (qB (qT (qT qZ))))))) (by kernel_rfl) (by kernel_rfl) vt2 (fun W hW => Sl.cell (Z9.chg hW Dj.nil) hx10 0 (by rfl)) ?_
         refine wH_done (by kernel_rfl) ?_
         refine eX_tail ?_
         obtain ⟨x19, hx11, hm⟩ := bindE hm
         refine wS_idx (d := 86) (T := 32) (A := A4) (n := (l10).length) (cap := cap4) (kd := .i64) (m := x17) (by kernel_rfl) sl32 ((F30.sl encI_ok).is hx11) ?_
         refine wS_storeEl (x := x19) x10 (T := 2) (U := 2) (cap := cap4) (j := 0) (A := A4) (v := .int .i64 (x10)) (vs := [.int .i64 (x10)]) (m := x17) (by kernel_rfl) (by rfl) sz2 (by rfl) encI_ok F30 hx11 (by simp only [List.length_cons, List.length_nil]; omega) (by rfl) ?_
         intro w28 F36 hc24
         replace F29 := F29.chg hc24 (Dj.of L1 G6)
         replace F32 := F32.chg hc24 (Dj.of L1 G6)
         replace F33 := F33.chg hc24 (dj1 (D19).symm)
         replace F34 := F34.chg hc24 (D21).symm
         replace F35 := F35.chg hc24 (D24).symm
         replace hB := hB.inS hc24 (inLow G6)
         replace hZ := Nat.le_trans hZ hc24.size
         clear F30
         rewrite [show (l10).length = (l10.set (Int.toNat x17) x10).length from (List.length_set ..).symm]
         obtain ⟨x20, hx12, hm⟩ := bindE hm
         refine wS_idx (d := 87) (T := 32) (A := A4) (n := (l10.set (Int.toNat x17) x10).length) (cap := cap4) (kd := .i64) (m := x18) (by kernel_rfl) sl32 ((F36.sl encI_ok).is hx12) ?_
         refine wS_storeEl (x := x20) x11 (T := 2) (U := 2) (cap := cap4) (j := 0) (A := A4) (v := .int .i64 (x11)) (vs := [.int .i64 (x11)]) (m := x18) (by kernel_rfl) (by rfl) sz2 (by rfl) encI_ok F36 hx12 (by simp only [List.length_cons, List.length_nil]; omega) (by rfl) ?_
         intro w29 F37 hc25
         replace F29 := F29.chg hc25 (Dj.of L1 G6)
         replace F32 := F32.chg hc25 (Dj.of L1 G6)
         replace F33 := F33.chg hc25 (dj1 (D19).symm)
         replace F34 := F34.chg hc25 (D21).symm
         replace F35 := F35.chg hc25 (D24).symm
         replace hB := hB.inS hc25 (inLow G6)
         replace hZ := Nat.le_trans hZ hc25.size
         clear F36
         rewrite [show (l10.set (Int.toNat x17) x10).length = ((l10.set (Int.toNat x17) x10).set (Int.toNat x18) x11).length from (List.length_set ..).symm]
         refine wS_end (by rfl) ?_
         refine eX_block ?_
         refine eX_then ?_
         refine cW_prune [(7, .slice A11 (l9 ++ (([(x5, x6, x7, x8, x9)] : List (Int × Int × Int × Int × Int)))).length cap11), (8, .slice A4 ((l10.set (Int.toNat x17) x10).set (Int.toNat x18) x11).length cap4), (46, .slice A1 (l1).length cap1), (47, .int .i64 (((l1).length : Int))), (48, .int .i64 (x3))] (by kernel_rfl) (by kernel_rfl) (fun a1 => ?_)
         refine cW_region ?_
         refine wS_pure 2 [(48, .int .i64 (wr (x3 + 1))), (88, .int .i64 (wr (x3 + 1)))] (by kernel_rfl) ?_
         refine wS_end (by rfl) ?_
         have hq : (some (Ctl.next ((l9 ++ (([(x5, x6, x7, x8, x9)] : List (Int × Int × Int × Int × Int))), wr (x3 + 1), (l10.set (Int.toNat x17) x10).set (Int.toNat x18) x11))) : Option (Ctl ((List (Int × Int × Int × Int × Int)) × Int × (List (Int))) (Sum ((List (Int × Int × Int × Int × Int)) × (List (Int))) ((List (Int × Int × Int × Int × Int)) × (List (Int)) × (Bool))))) = some _ := hm
         replace hq := someE hq
         subst hq
         exact eX_next hx3 (fun hst => ⟨l9 ++ (([(x5, x6, x7, x8, x9)] : List (Int × Int × Int × Int × Int))), A11, cap11, fp9, wr (x3 + 1), (l10.set (Int.toNat x17) x10).set (Int.toNat x18) x11, rfl, Fr.of hst (by kernel_rfl), F29, F37, F35, G17, D24, hB, hZ⟩)
      ·have hm := condF hb4 hm
       refine cW_exit ?_
       refine eX_then_exit ?_
       have hq : (some (Ctl.out (Sum.inl ((l9, l10)))) : Option (Ctl ((List (Int × Int × Int × Int × Int)) × Int × (List (Int))) (Sum ((List (Int × Int × Int × Int × Int)) × (List (Int))) ((List (Int × Int × Int × Int × Int)) × (List (Int)) × (Bool))))) = some _ := hm
       replace hq := someE hq
       subst hq
       refine eX_outX hx3 (fun hr4 => ?_)
       replace hr4 := hr4.symm
       subst hr4
       refine eX_block_hit ?_
       exact eX_J (fun hst => ⟨l9, A9, cap9, fp8, l10, rfl, Fr.of hst (by kernel_rfl), F22, F23, G12, D14, hB, hZ⟩)
     ·rintro a' w30 ⟨l7, A8, cap8, fp7, l8, hJ, hF6, F38, F39, G18, D27, hB, hZ⟩
      subst hJ
      refine Fr.goX hF6 (by kernel_rfl) ?_
      refine eX_then ?_
      refine cW_seq ?_
      refine cW_region ?_
      refine wS_pure 5 [(6, .bool (true)), (5, .slice A4 (l8).length cap4), (4, .slice A8 (l7).length cap8), (90, .slice A4 (l8).length cap4), (89, .slice A8 (l7).length cap8)] (by kernel_rfl) ?_
      refine wS_end (by rfl) ?_
      refine eX_then ?_
      refine cW_ret ?_
      have hq : (some ((l7, l8, true)) : Option ((List (Int × Int × Int × Int × Int)) × (List (Int)) × (Bool))) = some _ := hm
      replace hq := someE hq
      subst hq
      refine eX_ret (vs := [.slice A8 (l7).length cap8, .slice A4 (l8).length cap4, .bool (true)]) [.tmp 4, .tmp 5, .tmp 6] (by rfl) ⟨by (show lkE _ _ _ = _); kernel_rfl, ⟨by (show lkE _ _ _ = _); kernel_rfl, ⟨by (show lkE _ _ _ = _); kernel_rfl, trivial⟩⟩⟩ ?_
      exact ⟨A8, cap8, fp7, A4, cap4, fp3, rfl, F39, G18, F38, G6, (D27).symm, hB⟩

set_option maxRecDepth 100000 in
/-- impl.ClockWires -/
theorem c_impl_ClockWires {w0 : World} {l0 : List (Int × Int)} {A0 : Option Addr} {cap0 : Nat} {fp0 : List Nat} {l1 : List (List (Int))} {A1 : Option Addr} {cap1 : Nat} {fp1 : List Nat} {r : (List (Int)) × (Bool)} (hm : m_impl_ClockWires l0 l1 = some r) (F0 : Sl 2 encII w0 fp0 A0 l0) (F1 : SlR 1 encI w0 fp1 A1 l1) :
  Calls Try.prog 10 #[.slice A0 (l0).length cap0, .slice A1 (l1).length cap1] w0 fun e w' => ∃ A100 cap100 fp100, e = .returned (.tuple #[.slice A100 (r.1).length cap100, .bool (r.2)]) ∧ Ow 1 encI 2 w' fp100 A100 cap100 r.1 ∧ (∀ x ∈ fp100, w0.heap.size ≤ x) ∧ Chg [] w0 w' := by
 have L0 := F0.low
 have L1 := F1.low
 have hB : Chg [] w0 w0 := Chg.refl _ _
 have hZ := Nat.le_refl w0.heap.size
 unfold m_impl_ClockWires at hm
 refine enterE (N := 18) Try.func10 (by rfl) Try.ntmps10 (by simp) [(0, .slice A0 (l0).length cap0), (1, .slice A1 (l1).length cap1)] (by rfl) (by kernel_rfl) (fun a => ?_)
 refine cW_seq ?_
 refine cW_region ?_
 refine wS_pure 2 [(5, .bool (false)), (4, .slice none 0 0)] (by kernel_rfl) ?_
 refine wS_end (by rfl) ?_
 refine eX_then ?_
 refine cW_seq ?_
 refine cW_region ?_
 refine wS_pure 2 [(11, .slice A1 (l1).length cap1), (10, .slice A0 (l0).length cap0)] (by kernel_rfl) ?_
 obtain ⟨y1, hy1, hm⟩ := bindE hm
 refine wS_calls (d := 12) (f := 30) (vs := [.slice A0 (l0).length cap0, .slice A1 (l1).length cap1]) (by kernel_rfl) ent30 (c_impl_tree hy1 F0 F1) ?_
 rintro _ w1 ⟨A2, cap2, fp2, A3, cap3, fp3, rfl, F2, G1, F3, G2, D1, hc1⟩
 replace F0 := F0.chg hc1 Dj.nil
 replace F1 := F1.chg hc1 Dj.nil
 replace hB := hB.inS hc1 inNil
 replace G1 := low_le hZ G1
 replace G2 := low_le hZ G2
 replace hZ := Nat.le_trans hZ hc1.size
 refine ⟨.tuple #[.slice A2 (y1.1).length cap2, .slice A3 (y1.2.1).length cap3, .bool (y1.2.2)], rfl, ?_⟩
 refine wS_pure 7 [(8, .bool (y1.2.2)), (7, .slice A3 (y1.2.1).length cap3), (6, .slice A2 (y1.1).length cap2), (15, .bool (y1.2.2)), (14, .slice A3 (y1.2.1).length cap3), (13, .slice A2 (y1.1).length cap2), (9, .tuple #[.slice A2 (y1.1).length cap2, .slice A3 (y1.2.1).length cap3, .bool (y1.2.2)])] (by kernel_rfl) ?_
 refine wS_end (by rfl) ?_
 refine eX_then ?_
 refine cW_seq ?_
 refine cW_region ?_
 refine wS_pure 4 [(5, .bool (y1.2.2)), (4, .slice A3 (y1.2.1).length cap3), (17, .bool (y1.2.2)), (16, .slice A3 (y1.2.1).length cap3)] (by kernel_rfl) ?_
 refine wS_end (by rfl) ?_
 refine eX_then ?_
 refine cW_ret ?_
 have hq : (some ((y1.2.1, y1.2.2)) : Option ((List (Int)) × (Bool))) = some _ := hm
 replace hq := someE hq
 subst hq
 refine eX_ret (vs := [.slice A3 (y1.2.1).length cap3, .bool (y1.2.2)]) [.tmp 4, .tmp 5] (by rfl) ⟨by (show lkE _ _ _ = _); kernel_rfl, ⟨by (show lkE _ _ _ = _); kernel_rfl, trivial⟩⟩ ?_
 exact ⟨A3, cap3, fp3, rfl, F3, G2, hB⟩

set_option maxRecDepth 100000 in
/-- laws.r8Sum -/
theorem c_laws_r8Sum {w0 : World} {l0 : List (Int)} {A0 : Option Addr} {cap0 : Nat} {fp0 : List Nat} {r : (Int)} (hm : m_laws_r8Sum l0 = some r) (F0 : Sl 1 encI w0 fp0 A0 l0) :
  Calls Try.prog 11 #[.slice A0 (l0).length cap0] w0 fun e w' => e = .returned (.int .i64 (r)) ∧ Chg [] w0 w' := by
 have L0 := F0.low
 have hB : Chg [] w0 w0 := Chg.refl _ _
 have hZ := Nat.le_refl w0.heap.size
 unfold m_laws_r8Sum at hm
 refine enterE (N := 18) Try.func11 (by rfl) Try.ntmps11 (by simp) [(0, .slice A0 (l0).length cap0)] (by rfl) (by kernel_rfl) (fun a => ?_)
 refine cW_seq ?_
 refine cW_region ?_
 refine wS_pure 1 [(2, .int .i64 (0))] (by kernel_rfl) ?_
 refine wS_end (by rfl) ?_
 refine eX_then ?_
 refine cW_seq ?_
 refine cW_region ?_
 refine wS_pure 1 [(3, .int .i64 (0))] (by kernel_rfl) ?_
 refine wS_end (by rfl) ?_
 refine eX_then ?_
 refine cW_seq ?_
 refine cW_seq ?_
 refine cW_region ?_
 refine wS_pure 1 [(4, .int .i64 (0))] (by kernel_rfl) ?_
 refine wS_end (by rfl) ?_
 refine eX_then ?_
 obtain ⟨r1, hr1, hm⟩ := bindE hm
 have hm1 := hm
 refine cW_cut (fun a' w' => ∃ x1 : Int, x1 = r1 ∧ Fr 18 [(3, .int .i64 (x1))] a' ∧ Chg [] w0 w' ∧ w0.heap.size ≤ w'.heap.size) ?_ ?_
 ·refine cW_block ?_
  refine cW_loop _ (fun (s1 : Int × Int) a' w' => ∃ x2 : Int, ∃ x3 : Int, (x2, x3) = s1 ∧ Fr 18 [(0, .slice A0 (l0).length cap0), (3, .int .i64 (x2)), (4, .int .i64 (x3))] a' ∧ Sl 1 encI w' fp0 A0 l0 ∧ Chg [] w0 w' ∧ w0.heap.size ≤ w'.heap.size) hr1 (fun hst => ⟨0, 0, rfl, Fr.of hst (by kernel_rfl), F0, hB, hZ⟩) ?_
  rintro _ c1 a' w1 ⟨x2, x3, rfl, hF1, F1, hB, hZ⟩ hx1
  refine Fr.goOn hF1 (by kernel_rfl) ?_
  have hm := hx1
  unfold m_laws_r8Sum_s1 at hm
  refine cW_seq ?_
  refine cW_seq ?_
  refine cW_region ?_
  refine wS_pure 4 [(8, .bool (decide (x3 < (((l0).length : Int))))), (7, .int .i64 (((l0).length : Int))), (6, .slice A0 (l0).length cap0), (5, .int .i64 (x3))] (by kernel_rfl) ?_
  refine wS_end (by rfl) ?_
  refine eX_then ?_
  refine cW_cond (t := decide (x3 < (((l0).length : Int)))) (by kernel_rfl) (fun hb1 => ?_) (fun hb1 => ?_)
  ·have hm := condT hb1 hm
   refine cW_skip ?_
   refine eX_then ?_
   refine cW_seq ?_
   refine cW_block ?_
   refine cW_region ?_
   refine wS_pure 3 [(13, .int .i64 (x3)), (12, .slice A0 (l0).length cap0), (11, .int .i64 (x2))] (by kernel_rfl) ?_
   obtain ⟨x4, hx2, hm⟩ := bindE hm
   refine wS_idx (d := 14) (T := 32) (A := A0) (n := (l0).length) (cap := cap0) (kd := .i64) (m := x3) (by kernel_rfl) sl32 (F1.is hx2) ?_
   refine wS_load1 (d := 15) (T := 2) (ad := (elA A0 1 (x3) 0)) (v := .int .i64 (x4)) (by kernel_rfl) vt2 (Sl.cell F1 hx2 0 (by rfl)) ?_
   refine wS_pure 2 [(3, .int .i64 (wr (x2 + x4))), (16, .int .i64 (wr (x2 + x4)))] (by kernel_rfl) ?_
   refine wS_end (by rfl) ?_
   refine eX_block ?_
   refine eX_then ?_
   refine cW_region ?_
   refine wS_pure 3 [(4, .int .i64 (wr (x3 + 1))), (10, .int .i64 (wr (x3 + 1))), (9, .int .i64 (x3))] (by kernel_rfl) ?_
   refine wS_end (by rfl) ?_
   have hq : (some (Ctl.next ((wr (x2 + x4), wr (x3 + 1)))) : Option (Ctl (Int × Int) (Int))) = some _ := hm
   replace hq := someE hq
   subst hq
   exact eX_next hx1 (fun hst => ⟨wr (x2 + x4), wr (x3 + 1), rfl, Fr.of hst (by kernel_rfl), F1, hB, hZ⟩)
  ·have hm := condF hb1 hm
   refine cW_exit ?_
   refine eX_then_exit ?_
   have hq : (some (Ctl.out x2) : Option (Ctl (Int × Int) (Int))) = some _ := hm
   replace hq := someE hq
   subst hq
   refine eX_outX hx1 (fun hr2 => ?_)
   replace hr2 := hr2.symm
   subst hr2
   refine eX_block_hit ?_
   exact eX_J (fun hst => ⟨x2, rfl, Fr.of hst (by kernel_rfl), hB, hZ⟩)
 ·rintro a' w2 ⟨x1, hJ, hF2, hB, hZ⟩
  subst hJ
  refine Fr.goX hF2 (by kernel_rfl) ?_
  refine eX_then ?_
  refine cW_seq ?_
  refine cW_region ?_
  refine wS_pure 2 [(2, .int .i64 (x1)), (17, .int .i64 (x1))] (by kernel_rfl) ?_
  refine wS_end (by rfl) ?_
  refine eX_then ?_
  refine cW_ret ?_
  have hq : (some x1 : Option ((Int))) = some _ := hm
  replace hq := someE hq
  subst hq
  refine eX_ret (vs := [.int .i64 (x1)]) [.tmp 2] (by rfl) ⟨by (show lkE _ _ _ = _); kernel_rfl, trivial⟩ ?_
  exact ⟨rfl, hB⟩

set_option maxRecDepth 100000 in
/-- laws.FnBestClocks -/
theorem c_laws_FnBestClocks {w0 : World} {l0 : List (Int)} {A0 : Option Addr} {cap0 : Nat} {fp0 : List Nat} {l1 : List (Int)} {A1 : Option Addr} {cap1 : Nat} {fp1 : List Nat} {r : (Bool)} (hm : m_laws_FnBestClocks l0 l1 = some r) (F0 : Sl 1 encU w0 fp0 A0 l0) (F1 : Sl 1 encU w0 fp1 A1 l1) :
  Calls Try.prog 3 #[.slice A0 (l0).length cap0, .slice A1 (l1).length cap1] w0 fun e w' => e = .returned (.bool (r)) ∧ Chg [] w0 w' := by
 have L0 := F0.low
 have L1 := F1.low
 have hB : Chg [] w0 w0 := Chg.refl _ _
 have hZ := Nat.le_refl w0.heap.size
 unfold m_laws_FnBestClocks at hm
 refine enterE (N := 98) Try.func3 (by rfl) Try.ntmps3 (by simp) [(0, .slice A0 (l0).length cap0), (1, .slice A1 (l1).length cap1)] (by rfl) (by kernel_rfl) (fun a => ?_)
 refine cW_seq ?_
 refine cW_region ?_
 refine wS_pure 1 [(4, .bool (false))] (by kernel_rfl) ?_
 refine wS_end (by rfl) ?_
 refine eX_then ?_
 refine cW_seq ?_
 refine cW_seq ?_
 refine cW_region ?_
 refine wS_pure 2 [(20, .slice A1 (l1).length cap1), (19, .slice A0 (l0).length cap0)] (by kernel_rfl) ?_
 obtain ⟨y1, hy1, hm⟩ := bindE hm
 refine wS_calls (d := 21) (f := 5) (vs := [.slice A0 (l0).length cap0, .slice A1 (l1).length cap1]) (by kernel_rfl) ent5 (c_laws_r8Long hy1 F0 F1) ?_
 rintro _ w1 ⟨rfl, hc1⟩
 replace F0 := F0.chg hc1 Dj.nil
 replace F1 := F1.chg hc1 Dj.nil
 replace hB := hB.inS hc1 inNil
 replace hZ := Nat.le_trans hZ hc1.size
 refine ⟨.bool (y1), rfl, ?_⟩
 refine wS_end (by rfl) ?_
 refine eX_then ?_
 refine cW_cond (t := y1) (by kernel_rfl) (fun hb1 => ?_) (fun hb1 => ?_)
 ·have hm := condT hb1 hm
  refine cW_seq ?_
  refine cW_region ?_
  refine wS_pure 1 [(4, .bool (true))] (by kernel_rfl) ?_
  refine wS_end (by rfl) ?_
  refine eX_then ?_
  refine cW_ret ?_
  refine eX_then_ret ?_
  have hq : (some true : Option ((Bool))) = some _ := hm
  replace hq := someE hq
  subst hq
  refine eX_ret (vs := [.bool (true)]) [.tmp 4] (by rfl) ⟨by (show lkE _ _ _ = _); kernel_rfl, trivial⟩ ?_
  exact ⟨rfl, hB⟩
 ·have hm := condF hb1 hm
  refine cW_skip ?_
  refine eX_then ?_
  refine cW_seq ?_
  refine cW_region ?_
  refine wS_pure 1 [(22, .slice A0 (l0).length cap0)] (by kernel_rfl) ?_
  obtain ⟨y2, hy2, hm⟩ := bindE hm
  refine wS_calls (d := 23) (f := 6) (vs := [.slice A0 (l0).length cap0, .int .i64 (5)]) (by kernel_rfl) ent6 (c_spec_R8Pins hy2 F0) ?_
  rintro _ w2 ⟨A2, cap2, fp2, rfl, F2, G1, hc2⟩
  replace F0 := F0.chg hc2 Dj.nil
  replace F1 := F1.chg hc2 Dj.nil
  replace hB := hB.inS hc2 inNil
  replace G1 := low_le hZ G1
  replace hZ := Nat.le_trans hZ hc2.size
  refine ⟨.slice A2 (y2).length cap2, rfl, ?_⟩
  refine wS_pure 1 [(5, .slice A2 (y2).length cap2)] (by kernel_rfl) ?_
  refine wS_end (by rfl) ?_
  refine eX_then ?_
  refine cW_seq ?_
  refine cW_region ?_
  refine wS_pure 3 [(6, .int .i64 (((y2).length : Int))), (25, .int .i64 (((y2).length : Int))), (24, .slice A2 (y2).length cap2)] (by kernel_rfl) ?_
  refine wS_end (by rfl) ?_
  refine eX_then ?_
  refine cW_seq ?_
  refine cW_region ?_
  refine wS_pure 1 [(27, .slice A2 (y2).length cap2)] (by kernel_rfl) ?_
  obtain ⟨y3, hy3, hm⟩ := bindE hm
  refine wS_calls (d := 28) (f := 7) (vs := [.slice A2 (y2).length cap2]) (by kernel_rfl) ent7 (c_impl_BestJoins hy3 (F2.sl encII_ok)) ?_
  rintro _ w3 ⟨A3, cap3, fp3, fr1, rfl, F3, G2, hc3⟩
  have D1 : Dj fp2 (fp3 ++ fr1) := Dj.of F2.low G2
  replace F0 := F0.chg hc3 Dj.nil
  replace F1 := F1.chg hc3 Dj.nil
  replace F2 := F2.chg hc3 Dj.nil
  replace hB := hB.inS hc3 inNil
  replace G2 := low_le hZ G2
  replace hZ := Nat.le_trans hZ hc3.size
  refine ⟨.tuple #[.slice A3 (y3.1).length cap3, .int .i64 (y3.2.1), .bool (y3.2.2)], rfl, ?_⟩
  refine wS_pure 7 [(9, .bool (y3.2.2)), (8, .int .i64 (y3.2.1)), (7, .slice A3 (y3.1).length cap3), (31, .bool (y3.2.2)), (30, .int .i64 (y3.2.1)), (29, .slice A3 (y3.1).length cap3), (26, .tuple #[.slice A3 (y3.1).length cap3, .int .i64 (y3.2.1), .bool (y3.2.2)])] (by kernel_rfl) ?_
  refine wS_end (by rfl) ?_
  refine eX_then ?_
  refine cW_seq ?_
  refine cW_region ?_
  refine wS_pure 1 [(33, .slice A2 (y2).length cap2)] (by kernel_rfl) ?_
  obtain ⟨y4, hy4, hm⟩ := bindE hm
  refine wS_calls (d := 34) (f := 8) (vs := [.slice A2 (y2).length cap2]) (by kernel_rfl) ent8 (c_impl_NearestJoins hy4 (F2.sl encII_ok)) ?_
  rintro _ w4 ⟨A4, cap4, fp4, fr2, rfl, F4, G3, hc4⟩
  have D2 : Dj fp2 (fp4 ++ fr2) := Dj.of F2.low G3
  have D3 : Dj (fp3 ++ fr1) (fp4 ++ fr2) := Dj.of F3.low G3
  replace F0 := F0.chg hc4 Dj.nil
  replace F1 := F1.chg hc4 Dj.nil
  replace F2 := F2.chg hc4 Dj.nil
  replace F3 := F3.chg hc4 Dj.nil
  replace hB := hB.inS hc4 inNil
  replace G3 := low_le hZ G3
  replace hZ := Nat.le_trans hZ hc4.size
  refine ⟨.tuple #[.slice A4 (y4.1).length cap4, .bool (y4.2)], rfl, ?_⟩
  refine wS_pure 5 [(11, .bool (y4.2)), (10, .slice A4 (y4.1).length cap4), (36, .bool (y4.2)), (35, .slice A4 (y4.1).length cap4), (32, .tuple #[.slice A4 (y4.1).length cap4, .bool (y4.2)])] (by kernel_rfl) ?_
  refine wS_end (by rfl) ?_
  refine eX_then ?_
  refine cW_prune [(1, .slice A1 (l1).length cap1), (5, .slice A2 (y2).length cap2), (6, .int .i64 (((y2).length : Int))), (7, .slice A3 (y3.1).length cap3), (8, .int .i64 (y3.2.1)), (9, .bool (y3.2.2)), (10, .slice A4 (y4.1).length cap4), (11, .bool (y4.2))] (by kernel_rfl) (by kernel_rfl) (fun a1 => ?_)
  refine cW_seq ?_
  refine cW_region ?_
  refine wS_pure 2 [(38, .int .i64 (((y2).length : Int))), (37, .slice A1 (l1).length cap1)] (by kernel_rfl) ?_
  obtain ⟨y5, hy5, hm⟩ := bindE hm
  refine wS_calls (d := 39) (f := 9) (vs := [.slice A1 (l1).length cap1, .int .i64 (((y2).length : Int))]) (by kernel_rfl) ent9 (c_spec_R8Joins hy5 F1) ?_
  rintro _ w5 ⟨A5, cap5, fp5, fr3, rfl, F5, G4, hc5⟩
  have D4 : Dj fp2 (fp5 ++ fr3) := Dj.of F2.low G4
  have D5 : Dj (fp3 ++ fr1) (fp5 ++ fr3) := Dj.of F3.low G4
  have D6 : Dj (fp4 ++ fr2) (fp5 ++ fr3) := Dj.of F4.low G4
  replace F0 := F0.chg hc5 Dj.nil
  replace F1 := F1.chg hc5 Dj.nil
  replace F2 := F2.chg hc5 Dj.nil
  replace F3 := F3.chg hc5 Dj.nil
  replace F4 := F4.chg hc5 Dj.nil
  replace hB := hB.inS hc5 inNil
  replace G4 := low_le hZ G4
  replace hZ := Nat.le_trans hZ hc5.size
  refine ⟨.slice A5 (y5).length cap5, rfl, ?_⟩
  refine wS_pure 1 [(12, .slice A5 (y5).length cap5)] (by kernel_rfl) ?_
  refine wS_end (by rfl) ?_
  refine eX_then ?_
  refine cW_seq ?_
  refine cW_region ?_
  refine wS_pure 2 [(42, .slice A3 (y3.1).length cap3), (41, .slice A2 (y2).length cap2)] (by kernel_rfl) ?_
  obtain ⟨y6, hy6, hm⟩ := bindE hm
  refine wS_calls (d := 43) (f := 10) (vs := [.slice A2 (y2).length cap2, .slice A3 (y3.1).length cap3]) (by kernel_rfl) ent10 (c_impl_ClockWires hy6 (F2.sl encII_ok) (F3.slr encI_ok)) ?_
  rintro _ w6 ⟨A6, cap6, fp6, rfl, F6, G5, hc6⟩
  have D7 : Dj fp2 fp6 := Dj.of F2.low G5
  have D8 : Dj (fp3 ++ fr1) fp6 := Dj.of F3.low G5
  have D9 : Dj (fp4 ++ fr2) fp6 := Dj.of F4.low G5
  have D10 : Dj (fp5 ++ fr3) fp6 := Dj.of F5.low G5
  replace F0 := F0.chg hc6 Dj.nil
  replace F1 := F1.chg hc6 Dj.nil
  replace F2 := F2.chg hc6 Dj.nil
  replace F3 := F3.chg hc6 Dj.nil
  replace F4 := F4.chg hc6 Dj.nil
  replace F5 := F5.chg hc6 Dj.nil
  replace hB := hB.inS hc6 inNil
  replace G5 := low_le hZ G5
  replace hZ := Nat.le_trans hZ hc6.size
  refine ⟨.tuple #[.slice A6 (y6.1).length cap6, .bool (y6.2)], rfl, ?_⟩
  refine wS_pure 5 [(14, .bool (y6.2)), (13, .slice A6 (y6.1).length cap6), (45, .bool (y6.2)), (44, .slice A6 (y6.1).length cap6), (40, .tuple #[.slice A6 (y6.1).length cap6, .bool (y6.2)])] (by kernel_rfl) ?_
  refine wS_end (by rfl) ?_
  refine eX_then ?_
  refine cW_seq ?_
  refine cW_region ?_
  refine wS_pure 2 [(48, .slice A4 (y4.1).length cap4), (47, .slice A2 (y2).length cap2)] (by kernel_rfl) ?_
  obtain ⟨y7, hy7, hm⟩ := bindE hm
  refine wS_calls (d := 49) (f := 10) (vs := [.slice A2 (y2).length cap2, .slice A4 (y4.1).length cap4]) (by kernel_rfl) ent10 (c_impl_ClockWires hy7 (F2.sl encII_ok) (F4.slr encI_ok)) ?_
  rintro _ w7 ⟨A7, cap7, fp7, rfl, F7, G6, hc7⟩
  have D11 : Dj fp2 fp7 := Dj.of F2.low G6
  have D12 : Dj (fp3 ++ fr1) fp7 := Dj.of F3.low G6
  have D13 : Dj (fp4 ++ fr2) fp7 := Dj.of F4.low G6
  have D14 : Dj (fp5 ++ fr3) fp7 := Dj.of F5.low G6
  have D15 : Dj fp6 fp7 := Dj.of F6.low G6
  replace F0 := F0.chg hc7 Dj.nil
  replace F1 := F1.chg hc7 Dj.nil
  replace F2 := F2.chg hc7 Dj.nil
  replace F3 := F3.chg hc7 Dj.nil
  replace F4 := F4.chg hc7 Dj.nil
  replace F5 := F5.chg hc7 Dj.nil
  replace F6 := F6.chg hc7 Dj.nil
  replace hB := hB.inS hc7 inNil
  replace G6 := low_le hZ G6
  replace hZ := Nat.le_trans hZ hc7.size
  refine ⟨.tuple #[.slice A7 (y7.1).length cap7, .bool (y7.2)], rfl, ?_⟩
  refine wS_pure 5 [(16, .bool (y7.2)), (15, .slice A7 (y7.1).length cap7), (51, .bool (y7.2)), (50, .slice A7 (y7.1).length cap7), (46, .tuple #[.slice A7 (y7.1).length cap7, .bool (y7.2)])] (by kernel_rfl) ?_
  refine wS_end (by rfl) ?_
  refine eX_then ?_
  refine cW_prune [(5, .slice A2 (y2).length cap2), (6, .int .i64 (((y2).length : Int))), (8, .int .i64 (y3.2.1)), (9, .bool (y3.2.2)), (10, .slice A4 (y4.1).length cap4), (11, .bool (y4.2)), (12, .slice A5 (y5).length cap5), (13, .slice A6 (y6.1).length cap6), (14, .bool (y6.2)), (15, .slice A7 (y7.1).length cap7), (16, .bool (y7.2))] (by kernel_rfl) (by kernel_rfl) (fun a2 => ?_)
  refine cW_seq ?_
  refine cW_region ?_
  refine wS_pure 2 [(54, .slice A5 (y5).length cap5), (53, .slice A2 (y2).length cap2)] (by kernel_rfl) ?_
  obtain ⟨y8, hy8, hm⟩ := bindE hm
  refine wS_calls (d := 55) (f := 10) (vs := [.slice A2 (y2).length cap2, .slice A5 (y5).length cap5]) (by kernel_rfl) ent10 (c_impl_ClockWires hy8 (F2.sl encII_ok) (F5.slr encI_ok)) ?_
  rintro _ w8 ⟨A8, cap8, fp8, rfl, F8, G7, hc8⟩
  have D16 : Dj fp2 fp8 := Dj.of F2.low G7
  have D17 : Dj (fp3 ++ fr1) fp8 := Dj.of F3.low G7
  have D18 : Dj (fp4 ++ fr2) fp8 := Dj.of F4.low G7
  have D19 : Dj (fp5 ++ fr3) fp8 := Dj.of F5.low G7
  have D20 : Dj fp6 fp8 := Dj.of F6.low G7
  have D21 : Dj fp7 fp8 := Dj.of F7.low G7
  replace F0 := F0.chg hc8 Dj.nil
  replace F1 := F1.chg hc8 Dj.nil
  replace F2 := F2.chg hc8 Dj.nil
  replace F3 := F3.chg hc8 Dj.nil
  replace F4 := F4.chg hc8 Dj.nil
  replace F5 := F5.chg hc8 Dj.nil
  replace F6 := F6.chg hc8 Dj.nil
  replace F7 := F7.chg hc8 Dj.nil
  replace hB := hB.inS hc8 inNil
  replace G7 := low_le hZ G7
  replace hZ := Nat.le_trans hZ hc8.size
  refine ⟨.tuple #[.slice A8 (y8.1).length cap8, .bool (y8.2)], rfl, ?_⟩
  refine wS_pure 5 [(18, .bool (y8.2)), (17, .slice A8 (y8.1).length cap8), (57, .bool (y8.2)), (56, .slice A8 (y8.1).length cap8), (52, .tuple #[.slice A8 (y8.1).length cap8, .bool (y8.2)])] (by kernel_rfl) ?_
  refine wS_end (by rfl) ?_
  refine eX_then ?_
  refine cW_seq ?_
  refine cW_region ?_
  refine wS_pure 2 [(59, .bool (y3.2.2)), (58, .bool (y3.2.2))] (by kernel_rfl) ?_
  refine wS_bool y3.2.2 (fun hb2 => ?_) (fun hb2 => ?_)
  ·have hm := condT hb2 hm
   rewrite [hb2]
   refine wS_pure 3 [(62, .bool (y4.2)), (61, .bool (y4.2)), (60, .bool (y4.2))] (by kernel_rfl) ?_
   refine wS_bool y4.2 (fun hb3 => ?_) (fun hb3 => ?_)
   ·have hm := condT hb3 hm
    rewrite [hb3]
    refine wS_pure 3 [(65, .bool (y6.2)), (64, .bool (y6.2)), (63, .bool (y6.2))] (by kernel_rfl) ?_
    refine wS_bool y6.2 (fun hb4 => ?_) (fun hb4 => ?_)
    ·have hm := condT hb4 hm
     rewrite [hb4]
     refine wS_pure 3 [(68, .bool (y7.2)), (67, .bool (y7.2)), (66, .bool (y7.2))] (by kernel_rfl) ?_
     refine wS_bool y7.2 (fun hb5 => ?_) (fun hb5 => ?_)
     ·have hm := condT hb5 hm
      rewrite [hb5]
      refine wS_pure 3 [(71, .bool (y8.2)), (70, .bool (y8.2)), (69, .bool (y8.2))] (by kernel_rfl) ?_
      refine wS_bool y8.2 (fun hb6 => ?_) (fun hb6 => ?_)
      ·have hm := condT hb6 hm
       rewrite [hb6]
       refine wS_pure 1 [(72, .slice A6 (y6.1).length cap6)] (by kernel_rfl) ?_
       obtain ⟨y9, hy9, hm⟩ := bindE hm
       refine wS_calls (d := 73) (f := 11) (vs := [.slice A6 (y6.1).length cap6]) (by kernel_rfl) ent11 (c_laws_r8Sum hy9 (F6.sl encI_ok)) ?_
       rintro _ w9 ⟨rfl, hc9⟩
       replace F0 := F0.chg hc9 Dj.nil
       replace F1 := F1.chg hc9 Dj.nil
       replace F2 := F2.chg hc9 Dj.nil
       replace F3 := F3.chg hc9 Dj.nil
       replace F4 := F4.chg hc9 Dj.nil
       replace F5 := F5.chg hc9 Dj.nil
       replace F6 := F6.chg hc9 Dj.nil
       replace F7 := F7.chg hc9 Dj.nil
       replace F8 := F8.chg hc9 Dj.nil
       replace hB := hB.inS hc9 inNil
       replace hZ := Nat.le_trans hZ hc9.size
       refine ⟨.int .i64 (y9), rfl, ?_⟩
       refine wS_pure 4 [(77, .bool (y9 == y3.2.1)), (76, .bool (y9 == y3.2.1)), (75, .bool (y9 == y3.2.1)), (74, .int .i64 (y3.2.1))] (by kernel_rfl) ?_
       refine wS_bool (y9 == y3.2.1) (fun hb7 => ?_) (fun hb7 => ?_)
       ·have hm := condT hb7 hm
        rewrite [hb7]
        refine wS_pure 1 [(78, .slice A7 (y7.1).length cap7)] (by kernel_rfl) ?_
        obtain ⟨y10, hy10, hm⟩ := bindE hm
        refine wS_calls (d := 79) (f := 11) (vs := [.slice A7 (y7.1).length cap7]) (by kernel_rfl) ent11 (c_laws_r8Sum hy10 (F7.sl encI_ok)) ?_
        rintro _ w10 ⟨rfl, hc10⟩
        replace F0 := F0.chg hc10 Dj.nil
        replace F1 := F1.chg hc10 Dj.nil
        replace F2 := F2.chg hc10 Dj.nil
        replace F3 := F3.chg hc10 Dj.nil
        replace F4 := F4.chg hc10 Dj.nil
        replace F5 := F5.chg hc10 Dj.nil
        replace F6 := F6.chg hc10 Dj.nil
        replace F7 := F7.chg hc10 Dj.nil
        replace F8 := F8.chg hc10 Dj.nil
        replace hB := hB.inS hc10 inNil
        replace hZ := Nat.le_trans hZ hc10.size
        refine ⟨.int .i64 (y10), rfl, ?_⟩
        refine wS_pure 4 [(83, .bool (decide (y10 ≥ y3.2.1))), (82, .bool (decide (y10 ≥ y3.2.1))), (81, .bool (decide (y10 ≥ y3.2.1))), (80, .int .i64 (y3.2.1))] (by kernel_rfl) ?_
        refine wS_bool (decide (y10 ≥ y3.2.1)) (fun hb8 => ?_) (fun hb8 => ?_)
        ·have hm := condT hb8 hm
         rewrite [hb8]
         refine wS_pure 1 [(84, .slice A8 (y8.1).length cap8)] (by kernel_rfl) ?_
         obtain ⟨y11, hy11, hm⟩ := bindE hm
         refine wS_calls (d := 85) (f := 11) (vs := [.slice A8 (y8.1).length cap8]) (by kernel_rfl) ent11 (c_laws_r8Sum hy11 (F8.sl encI_ok)) ?_
         rintro _ w11 ⟨rfl, hc11⟩
         replace F0 := F0.chg hc11 Dj.nil
         replace F1 := F1.chg hc11 Dj.nil
         replace F2 := F2.chg hc11 Dj.nil
         replace F3 := F3.chg hc11 Dj.nil
         replace F4 := F4.chg hc11 Dj.nil
         replace F5 := F5.chg hc11 Dj.nil
         replace F6 := F6.chg hc11 Dj.nil
         replace F7 := F7.chg hc11 Dj.nil
         replace F8 := F8.chg hc11 Dj.nil
         replace hB := hB.inS hc11 inNil
         replace hZ := Nat.le_trans hZ hc11.size
         refine ⟨.int .i64 (y11), rfl, ?_⟩
         refine wS_pure 4 [(89, .bool (decide (y11 ≥ y3.2.1))), (88, .bool (decide (y11 ≥ y3.2.1))), (87, .bool (decide (y11 ≥ y3.2.1))), (86, .int .i64 (y3.2.1))] (by kernel_rfl) ?_
         refine wS_bool (decide (y11 ≥ y3.2.1)) (fun hb9 => ?_) (fun hb9 => ?_)
         ·have hm := condT hb9 hm
          rewrite [hb9]
          refine wS_pure 4 [(93, .bool (decide (y3.2.1 ≥ 0))), (92, .bool (decide (y3.2.1 ≥ 0))), (91, .bool (decide (y3.2.1 ≥ 0))), (90, .int .i64 (y3.2.1))] (by kernel_rfl) ?_
          refine wS_bool (decide (y3.2.1 ≥ 0)) (fun hb10 => ?_) (fun hb10 => ?_)
          ·have hm := condT hb10 hm
           rewrite [hb10]
           refine wS_pure 2 [(95, .slice A4 (y4.1).length cap4), (94, .int .i64 (((y2).length : Int)))] (by kernel_rfl) ?_
           obtain ⟨y12, hy12, hm⟩ := bindE hm
           refine wS_calls (d := 96) (f := 12) (vs := [.int .i64 (((y2).length : Int)), .slice A4 (y4.1).length cap4]) (by kernel_rfl) ent12 (c_impl_IsJoins hy12 (F4.slr encI_ok)) ?_
           rintro _ w12 ⟨rfl, hc12⟩
           replace F0 := F0.chg hc12 Dj.nil
           replace F1 := F1.chg hc12 Dj.nil
           replace F2 := F2.chg hc12 Dj.nil
           replace F3 := F3.chg hc12 Dj.nil
           replace F4 := F4.chg hc12 Dj.nil
           replace F5 := F5.chg hc12 Dj.nil
           replace F6 := F6.chg hc12 Dj.nil
           replace F7 := F7.chg hc12 Dj.nil
           replace F8 := F8.chg hc12 Dj.nil
           replace hB := hB.inS hc12 inNil
           replace hZ := Nat.le_trans hZ hc12.size
           refine ⟨.bool (y12), rfl, ?_⟩
           refine wS_pure 2 [(4, .bool (y12)), (97, .bool (y12))] (by kernel_rfl) ?_
           refine wS_end (by rfl) ?_
           refine eX_then ?_
           refine cW_prune [(4, .bool (y12))] (by kernel_rfl) (by kernel_rfl) (fun a3 => ?_)
           refine cW_ret ?_
           have hq : (some y12 : Option ((Bool))) = some _ := hm
           replace hq := someE hq
           subst hq
           refine eX_ret (vs := [.bool (y12)]) [.tmp 4] (by rfl) ⟨by (show lkE _ _ _ = _); kernel_rfl, trivial⟩ ?_
           exact ⟨rfl, hB⟩
          ·have hm := condF hb10 hm
           rewrite [hb10]
           refine wS_pure 5 [(4, .bool (false)), (97, .bool (false)), (96, undef), (95, undef), (94, undef)] (by kernel_rfl) ?_
           refine wS_end (by rfl) ?_
           refine eX_then ?_
           refine cW_prune [(4, .bool (false))] (by kernel_rfl) (by kernel_rfl) (fun a4 => ?_)
           refine cW_ret ?_
           have hq : (some false : Option ((Bool))) = some _ := hm
           replace hq := someE hq
           subst hq
           refine eX_ret (vs := [.bool (false)]) [.tmp 4] (by rfl) ⟨by (show lkE _ _ _ = _); kernel_rfl, trivial⟩ ?_
           exact ⟨rfl, hB⟩
         ·have hm := condF hb9 hm
          rewrite [hb9]
          refine wS_pure 9 [(4, .bool (false)), (97, .bool (false)), (96, undef), (95, undef), (94, undef), (93, .bool (false)), (92, .bool (false)), (91, undef), (90, undef)] (by kernel_rfl) ?_
          refine wS_end (by rfl) ?_
          refine eX_then ?_
          refine cW_prune [(4, .bool (false))] (by kernel_rfl) (by kernel_rfl) (fun a5 => ?_)
          refine cW_ret ?_
          have hq : (some false : Option ((Bool))) = some _ := hm
          replace hq := someE hq
          subst hq
          refine eX_ret (vs := [.bool (false)]) [.tmp 4] (by rfl) ⟨by (show lkE _ _ _ = _); kernel_rfl, trivial⟩ ?_
          exact ⟨rfl, hB⟩
        ·have hm := condF hb8 hm
         rewrite [hb8]
         refine wS_pure 15 [(4, .bool (false)), (97, .bool (false)), (96, undef), (95, undef), (94, undef), (93, .bool (false)), (92, .bool (false)), (91, undef), (90, undef), (89, .bool (false)), (88, .bool (false)), (87, undef), (86, undef), (85, undef), (84, undef)] (by kernel_rfl) ?_
         refine wS_end (by rfl) ?_
         refine eX_then ?_
         refine cW_prune [(4, .bool (false))] (by kernel_rfl) (by kernel_rfl) (fun a6 => ?_)
         refine cW_ret ?_
         have hq : (some false : Option ((Bool))) = some _ := hm
         replace hq := someE hq
         subst hq
         refine eX_ret (vs := [.bool (false)]) [.tmp 4] (by rfl) ⟨by (show lkE _ _ _ = _); kernel_rfl, trivial⟩ ?_
         exact ⟨rfl, hB⟩
       ·have hm := condF hb7 hm
        rewrite [hb7]
        refine wS_pure 21 [(4, .bool (false)), (97, .bool (false)), (96, undef), (95, undef), (94, undef), (93, .bool (false)), (92, .bool (false)), (91, undef), (90, undef), (89, .bool (false)), (88, .bool (false)), (87, undef), (86, undef), (85, undef), (84, undef), (83, .bool (false)), (82, .bool (false)), (81, undef), (80, undef), (79, undef), (78, undef)] (by kernel_rfl) ?_
        refine wS_end (by rfl) ?_
        refine eX_then ?_
        refine cW_prune [(4, .bool (false))] (by kernel_rfl) (by kernel_rfl) (fun a7 => ?_)
        refine cW_ret ?_
        have hq : (some false : Option ((Bool))) = some _ := hm
        replace hq := someE hq
        subst hq
        refine eX_ret (vs := [.bool (false)]) [.tmp 4] (by rfl) ⟨by (show lkE _ _ _ = _); kernel_rfl, trivial⟩ ?_
        exact ⟨rfl, hB⟩
      ·have hm := condF hb6 hm
       rewrite [hb6]
       refine wS_pure 27 [(4, .bool (false)), (97, .bool (false)), (96, undef), (95, undef), (94, undef), (93, .bool (false)), (92, .bool (false)), (91, undef), (90, undef), (89, .bool (false)), (88, .bool (false)), (87, undef), (86, undef), (85, undef), (84, undef), (83, .bool (false)), (82, .bool (false)), (81, undef), (80, undef), (79, undef), (78, undef), (77, .bool (false)), (76, .bool (false)), (75, undef), (74, undef), (73, undef), (72, undef)] (by kernel_rfl) ?_
       refine wS_end (by rfl) ?_
       refine eX_then ?_
       refine cW_prune [(4, .bool (false))] (by kernel_rfl) (by kernel_rfl) (fun a8 => ?_)
       refine cW_ret ?_
       have hq : (some false : Option ((Bool))) = some _ := hm
       replace hq := someE hq
       subst hq
       refine eX_ret (vs := [.bool (false)]) [.tmp 4] (by rfl) ⟨by (show lkE _ _ _ = _); kernel_rfl, trivial⟩ ?_
       exact ⟨rfl, hB⟩
     ·have hm := condF hb5 hm
      rewrite [hb5]
      refine wS_pure 30 [(4, .bool (false)), (97, .bool (false)), (96, undef), (95, undef), (94, undef), (93, .bool (false)), (92, .bool (false)), (91, undef), (90, undef), (89, .bool (false)), (88, .bool (false)), (87, undef), (86, undef), (85, undef), (84, undef), (83, .bool (false)), (82, .bool (false)), (81, undef), (80, undef), (79, undef), (78, undef), (77, .bool (false)), (76, .bool (false)), (75, undef), (74, undef), (73, undef), (72, undef), (71, .bool (false)), (70, .bool (false)), (69, undef)] (by kernel_rfl) ?_
      refine wS_end (by rfl) ?_
      refine eX_then ?_
      refine cW_prune [(4, .bool (false))] (by kernel_rfl) (by kernel_rfl) (fun a9 => ?_)
      refine cW_ret ?_
      have hq : (some false : Option ((Bool))) = some _ := hm
      replace hq := someE hq
      subst hq
      refine eX_ret (vs := [.bool (false)]) [.tmp 4] (by rfl) ⟨by (show lkE _ _ _ = _); kernel_rfl, trivial⟩ ?_
      exact ⟨rfl, hB⟩
    ·have hm := condF hb4 hm
     rewrite [hb4]
     refine wS_pure 33 [(4, .bool (false)), (97, .bool (false)), (96, undef), (95, undef), (94, undef), (93, .bool (false)), (92, .bool (false)), (91, undef), (90, undef), (89, .bool (false)), (88, .bool (false)), (87, undef), (86, undef), (85, undef), (84, undef), (83, .bool (false)), (82, .bool (false)), (81, undef), (80, undef), (79, undef), (78, undef), (77, .bool (false)), (76, .bool (false)), (75, undef), (74, undef), (73, undef), (72, undef), (71, .bool (false)), (70, .bool (false)), (69, undef), (68, .bool (false)), (67, .bool (false)), (66, undef)] (by kernel_rfl) ?_
     refine wS_end (by rfl) ?_
     refine eX_then ?_
     refine cW_prune [(4, .bool (false))] (by kernel_rfl) (by kernel_rfl) (fun a10 => ?_)
     refine cW_ret ?_
     have hq : (some false : Option ((Bool))) = some _ := hm
     replace hq := someE hq
     subst hq
     refine eX_ret (vs := [.bool (false)]) [.tmp 4] (by rfl) ⟨by (show lkE _ _ _ = _); kernel_rfl, trivial⟩ ?_
     exact ⟨rfl, hB⟩
   ·have hm := condF hb3 hm
    rewrite [hb3]
    refine wS_pure 36 [(4, .bool (false)), (97, .bool (false)), (96, undef), (95, undef), (94, undef), (93, .bool (false)), (92, .bool (false)), (91, undef), (90, undef), (89, .bool (false)), (88, .bool (false)), (87, undef), (86, undef), (85, undef), (84, undef), (83, .bool (false)), (82, .bool (false)), (81, undef), (80, undef), (79, undef), (78, undef), (77, .bool (false)), (76, .bool (false)), (75, undef), (74, undef), (73, undef), (72, undef), (71, .bool (false)), (70, .bool (false)), (69, undef), (68, .bool (false)), (67, .bool (false)), (66, undef), (65, .bool (false)), (64, .bool (false)), (63, undef)] (by kernel_rfl) ?_
    refine wS_end (by rfl) ?_
    refine eX_then ?_
    refine cW_prune [(4, .bool (false))] (by kernel_rfl) (by kernel_rfl) (fun a11 => ?_)
    refine cW_ret ?_
    have hq : (some false : Option ((Bool))) = some _ := hm
    replace hq := someE hq
    subst hq
    refine eX_ret (vs := [.bool (false)]) [.tmp 4] (by rfl) ⟨by (show lkE _ _ _ = _); kernel_rfl, trivial⟩ ?_
    exact ⟨rfl, hB⟩
  ·have hm := condF hb2 hm
   rewrite [hb2]
   refine wS_pure 39 [(4, .bool (false)), (97, .bool (false)), (96, undef), (95, undef), (94, undef), (93, .bool (false)), (92, .bool (false)), (91, undef), (90, undef), (89, .bool (false)), (88, .bool (false)), (87, undef), (86, undef), (85, undef), (84, undef), (83, .bool (false)), (82, .bool (false)), (81, undef), (80, undef), (79, undef), (78, undef), (77, .bool (false)), (76, .bool (false)), (75, undef), (74, undef), (73, undef), (72, undef), (71, .bool (false)), (70, .bool (false)), (69, undef), (68, .bool (false)), (67, .bool (false)), (66, undef), (65, .bool (false)), (64, .bool (false)), (63, undef), (62, .bool (false)), (61, .bool (false)), (60, undef)] (by kernel_rfl) ?_
   refine wS_end (by rfl) ?_
   refine eX_then ?_
   refine cW_prune [(4, .bool (false))] (by kernel_rfl) (by kernel_rfl) (fun a12 => ?_)
   refine cW_ret ?_
   have hq : (some false : Option ((Bool))) = some _ := hm
   replace hq := someE hq
   subst hq
   refine eX_ret (vs := [.bool (false)]) [.tmp 4] (by rfl) ⟨by (show lkE _ _ _ = _); kernel_rfl, trivial⟩ ?_
   exact ⟨rfl, hB⟩

end Go.Proofs.Ytfjpfomdoohabaa
