/- Printed walks: impl.NearestPoint, impl.DistanceOf, laws.b10Abs, laws.b10Far, laws.FnPoints. -/
import Derived.Test.YtpfipmomchgdaaaGreatDoorProg
import Derived.Test.YtpfipmomchgdaaaGreatDoorWPn01
set_option linter.unusedSimpArgs false
set_option linter.unusedVariables false
namespace Go.Proofs.YtpfipmomchgdaaaGreatDoor
open Go.RowKit
attribute [local irreducible] wS cW eX wH

theorem ent4 : Ent Tryz.prog 4 := fun _ => by kernel_rfl
theorem ent5 : Ent Tryz.prog 5 := fun _ => by kernel_rfl
theorem ent6 : Ent Tryz.prog 6 := fun _ => by kernel_rfl
theorem ent7 : Ent Tryz.prog 7 := fun _ => by kernel_rfl
theorem ent8 : Ent Tryz.prog 8 := fun _ => by kernel_rfl
theorem ent9 : Ent Tryz.prog 9 := fun _ => by kernel_rfl
theorem ent11 : Ent Tryz.prog 11 := fun _ => by kernel_rfl
theorem ent12 : Ent Tryz.prog 12 := fun _ => by kernel_rfl
theorem ent13 : Ent Tryz.prog 13 := fun _ => by kernel_rfl
theorem ent14 : Ent Tryz.prog 14 := fun _ => by kernel_rfl
theorem ent15 : Ent Tryz.prog 15 := fun _ => by kernel_rfl
theorem ent16 : Ent Tryz.prog 16 := fun _ => by kernel_rfl
theorem ent30 : Ent Tryz.prog 30 := fun _ => by kernel_rfl
theorem ent31 : Ent Tryz.prog 31 := fun _ => by kernel_rfl

set_option maxRecDepth 100000 in
/-- impl.NearestPoint -/
theorem c_impl_NearestPoint {w0 : World} {l0 : List (Int × Int)} {A0 : Option Addr} {cap0 : Nat} {fp0 : List Nat} {p1_0 : Int} {p1_1 : Int} {r : (Int) × (Bool)} (hm : m_impl_NearestPoint l0 p1_0 p1_1 = some r) (F0 : Sl 2 encII w0 fp0 A0 l0) :
  Calls Tryz.prog 14 #[.slice A0 (l0).length cap0, .agg #[.int .i64 (p1_0), .int .i64 (p1_1)]] w0 fun e w' => e = .returned (.tuple #[.int .i64 (r.1), .bool (r.2)]) ∧ Chg [] w0 w' := by
 have L0 := F0.low
 have hB : Chg [] w0 w0 := Chg.refl _ _
 have hZ := Nat.le_refl w0.heap.size
 unfold m_impl_NearestPoint at hm
 refine enterE (N := 42) Tryz.func14 (by rfl) Tryz.ntmps14 (by simp) [(0, .slice A0 (l0).length cap0), (1, .agg #[.int .i64 (p1_0), .int .i64 (p1_1)])] (by rfl) (by kernel_rfl) (fun a => ?_)
 refine cW_seq ?_
 refine cW_region ?_
 refine wS_box (d := 3) (T := 27) (x := .agg #[.int .i64 (p1_0), .int .i64 (p1_1)]) (by kernel_rfl) ?_
 intro b1 w1 G1 F1 hc1
 replace F1 : Cl w1 b1 27 [.int .i64 (p1_0), .int .i64 (p1_1)] := F1
 replace F0 := F0.chg hc1 Dj.nil
 replace hB := hB.inS hc1 inNil
 replace G1 := Nat.le_trans hZ G1
 replace hZ := Nat.le_trans hZ hc1.size
 refine wS_pure 2 [(5, .bool (false)), (4, .int .i64 (0))] (by kernel_rfl) ?_
 refine wS_end (by rfl) ?_
 refine eX_then ?_
 refine cW_seq ?_
 refine cW_seq ?_
 refine cW_region ?_
 refine wS_pure 1 [(9, .slice A0 (l0).length cap0)] (by kernel_rfl) ?_
 obtain ⟨y1, hy1, hm⟩ := bindE hm
 refine wS_calls (d := 10) (f := 10) (vs := [.slice A0 (l0).length cap0]) (by kernel_rfl) ent10 (c_impl_ArePoints hy1 F0) ?_
 rintro _ w2 ⟨rfl, hc2⟩
 replace F0 := F0.chg hc2 Dj.nil
 replace F1 := F1.chg hc2 notNil
 replace hB := hB.inS hc2 inNil
 replace hZ := Nat.le_trans hZ hc2.size
 refine ⟨.bool (y1), rfl, ?_⟩
 refine wS_pure 2 [(12, .bool (!y1)), (11, .bool (!y1))] (by kernel_rfl) ?_
 refine wS_bool (!y1) (fun hb1 => ?_) (fun hb1 => ?_)
 ·have hm := condT hb1 hm
  rewrite [hb1]
  refine wS_pure 9 [(21, .bool (true)), (20, undef), (19, undef), (18, undef), (17, .bool (true)), (16, .bool (true)), (15, undef), (14, undef), (13, undef)] (by kernel_rfl) ?_
  refine wS_end (by rfl) ?_
  refine eX_then ?_
  refine cW_cond_t (by kernel_rfl) ?_
  refine cW_seq ?_
  refine cW_region ?_
  refine wS_pure 2 [(5, .bool (false)), (4, .int .i64 (0))] (by kernel_rfl) ?_
  refine wS_end (by rfl) ?_
  refine eX_then ?_
  refine cW_ret ?_
  refine eX_then_ret ?_
  have hq : (some ((0, false)) : Option ((Int) × (Bool))) = some _ := hm
  replace hq := someE hq
  subst hq
  refine eX_ret (vs := [.int .i64 (0), .bool (false)]) [.tmp 4, .tmp 5] (by rfl) ⟨by (show lkE _ _ _ = _); kernel_rfl, ⟨by (show lkE _ _ _ = _); kernel_rfl, trivial⟩⟩ ?_
  exact ⟨rfl, hB⟩
 ·have hm := condF hb1 hm
  rewrite [hb1]
  refine wS_pure 5 [(17, .bool ((((l0).length : Int)) == 0)), (16, .bool ((((l0).length : Int)) == 0)), (15, .bool ((((l0).length : Int)) == 0)), (14, .int .i64 (((l0).length : Int))), (13, .slice A0 (l0).length cap0)] (by kernel_rfl) ?_
  refine wS_bool ((((l0).length : Int)) == 0) (fun hb2 => ?_) (fun hb2 => ?_)
  ·have hm := condT hb2 hm
   rewrite [hb2]
   refine wS_pure 4 [(21, .bool (true)), (20, undef), (19, undef), (18, undef)] (by kernel_rfl) ?_
   refine wS_end (by rfl) ?_
   refine eX_then ?_
   refine cW_cond_t (by kernel_rfl) ?_
   refine cW_seq ?_
   refine cW_region ?_
   refine wS_pure 2 [(5, .bool (false)), (4, .int .i64 (0))] (by kernel_rfl) ?_
   refine wS_end (by rfl) ?_
   refine eX_then ?_
   refine cW_ret ?_
   refine eX_then_ret ?_
   have hq : (some ((0, false)) : Option ((Int) × (Bool))) = some _ := hm
   replace hq := someE hq
   subst hq
   refine eX_ret (vs := [.int .i64 (0), .bool (false)]) [.tmp 4, .tmp 5] (by rfl) ⟨by (show lkE _ _ _ = _); kernel_rfl, ⟨by (show lkE _ _ _ = _); kernel_rfl, trivial⟩⟩ ?_
   exact ⟨rfl, hB⟩
  ·have hm := condF hb2 hm
   rewrite [hb2]
   refine wS_loadA (d := 18) (T := 27) (ad := ⟨b1, 0, none⟩) (vs := [.int .i64 (p1_0), .int .i64 (p1_1)]) (by kernel_rfl) vt27 (fun i u hu => box_cells F1 0 hu (by rfl)) ?_
   obtain ⟨y2, hy2, hm⟩ := bindE hm
   refine wS_calls (d := 19) (f := 29) (vs := [.agg #[.int .i64 (p1_0), .int .i64 (p1_1)]]) (by kernel_rfl) ent29 (c_impl_IsPoint hy2) ?_
   rintro _ w3 ⟨rfl, hc3⟩
   replace F0 := F0.chg hc3 Dj.nil
   replace F1 := F1.chg hc3 notNil
   replace hB := hB.inS hc3 inNil
   replace hZ := Nat.le_trans hZ hc3.size
   refine ⟨.bool (y2), rfl, ?_⟩
   refine wS_pure 2 [(21, .bool (!y2)), (20, .bool (!y2))] (by kernel_rfl) ?_
   refine wS_end (by rfl) ?_
   refine eX_then ?_
   refine cW_cond (t := !y2) (by kernel_rfl) (fun hb3 => ?_) (fun hb3 => ?_)
   ·have hm := condT hb3 hm
    refine cW_seq ?_
    refine cW_region ?_
    refine wS_pure 2 [(5, .bool (false)), (4, .int .i64 (0))] (by kernel_rfl) ?_
    refine wS_end (by rfl) ?_
    refine eX_then ?_
    refine cW_ret ?_
    refine eX_then_ret ?_
    have hq : (some ((0, false)) : Option ((Int) × (Bool))) = some _ := hm
    replace hq := someE hq
    subst hq
    refine eX_ret (vs := [.int .i64 (0), .bool (false)]) [.tmp 4, .tmp 5] (by rfl) ⟨by (show lkE _ _ _ = _); kernel_rfl, ⟨by (show lkE _ _ _ = _); kernel_rfl, trivial⟩⟩ ?_
    exact ⟨rfl, hB⟩
   ·have hm := condF hb3 hm
    refine cW_skip ?_
    refine eX_then ?_
    refine cW_seq ?_
    refine cW_region ?_
    refine wS_pure 1 [(6, .int .i64 (0))] (by kernel_rfl) ?_
    refine wS_end (by rfl) ?_
    refine eX_then ?_
    refine cW_seq ?_
    refine cW_seq ?_
    refine cW_region ?_
    refine wS_pure 3 [(24, .int .i64 (0)), (23, .int .i64 (((l0).length : Int))), (22, .slice A0 (l0).length cap0)] (by kernel_rfl) ?_
    refine wS_end (by rfl) ?_
    refine eX_then ?_
    obtain ⟨r1, hr1, hm⟩ := bindE hm
    have hm1 := hm
    refine cW_cut (fun a' w' => ∃ x1 : Int, x1 = r1 ∧ Fr 42 [(6, .int .i64 (x1))] a' ∧ Chg [] w0 w' ∧ w0.heap.size ≤ w'.heap.size) ?_ ?_
    ·refine cW_block ?_
     refine cW_loop _ (fun (s1 : Int × Int) a' w' => ∃ x2 : Int, ∃ x3 : Int, (x2, x3) = s1 ∧ Fr 42 [(0, .slice A0 (l0).length cap0), (3, .pointer (some ⟨b1, 0, none⟩)), (6, .int .i64 (x3)), (22, .slice A0 (l0).length cap0), (23, .int .i64 (((l0).length : Int))), (24, .int .i64 (x2))] a' ∧ Sl 2 encII w' fp0 A0 l0 ∧ Cl w' b1 27 [.int .i64 (p1_0), .int .i64 (p1_1)] ∧ Chg [] w0 w' ∧ w0.heap.size ≤ w'.heap.size) hr1 (fun hst => ⟨0, 0, rfl, Fr.of hst (by kernel_rfl), F0, F1, hB, hZ⟩) ?_
     rintro _ c1 a' w4 ⟨x2, x3, rfl, hF1, F2, F3, hB, hZ⟩ hx1
     refine Fr.goOn hF1 (by kernel_rfl) ?_
     have hm := hx1
     unfold m_impl_NearestPoint_s1 at hm
     refine cW_seq ?_
     refine cW_region ?_
     refine wS_pure 1 [(25, .bool (decide (x2 < (((l0).length : Int)))))] (by kernel_rfl) ?_
     refine wS_end (by rfl) ?_
     refine eX_then ?_
     refine cW_seq ?_
     refine cW_cond (t := decide (x2 < (((l0).length : Int)))) (by kernel_rfl) (fun hb4 => ?_) (fun hb4 => ?_)
     ·have hm := condT hb4 hm
      refine cW_skip ?_
      refine eX_then ?_
      refine cW_seq ?_
      refine cW_block ?_
      obtain ⟨s2, hs1, hm⟩ := bindE hm
      refine cW_cut (fun a' w' => ∃ x4 : Int, x4 = s2 ∧ Fr 42 [(0, .slice A0 (l0).length cap0), (3, .pointer (some ⟨b1, 0, none⟩)), (6, .int .i64 (x4)), (22, .slice A0 (l0).length cap0), (23, .int .i64 (((l0).length : Int))), (24, .int .i64 (x2))] a' ∧ Sl 2 encII w' fp0 A0 l0 ∧ Cl w' b1 27 [.int .i64 (p1_0), .int .i64 (p1_1)] ∧ Chg [] w0 w' ∧ w0.heap.size ≤ w'.heap.size) ?_ ?_
      ·have hm := hs1
       refine cW_seq ?_
       refine cW_region ?_
       refine wS_pure 1 [(26, .int .i64 (x2))] (by kernel_rfl) ?_
       obtain ⟨x5, hx2, hm⟩ := bindE hm
       refine wS_idx (d := 27) (T := 24) (A := A0) (n := (l0).length) (cap := cap0) (kd := .i64) (m := x2) (by kernel_rfl) sl24 (F2.is hx2) ?_
       refine wS_loadA (d := 28) (T := 27) (ad := (elA A0 2 (x2) 0)) (vs := [.int .i64 (x5.1), .int .i64 (x5.2)]) (by kernel_rfl) vt27 (fun i u hu => Sl.cells_at F2 hx2 0 hu (by rfl)) ?_
       refine wS_alloc (d := 8) (T := 27) (z := .agg #[.int .i64 (0), .int .i64 (0)]) (by kernel_rfl) (by kernel_rfl) ?_
       intro b2 w5 G2 F4 hc4
       replace F4 : Cl w5 b2 27 [.int .i64 (0), .int .i64 (0)] := F4
       have D1 : Dj [b1] [b2] := Dj.of (lt1 F3.lt) (low1 G2)
       replace F2 := F2.chg hc4 Dj.nil
       replace F3 := F3.chg hc4 notNil
       replace hB := hB.inS hc4 inNil
       replace G2 := Nat.le_trans hZ G2
       replace hZ := Nat.le_trans hZ hc4.size
       refine wS_pure 1 [(7, .int .i64 (x2))] (by kernel_rfl) ?_
       refine wS_store (T := 27) (g := b2) (o := 0) (ad := ⟨b2, 0, none⟩) (v := .agg #[.int .i64 (x5.1), .int .i64 (x5.2)]) (vs := [.int .i64 (x5.1), .int .i64 (x5.2)]) (by kernel_rfl) (by rfl) sz27 (by rfl) (by rfl) F4 (by simp only [List.length_cons, List.length_nil]; omega) ?_
       intro w6 F5 hc5
       replace F2 := F2.chg hc5 (Dj.of L0 (low1 G2))
       replace F3 := F3.chg hc5 (dj1 D1)
       replace hB := hB.inS hc5 (inLow (low1 G2))
       replace hZ := Nat.le_trans hZ hc5.size
       replace F5 : Cl w6 b2 27 [.int .i64 (x5.1), .int .i64 (x5.2)] := F5
       clear F4
       refine wS_end (by rfl) ?_
       refine eX_then ?_
       refine cW_seq ?_
       refine cW_drawnTail [] 8 (by kernel_rfl) (by kernel_rfl) (fun w7 hc6 => ?_)
       replace F2 := F2.chg hc6 Dj.nil
       replace F3 := F3.chg hc6 notNil
       replace F5 := F5.chg hc6 notNil
       replace hB := hB.inS hc6 inNil
       replace hZ := Nat.le_trans hZ hc6.size
       have hS := Chg.refl [] w7
       have Z1 := F2
       have Z2 := F3
       have Z3 := F5
       refine wH_loadA (i := 0) (d := 29) (T := 27) (ad := ⟨b1, 0, none⟩) (vs := [.int .i64 (p1_0), .int .i64 (p1_1)]) (by kernel_rfl) (qT (qT (qT (qB (qT (qL (qB (qT (qT qZ))))))))) (by kernel_rfl) (by kernel_rfl) vt27 (fun W hW i u hu => box_cells (Z2.chg hW notNil) 0 hu (by rfl)) ?_
       refine wH_loadA (i := 1) (d := 30) (T := 27) (ad := ⟨b2, 0, none⟩) (vs := [.int .i64 (x5.1), .int .i64 (x5.2)]) (by kernel_rfl) (qT (qT (qT (qB (qT (qL (qB (qT (qT qZ))))))))) (by kernel_rfl) (by kernel_rfl) vt27 (fun W hW i u hu => box_cells (Z3.chg hW notNil) 0 hu (by rfl)) ?_
       refine wH_loadA (i := 3) (d := 32) (T := 27) (ad := ⟨b1, 0, none⟩) (vs := [.int .i64 (p1_0), .int .i64 (p1_1)]) (by kernel_rfl) (qT (qT (qT (qB (qT (qL (qB (qT (qT qZ))))))))) (by kernel_rfl) (by kernel_rfl) vt27 (fun W hW i u hu => box_cells (Z2.chg hW notNil) 0 hu (by rfl)) ?_
       refine wH_take [4, 5] [5, 4, 3, 1, 0] [(34, .int .i64 (x3)), (33, .slice A0 (l0).length cap0)] (by kernel_rfl) (qT (qT (qT (qB (qT (qL (qB (qT (qT qZ))))))))) (by kernel_rfl) ?_
       obtain ⟨x6, hx3, hm⟩ := bindE hm
       refine wH_idx (i := 6) (d := 35) (T := 24) (A := A0) (n := (l0).length) (cap := cap0) (kd := .i64) (m := x3) (by kernel_rfl) (qT (qT (qT (qB (qT (qL (qB (qT (qT qZ))))))))) (by kernel_rfl) (by kernel_rfl) sl24 (F2.is hx3) ?_
       refine wH_loadA (i := 7) (d := 36) (T := 27) (ad := (elA A0 2 (x3) 0)) (vs := [.int .i64 (x6.1), .int .i64 (x6.2)]) (by kernel_rfl) (qT (qT (qT (qB (qT (qL (qB (qT (qT qZ))))))))) (by kernel_rfl) (by kernel_rfl) vt27 (fun W hW i u hu => Sl.cells_at (Z1.chg hW Dj.nil) hx3 0 hu (by rfl)) ?_
       refine wH_all [2] (by rfl) (by kernel_rfl) (by simp) ⟨⟨by kernel_rfl, ?_⟩, trivial⟩
       obtain ⟨y3, hy3, hm⟩ := bindE hm
       refine wS_calls (d := 31) (f := 30) (vs := [.agg #[.int .i64 (p1_0), .int .i64 (p1_1)], .agg #[.int .i64 (x5.1), .int .i64 (x5.2)]]) (by kernel_rfl) ent30 (c_impl_far hy3) ?_
       rintro _ w8 ⟨rfl, hc7⟩
       replace F2 := F2.chg hc7 Dj.nil
       replace F3 := F3.chg hc7 notNil
       replace F5 := F5.chg hc7 notNil
       replace hB := hB.inS hc7 inNil
       have hSz := hS
       replace hS := hS.inS hc7 inNil
       replace hZ := Nat.le_trans hZ hc7.size
       refine ⟨.int .i64 (y3), rfl, ?_⟩
       refine wS_end (by kernel_rfl) ?_
       refine eX_KH hS ?_
       refine wH_done (by kernel_rfl) ?_
       refine eX_tail ?_
       obtain ⟨y4, hy4, hm⟩ := bindE hm
       refine wS_calls (d := 37) (f := 30) (vs := [.agg #[.int .i64 (p1_0), .int .i64 (p1_1)], .agg #[.int .i64 (x6.1), .int .i64 (x6.2)]]) (by kernel_rfl) ent30 (c_impl_far hy4) ?_
       rintro _ w9 ⟨rfl, hc8⟩
       replace F2 := F2.chg hc8 Dj.nil
       replace F3 := F3.chg hc8 notNil
       replace F5 := F5.chg hc8 notNil
       replace hB := hB.inS hc8 inNil
       replace hZ := Nat.le_trans hZ hc8.size
       refine ⟨.int .i64 (y4), rfl, ?_⟩
       refine wS_pure 1 [(38, .bool (decide (y3 < y4)))] (by kernel_rfl) ?_
       refine wS_end (by rfl) ?_
       refine eX_then ?_
       refine cW_cond (t := decide (y3 < y4)) (by kernel_rfl) (fun hb5 => ?_) (fun hb5 => ?_)
       ·have hm := condT hb5 hm
        refine cW_region ?_
        refine wS_pure 2 [(6, .int .i64 (x2)), (39, .int .i64 (x2))] (by kernel_rfl) ?_
        refine wS_end (by rfl) ?_
        have hq : (some x2 : Option (Int)) = some _ := hm
        replace hq := someE hq
        subst hq
        exact eX_J (fun hst => ⟨x2, rfl, Fr.of hst (by kernel_rfl), F2, F3, hB, hZ⟩)
       ·have hm := condF hb5 hm
        refine cW_skip ?_
        have hq : (some x3 : Option (Int)) = some _ := hm
        replace hq := someE hq
        subst hq
        exact eX_J (fun hst => ⟨x3, rfl, Fr.of hst (by kernel_rfl), F2, F3, hB, hZ⟩)
      ·rintro a' w10 ⟨x4, hJ, hF2, F6, F7, hB, hZ⟩
       subst hJ
       refine Fr.goX hF2 (by kernel_rfl) ?_
       refine eX_block ?_
       refine eX_then ?_
       refine cW_region ?_
       refine wS_pure 2 [(24, .int .i64 (wr (x2 + 1))), (40, .int .i64 (wr (x2 + 1)))] (by kernel_rfl) ?_
       refine wS_end (by rfl) ?_
       have hq : (some (Ctl.next ((wr (x2 + 1), x4))) : Option (Ctl (Int × Int) (Int))) = some _ := hm
       replace hq := someE hq
       subst hq
       exact eX_next hx1 (fun hst => ⟨wr (x2 + 1), x4, rfl, Fr.of hst (by kernel_rfl), F6, F7, hB, hZ⟩)
     ·have hm := condF hb4 hm
      refine cW_exit ?_
      refine eX_then_exit ?_
      have hq : (some (Ctl.out x3) : Option (Ctl (Int × Int) (Int))) = some _ := hm
      replace hq := someE hq
      subst hq
      refine eX_outX hx1 (fun hr2 => ?_)
      replace hr2 := hr2.symm
      subst hr2
      refine eX_block_hit ?_
      exact eX_J (fun hst => ⟨x3, rfl, Fr.of hst (by kernel_rfl), hB, hZ⟩)
    ·rintro a' w11 ⟨x1, hJ, hF3, hB, hZ⟩
     subst hJ
     refine Fr.goX hF3 (by kernel_rfl) ?_
     refine eX_then ?_
     refine cW_seq ?_
     refine cW_region ?_
     refine wS_pure 3 [(5, .bool (true)), (4, .int .i64 (x1)), (41, .int .i64 (x1))] (by kernel_rfl) ?_
     refine wS_end (by rfl) ?_
     refine eX_then ?_
     refine cW_ret ?_
     have hq : (some ((x1, true)) : Option ((Int) × (Bool))) = some _ := hm
     replace hq := someE hq
     subst hq
     refine eX_ret (vs := [.int .i64 (x1), .bool (true)]) [.tmp 4, .tmp 5] (by rfl) ⟨by (show lkE _ _ _ = _); kernel_rfl, ⟨by (show lkE _ _ _ = _); kernel_rfl, trivial⟩⟩ ?_
     exact ⟨rfl, hB⟩

set_option maxRecDepth 100000 in
/-- impl.DistanceOf -/
theorem c_impl_DistanceOf {w0 : World} {p0_0 : Int} {p0_1 : Int} {p1_0 : Int} {p1_1 : Int} {r : (Int) × (Bool)} (hm : m_impl_DistanceOf p0_0 p0_1 p1_0 p1_1 = some r)  :
  Calls Tryz.prog 15 #[.agg #[.int .i64 (p0_0), .int .i64 (p0_1)], .agg #[.int .i64 (p1_0), .int .i64 (p1_1)]] w0 fun e w' => e = .returned (.tuple #[.int .i64 (r.1), .bool (r.2)]) ∧ Chg [] w0 w' := by
 have hB : Chg [] w0 w0 := Chg.refl _ _
 have hZ := Nat.le_refl w0.heap.size
 unfold m_impl_DistanceOf at hm
 refine enterE (N := 17) Tryz.func15 (by rfl) Tryz.ntmps15 (by simp) [(0, .agg #[.int .i64 (p0_0), .int .i64 (p0_1)]), (1, .agg #[.int .i64 (p1_0), .int .i64 (p1_1)])] (by rfl) (by kernel_rfl) (fun a => ?_)
 refine cW_seq ?_
 refine cW_region ?_
 refine wS_box (d := 2) (T := 27) (x := .agg #[.int .i64 (p0_0), .int .i64 (p0_1)]) (by kernel_rfl) ?_
 intro b1 w1 G1 F1 hc1
 replace F1 : Cl w1 b1 27 [.int .i64 (p0_0), .int .i64 (p0_1)] := F1
 replace hB := hB.inS hc1 inNil
 replace G1 := Nat.le_trans hZ G1
 replace hZ := Nat.le_trans hZ hc1.size
 refine wS_box (d := 3) (T := 27) (x := .agg #[.int .i64 (p1_0), .int .i64 (p1_1)]) (by kernel_rfl) ?_
 intro b2 w2 G2 F2 hc2
 replace F2 : Cl w2 b2 27 [.int .i64 (p1_0), .int .i64 (p1_1)] := F2
 have D1 : Dj [b1] [b2] := Dj.of (lt1 F1.lt) (low1 G2)
 replace F1 := F1.chg hc2 notNil
 replace hB := hB.inS hc2 inNil
 replace G2 := Nat.le_trans hZ G2
 replace hZ := Nat.le_trans hZ hc2.size
 refine wS_pure 2 [(5, .bool (false)), (4, .int .i64 (0))] (by kernel_rfl) ?_
 refine wS_end (by rfl) ?_
 refine eX_then ?_
 refine cW_seq ?_
 refine cW_seq ?_
 refine cW_region ?_
 refine wS_loadA (d := 6) (T := 27) (ad := ⟨b1, 0, none⟩) (vs := [.int .i64 (p0_0), .int .i64 (p0_1)]) (by kernel_rfl) vt27 (fun i u hu => box_cells F1 0 hu (by rfl)) ?_
 obtain ⟨y1, hy1, hm⟩ := bindE hm
 refine wS_calls (d := 7) (f := 29) (vs := [.agg #[.int .i64 (p0_0), .int .i64 (p0_1)]]) (by kernel_rfl) ent29 (c_impl_IsPoint hy1) ?_
 rintro _ w3 ⟨rfl, hc3⟩
 replace F1 := F1.chg hc3 notNil
 replace F2 := F2.chg hc3 notNil
 replace hB := hB.inS hc3 inNil
 replace hZ := Nat.le_trans hZ hc3.size
 refine ⟨.bool (y1), rfl, ?_⟩
 refine wS_pure 2 [(9, .bool (!y1)), (8, .bool (!y1))] (by kernel_rfl) ?_
 refine wS_bool (!y1) (fun hb1 => ?_) (fun hb1 => ?_)
 ·have hm := condT hb1 hm
  rewrite [hb1]
  refine wS_pure 4 [(13, .bool (true)), (12, undef), (11, undef), (10, undef)] (by kernel_rfl) ?_
  refine wS_end (by rfl) ?_
  refine eX_then ?_
  refine cW_cond_t (by kernel_rfl) ?_
  refine cW_seq ?_
  refine cW_region ?_
  refine wS_pure 2 [(5, .bool (false)), (4, .int .i64 (0))] (by kernel_rfl) ?_
  refine wS_end (by rfl) ?_
  refine eX_then ?_
  refine cW_ret ?_
  refine eX_then_ret ?_
  have hq : (some ((0, false)) : Option ((Int) × (Bool))) = some _ := hm
  replace hq := someE hq
  subst hq
  refine eX_ret (vs := [.int .i64 (0), .bool (false)]) [.tmp 4, .tmp 5] (by rfl) ⟨by (show lkE _ _ _ = _); kernel_rfl, ⟨by (show lkE _ _ _ = _); kernel_rfl, trivial⟩⟩ ?_
  exact ⟨rfl, hB⟩
 ·have hm := condF hb1 hm
  rewrite [hb1]
  refine wS_loadA (d := 10) (T := 27) (ad := ⟨b2, 0, none⟩) (vs := [.int .i64 (p1_0), .int .i64 (p1_1)]) (by kernel_rfl) vt27 (fun i u hu => box_cells F2 0 hu (by rfl)) ?_
  obtain ⟨y2, hy2, hm⟩ := bindE hm
  refine wS_calls (d := 11) (f := 29) (vs := [.agg #[.int .i64 (p1_0), .int .i64 (p1_1)]]) (by kernel_rfl) ent29 (c_impl_IsPoint hy2) ?_
  rintro _ w4 ⟨rfl, hc4⟩
  replace F1 := F1.chg hc4 notNil
  replace F2 := F2.chg hc4 notNil
  replace hB := hB.inS hc4 inNil
  replace hZ := Nat.le_trans hZ hc4.size
  refine ⟨.bool (y2), rfl, ?_⟩
  refine wS_pure 2 [(13, .bool (!y2)), (12, .bool (!y2))] (by kernel_rfl) ?_
  refine wS_end (by rfl) ?_
  refine eX_then ?_
  refine cW_cond (t := !y2) (by kernel_rfl) (fun hb2 => ?_) (fun hb2 => ?_)
  ·have hm := condT hb2 hm
   refine cW_seq ?_
   refine cW_region ?_
   refine wS_pure 2 [(5, .bool (false)), (4, .int .i64 (0))] (by kernel_rfl) ?_
   refine wS_end (by rfl) ?_
   refine eX_then ?_
   refine cW_ret ?_
   refine eX_then_ret ?_
   have hq : (some ((0, false)) : Option ((Int) × (Bool))) = some _ := hm
   replace hq := someE hq
   subst hq
   refine eX_ret (vs := [.int .i64 (0), .bool (false)]) [.tmp 4, .tmp 5] (by rfl) ⟨by (show lkE _ _ _ = _); kernel_rfl, ⟨by (show lkE _ _ _ = _); kernel_rfl, trivial⟩⟩ ?_
   exact ⟨rfl, hB⟩
  ·have hm := condF hb2 hm
   refine cW_skip ?_
   refine eX_then ?_
   refine cW_seq ?_
   refine cW_region ?_
   refine wS_loadA (d := 14) (T := 27) (ad := ⟨b1, 0, none⟩) (vs := [.int .i64 (p0_0), .int .i64 (p0_1)]) (by kernel_rfl) vt27 (fun i u hu => box_cells F1 0 hu (by rfl)) ?_
   refine wS_loadA (d := 15) (T := 27) (ad := ⟨b2, 0, none⟩) (vs := [.int .i64 (p1_0), .int .i64 (p1_1)]) (by kernel_rfl) vt27 (fun i u hu => box_cells F2 0 hu (by rfl)) ?_
   obtain ⟨y3, hy3, hm⟩ := bindE hm
   refine wS_calls (d := 16) (f := 30) (vs := [.agg #[.int .i64 (p0_0), .int .i64 (p0_1)], .agg #[.int .i64 (p1_0), .int .i64 (p1_1)]]) (by kernel_rfl) ent30 (c_impl_far hy3) ?_
   rintro _ w5 ⟨rfl, hc5⟩
   replace F1 := F1.chg hc5 notNil
   replace F2 := F2.chg hc5 notNil
   replace hB := hB.inS hc5 inNil
   replace hZ := Nat.le_trans hZ hc5.size
   refine ⟨.int .i64 (y3), rfl, ?_⟩
   refine wS_pure 2 [(5, .bool (true)), (4, .int .i64 (y3))] (by kernel_rfl) ?_
   refine wS_end (by rfl) ?_
   refine eX_then ?_
   refine cW_ret ?_
   have hq : (some ((y3, true)) : Option ((Int) × (Bool))) = some _ := hm
   replace hq := someE hq
   subst hq
   refine eX_ret (vs := [.int .i64 (y3), .bool (true)]) [.tmp 4, .tmp 5] (by rfl) ⟨by (show lkE _ _ _ = _); kernel_rfl, ⟨by (show lkE _ _ _ = _); kernel_rfl, trivial⟩⟩ ?_
   exact ⟨rfl, hB⟩

set_option maxRecDepth 100000 in
/-- laws.b10Abs -/
theorem c_laws_b10Abs {w0 : World} {p0 : Int} {r : (Int)} (hm : m_laws_b10Abs p0 = some r)  :
  Calls Tryz.prog 31 #[.int .i64 (p0)] w0 fun e w' => e = .returned (.int .i64 (r)) ∧ Chg [] w0 w' := by
 have hB : Chg [] w0 w0 := Chg.refl _ _
 have hZ := Nat.le_refl w0.heap.size
 unfold m_laws_b10Abs at hm
 refine enterE (N := 8) Tryz.func31 (by rfl) Tryz.ntmps31 (by simp) [(0, .int .i64 (p0))] (by rfl) (by kernel_rfl) (fun a => ?_)
 refine cW_seq ?_
 refine cW_region ?_
 refine wS_pure 1 [(2, .int .i64 (0))] (by kernel_rfl) ?_
 refine wS_end (by rfl) ?_
 refine eX_then ?_
 refine cW_seq ?_
 refine cW_seq ?_
 refine cW_region ?_
 refine wS_pure 2 [(4, .bool (decide (p0 < 0))), (3, .int .i64 (p0))] (by kernel_rfl) ?_
 refine wS_end (by rfl) ?_
 refine eX_then ?_
 refine cW_cond (t := decide (p0 < 0)) (by kernel_rfl) (fun hb1 => ?_) (fun hb1 => ?_)
 ·have hm := condT hb1 hm
  refine cW_seq ?_
  refine cW_region ?_
  refine wS_pure 3 [(2, .int .i64 (wr (0 - p0))), (6, .int .i64 (wr (0 - p0))), (5, .int .i64 (p0))] (by kernel_rfl) ?_
  refine wS_end (by rfl) ?_
  refine eX_then ?_
  refine cW_ret ?_
  refine eX_then_ret ?_
  have hq : (some (wr (0 - p0)) : Option ((Int))) = some _ := hm
  replace hq := someE hq
  subst hq
  refine eX_ret (vs := [.int .i64 (wr (0 - p0))]) [.tmp 2] (by rfl) ⟨by (show lkE _ _ _ = _); kernel_rfl, trivial⟩ ?_
  exact ⟨rfl, hB⟩
 ·have hm := condF hb1 hm
  refine cW_skip ?_
  refine eX_then ?_
  refine cW_seq ?_
  refine cW_region ?_
  refine wS_pure 2 [(2, .int .i64 (p0)), (7, .int .i64 (p0))] (by kernel_rfl) ?_
  refine wS_end (by rfl) ?_
  refine eX_then ?_
  refine cW_ret ?_
  have hq : (some p0 : Option ((Int))) = some _ := hm
  replace hq := someE hq
  subst hq
  refine eX_ret (vs := [.int .i64 (p0)]) [.tmp 2] (by rfl) ⟨by (show lkE _ _ _ = _); kernel_rfl, trivial⟩ ?_
  exact ⟨rfl, hB⟩

set_option maxRecDepth 100000 in
/-- laws.b10Far -/
theorem c_laws_b10Far {w0 : World} {p0_0 : Int} {p0_1 : Int} {p1_0 : Int} {p1_1 : Int} {r : (Int)} (hm : m_laws_b10Far p0_0 p0_1 p1_0 p1_1 = some r)  :
  Calls Tryz.prog 16 #[.agg #[.int .i64 (p0_0), .int .i64 (p0_1)], .agg #[.int .i64 (p1_0), .int .i64 (p1_1)]] w0 fun e w' => e = .returned (.int .i64 (r)) ∧ Chg [] w0 w' := by
 have hB : Chg [] w0 w0 := Chg.refl _ _
 have hZ := Nat.le_refl w0.heap.size
 unfold m_laws_b10Far at hm
 refine enterE (N := 18) Tryz.func16 (by rfl) Tryz.ntmps16 (by simp) [(0, .agg #[.int .i64 (p0_0), .int .i64 (p0_1)]), (1, .agg #[.int .i64 (p1_0), .int .i64 (p1_1)])] (by rfl) (by kernel_rfl) (fun a => ?_)
 refine cW_seq ?_
 refine cW_region ?_
 refine wS_box (d := 2) (T := 27) (x := .agg #[.int .i64 (p0_0), .int .i64 (p0_1)]) (by kernel_rfl) ?_
 intro b1 w1 G1 F1 hc1
 replace F1 : Cl w1 b1 27 [.int .i64 (p0_0), .int .i64 (p0_1)] := F1
 replace hB := hB.inS hc1 inNil
 replace G1 := Nat.le_trans hZ G1
 replace hZ := Nat.le_trans hZ hc1.size
 refine wS_box (d := 3) (T := 27) (x := .agg #[.int .i64 (p1_0), .int .i64 (p1_1)]) (by kernel_rfl) ?_
 intro b2 w2 G2 F2 hc2
 replace F2 : Cl w2 b2 27 [.int .i64 (p1_0), .int .i64 (p1_1)] := F2
 have D1 : Dj [b1] [b2] := Dj.of (lt1 F1.lt) (low1 G2)
 replace F1 := F1.chg hc2 notNil
 replace hB := hB.inS hc2 inNil
 replace G2 := Nat.le_trans hZ G2
 replace hZ := Nat.le_trans hZ hc2.size
 refine wS_pure 1 [(4, .int .i64 (0))] (by kernel_rfl) ?_
 refine wS_end (by rfl) ?_
 refine eX_then ?_
 refine cW_seq ?_
 refine cW_drawnTail [] 11 (by kernel_rfl) (by kernel_rfl) (fun w3 hc3 => ?_)
 replace F1 := F1.chg hc3 notNil
 replace F2 := F2.chg hc3 notNil
 replace hB := hB.inS hc3 inNil
 replace hZ := Nat.le_trans hZ hc3.size
 have hS := Chg.refl [] w3
 have Z1 := F1
 have Z2 := F2
 refine wH_take [0] [0] [(5, .pointer (some ⟨b1, 0, none⟩))] (by kernel_rfl) (qT (qT qZ)) (by kernel_rfl) ?_
 refine wH_load1 (i := 1) (d := 6) (T := 2) (ad := ⟨b1, 0, none⟩) (v := .int .i64 (p0_0)) (by kernel_rfl) (qT (qT qZ)) (by kernel_rfl) (by kernel_rfl) vt2 (fun W hW => (Z1.chg hW notNil).cell 0) ?_
 refine wH_take [2] [2, 1, 0] [(7, .pointer (some ⟨b2, 0, none⟩))] (by kernel_rfl) (qT (qT qZ)) (by kernel_rfl) ?_
 refine wH_load1 (i := 3) (d := 8) (T := 2) (ad := ⟨b2, 0, none⟩) (v := .int .i64 (p1_0)) (by kernel_rfl) (qT (qT qZ)) (by kernel_rfl) (by kernel_rfl) vt2 (fun W hW => (Z2.chg hW notNil).cell 0) ?_
 refine wH_take [4, 6] [6, 4, 3, 2, 1, 0] [(11, .pointer (some ⟨b1, 1, none⟩)), (9, .int .i64 (wr (p0_0 - p1_0)))] (by kernel_rfl) (qT (qT qZ)) (by kernel_rfl) ?_
 refine wH_load1 (i := 7) (d := 12) (T := 2) (ad := ⟨b1, 1, none⟩) (v := .int .i64 (p0_1)) (by kernel_rfl) (qT (qT qZ)) (by kernel_rfl) (by kernel_rfl) vt2 (fun W hW => (Z1.chg hW notNil).cell 1) ?_
 refine wH_take [8] [8, 7, 6, 4, 3, 2, 1, 0] [(13, .pointer (some ⟨b2, 1, none⟩))] (by kernel_rfl) (qT (qT qZ)) (by kernel_rfl) ?_
 refine wH_load1 (i := 9) (d := 14) (T := 2) (ad := ⟨b2, 1, none⟩) (v := .int .i64 (p1_1)) (by kernel_rfl) (qT (qT qZ)) (by kernel_rfl) (by kernel_rfl) vt2 (fun W hW => (Z2.chg hW notNil).cell 1) ?_
 refine wH_take [10] [10, 9, 8, 7, 6, 4, 3, 2, 1, 0] [(15, .int .i64 (wr (p0_1 - p1_1)))] (by kernel_rfl) (qT (qT qZ)) (by kernel_rfl) ?_
 refine wH_all [5] (by rfl) (by kernel_rfl) (by simp) ⟨⟨by kernel_rfl, ?_⟩, trivial⟩
 obtain ⟨y1, hy1, hm⟩ := bindE hm
 refine wS_calls (d := 10) (f := 31) (vs := [.int .i64 (wr (p0_0 - p1_0))]) (by kernel_rfl) ent31 (c_laws_b10Abs hy1) ?_
 rintro _ w4 ⟨rfl, hc4⟩
 replace F1 := F1.chg hc4 notNil
 replace F2 := F2.chg hc4 notNil
 replace hB := hB.inS hc4 inNil
 have hSz := hS
 replace hS := hS.inS hc4 inNil
 replace hZ := Nat.le_trans hZ hc4.size
 refine ⟨.int .i64 (y1), rfl, ?_⟩
 refine wS_end (by kernel_rfl) ?_
 refine eX_KH hS ?_
 refine wH_done (by kernel_rfl) ?_
 refine eX_tail ?_
 obtain ⟨y2, hy2, hm⟩ := bindE hm
 refine wS_calls (d := 16) (f := 31) (vs := [.int .i64 (wr (p0_1 - p1_1))]) (by kernel_rfl) ent31 (c_laws_b10Abs hy2) ?_
 rintro _ w5 ⟨rfl, hc5⟩
 replace F1 := F1.chg hc5 notNil
 replace F2 := F2.chg hc5 notNil
 replace hB := hB.inS hc5 inNil
 replace hZ := Nat.le_trans hZ hc5.size
 refine ⟨.int .i64 (y2), rfl, ?_⟩
 refine wS_pure 2 [(4, .int .i64 (wr (y1 + y2))), (17, .int .i64 (wr (y1 + y2)))] (by kernel_rfl) ?_
 refine wS_end (by rfl) ?_
 refine eX_then ?_
 refine cW_ret ?_
 have hq : (some (wr (y1 + y2)) : Option ((Int))) = some _ := hm
 replace hq := someE hq
 subst hq
 refine eX_ret (vs := [.int .i64 (wr (y1 + y2))]) [.tmp 4] (by rfl) ⟨by (show lkE _ _ _ = _); kernel_rfl, trivial⟩ ?_
 exact ⟨rfl, hB⟩

set_option maxHeartbeats 20000000 in
set_option maxRecDepth 100000 in
/-- laws.FnPoints -/
theorem c_laws_FnPoints {w0 : World} {l0 : List (Int)} {A0 : Option Addr} {cap0 : Nat} {fp0 : List Nat} {l1 : List (Int)} {A1 : Option Addr} {cap1 : Nat} {fp1 : List Nat} {r : (Bool)} (hm : m_laws_FnPoints l0 l1 = some r) (F0 : Sl 1 encU w0 fp0 A0 l0) (F1 : Sl 1 encU w0 fp1 A1 l1) :
  Calls Tryz.prog 3 #[.slice A0 (l0).length cap0, .slice A1 (l1).length cap1] w0 fun e w' => e = .returned (.bool (r)) ∧ Chg [] w0 w' := by
 have L0 := F0.low
 have L1 := F1.low
 have hB : Chg [] w0 w0 := Chg.refl _ _
 have hZ := Nat.le_refl w0.heap.size
 unfold m_laws_FnPoints at hm
 refine enterE (N := 286) Tryz.func3 (by rfl) Tryz.ntmps3 (by simp) [(0, .slice A0 (l0).length cap0), (1, .slice A1 (l1).length cap1)] (by rfl) (by kernel_rfl) (fun a => ?_)
 refine cW_seq ?_
 refine cW_region ?_
 refine wS_pure 1 [(4, .bool (false))] (by kernel_rfl) ?_
 refine wS_end (by rfl) ?_
 refine eX_then ?_
 refine cW_seq ?_
 refine cW_seq ?_
 refine cW_region ?_
 refine wS_pure 2 [(32, .slice A1 (l1).length cap1), (31, .slice A0 (l0).length cap0)] (by kernel_rfl) ?_
 obtain ⟨y1, hy1, hm⟩ := bindE hm
 refine wS_calls (d := 33) (f := 4) (vs := [.slice A0 (l0).length cap0, .slice A1 (l1).length cap1]) (by kernel_rfl) ent4 (c_laws_b10Long hy1 F0 F1) ?_
 rintro _ w1 ⟨rfl, hc1⟩
 replace F0 := F0.chg hc1 Dj.nil
 replace F1 := F1.chg hc1 Dj.nil
 replace hB := hB.inS hc1 inNil
 replace hZ := Nat.le_trans hZ hc1.size
 refine ⟨.bool (y1), rfl, ?_⟩
 refine wS_end (by rfl) ?_
 refine eX_then ?_
 refine cW_cond (t := y1) (by kernel_rfl) (fun hb1 => ?_) (fun hb1 => ?_)
 ·have hm := condT hb1 hm
  refine cW_seq ?_
  refine cW_region ?_
  refine wS_pure 1 [(4, .bool (true))] (by kernel_rfl) ?_
  refine wS_end (by rfl) ?_
  refine eX_then ?_
  refine cW_ret ?_
  refine eX_then_ret ?_
  have hq : (some true : Option ((Bool))) = some _ := hm
  replace hq := someE hq
  subst hq
  refine eX_ret (vs := [.bool (true)]) [.tmp 4] (by rfl) ⟨by (show lkE _ _ _ = _); kernel_rfl, trivial⟩ ?_
  exact ⟨rfl, hB⟩
 ·have hm := condF hb1 hm
  refine cW_skip ?_
  refine eX_then ?_
  refine cW_seq ?_
  refine cW_region ?_
  refine wS_pure 1 [(34, .slice A0 (l0).length cap0)] (by kernel_rfl) ?_
  obtain ⟨y2, hy2, hm⟩ := bindE hm
  refine wS_calls (d := 35) (f := 5) (vs := [.slice A0 (l0).length cap0]) (by kernel_rfl) ent5 (c_spec_B10Points hy2 F0) ?_
  rintro _ w2 ⟨A2, cap2, fp2, rfl, F2, G1, hc2⟩
  replace F0 := F0.chg hc2 Dj.nil
  replace F1 := F1.chg hc2 Dj.nil
  replace hB := hB.inS hc2 inNil
  replace G1 := low_le hZ G1
  replace hZ := Nat.le_trans hZ hc2.size
  refine ⟨.slice A2 (y2).length cap2, rfl, ?_⟩
  refine wS_pure 1 [(5, .slice A2 (y2).length cap2)] (by kernel_rfl) ?_
  refine wS_end (by rfl) ?_
  refine eX_then ?_
  refine cW_seq ?_
  refine cW_region ?_
  refine wS_pure 1 [(36, .slice A1 (l1).length cap1)] (by kernel_rfl) ?_
  obtain ⟨y3, hy3, hm⟩ := bindE hm
  refine wS_calls (d := 37) (f := 6) (vs := [.slice A1 (l1).length cap1, .int .i64 (0)]) (by kernel_rfl) ent6 (c_laws_b10Pin hy3 F1) ?_
  rintro _ w3 ⟨rfl, hc3⟩
  replace F0 := F0.chg hc3 Dj.nil
  replace F1 := F1.chg hc3 Dj.nil
  replace F2 := F2.chg hc3 Dj.nil
  replace hB := hB.inS hc3 inNil
  replace hZ := Nat.le_trans hZ hc3.size
  refine ⟨.agg #[.int .i64 (y3.1), .int .i64 (y3.2)], rfl, ?_⟩
  refine wS_alloc (d := 6) (T := 27) (z := .agg #[.int .i64 (0), .int .i64 (0)]) (by kernel_rfl) (by kernel_rfl) ?_
  intro b1 w4 G2 F3 hc4
  replace F3 : Cl w4 b1 27 [.int .i64 (0), .int .i64 (0)] := F3
  have D1 : Dj fp2 [b1] := Dj.of F2.low (low1 G2)
  replace F0 := F0.chg hc4 Dj.nil
  replace F1 := F1.chg hc4 Dj.nil
  replace F2 := F2.chg hc4 Dj.nil
  replace hB := hB.inS hc4 inNil
  replace G2 := Nat.le_trans hZ G2
  replace hZ := Nat.le_trans hZ hc4.size
  refine wS_store (T := 27) (g := b1) (o := 0) (ad := ⟨b1, 0, none⟩) (v := .agg #[.int .i64 (y3.1), .int .i64 (y3.2)]) (vs := [.int .i64 (y3.1), .int .i64 (y3.2)]) (by kernel_rfl) (by rfl) sz27 (by rfl) (by rfl) F3 (by simp only [List.length_cons, List.length_nil]; omega) ?_
  intro w5 F4 hc5
  replace F0 := F0.chg hc5 (Dj.of L0 (low1 G2))
  replace F1 := F1.chg hc5 (Dj.of L1 (low1 G2))
  replace F2 := F2.chg hc5 D1
  replace hB := hB.inS hc5 (inLow (low1 G2))
  replace hZ := Nat.le_trans hZ hc5.size
  replace F4 : Cl w5 b1 27 [.int .i64 (y3.1), .int .i64 (y3.2)] := F4
  clear F3
  refine wS_end (by rfl) ?_
  refine eX_then ?_
  refine cW_seq ?_
  refine cW_region ?_
  refine wS_pure 1 [(39, .slice A2 (y2).length cap2)] (by kernel_rfl) ?_
  obtain ⟨y4, hy4, hm⟩ := bindE hm
  refine wS_calls (d := 40) (f := 7) (vs := [.slice A2 (y2).length cap2]) (by kernel_rfl) ent7 (c_impl_SortPoints hy4 (F2.sl encII_ok)) ?_
  rintro _ w6 ⟨A3, cap3, fp3, rfl, F5, G3, hc6⟩
  have D2 : Dj fp2 fp3 := Dj.of F2.low G3
  have D3 : Dj [b1] fp3 := Dj.of (lt1 F4.lt) G3
  replace F0 := F0.chg hc6 Dj.nil
  replace F1 := F1.chg hc6 Dj.nil
  replace F2 := F2.chg hc6 Dj.nil
  replace F4 := F4.chg hc6 notNil
  replace hB := hB.inS hc6 inNil
  replace G3 := low_le hZ G3
  replace hZ := Nat.le_trans hZ hc6.size
  refine ⟨.tuple #[.slice A3 (y4.1).length cap3, .bool (y4.2)], rfl, ?_⟩
  refine wS_pure 5 [(8, .bool (y4.2)), (7, .slice A3 (y4.1).length cap3), (42, .bool (y4.2)), (41, .slice A3 (y4.1).length cap3), (38, .tuple #[.slice A3 (y4.1).length cap3, .bool (y4.2)])] (by kernel_rfl) ?_
  refine wS_end (by rfl) ?_
  refine eX_then ?_
  refine cW_seq ?_
  refine cW_region ?_
  refine wS_pure 1 [(44, .slice A2 (y2).length cap2)] (by kernel_rfl) ?_
  obtain ⟨y5, hy5, hm⟩ := bindE hm
  refine wS_calls (d := 45) (f := 8) (vs := [.slice A2 (y2).length cap2]) (by kernel_rfl) ent8 (c_impl_PointsText hy5 (F2.sl encII_ok)) ?_
  rintro _ w7 ⟨rfl, hc7⟩
  replace F0 := F0.chg hc7 Dj.nil
  replace F1 := F1.chg hc7 Dj.nil
  replace F2 := F2.chg hc7 Dj.nil
  replace F4 := F4.chg hc7 notNil
  replace F5 := F5.chg hc7 Dj.nil
  replace hB := hB.inS hc7 inNil
  replace hZ := Nat.le_trans hZ hc7.size
  refine ⟨.tuple #[.string (y5.1), .bool (y5.2)], rfl, ?_⟩
  refine wS_pure 5 [(10, .bool (y5.2)), (9, .string (y5.1)), (47, .bool (y5.2)), (46, .string (y5.1)), (43, .tuple #[.string (y5.1), .bool (y5.2)])] (by kernel_rfl) ?_
  refine wS_end (by rfl) ?_
  refine eX_then ?_
  refine cW_prune [(5, .slice A2 (y2).length cap2), (6, .pointer (some ⟨b1, 0, none⟩)), (7, .slice A3 (y4.1).length cap3), (8, .bool (y4.2)), (9, .string (y5.1)), (10, .bool (y5.2))] (by kernel_rfl) (by kernel_rfl) (fun a1 => ?_)
  refine cW_seq ?_
  refine cW_region ?_
  refine wS_pure 1 [(49, .string (y5.1))] (by kernel_rfl) ?_
  obtain ⟨y6, hy6, hm⟩ := bindE hm
  refine wS_calls (d := 50) (f := 9) (vs := [.string (y5.1)]) (by kernel_rfl) ent9 (c_impl_ReadPoints hy6) ?_
  rintro _ w8 ⟨A4, cap4, fp4, rfl, F6, G4, hc8⟩
  have D4 : Dj fp2 fp4 := Dj.of F2.low G4
  have D5 : Dj [b1] fp4 := Dj.of (lt1 F4.lt) G4
  have D6 : Dj fp3 fp4 := Dj.of F5.low G4
  replace F0 := F0.chg hc8 Dj.nil
  replace F1 := F1.chg hc8 Dj.nil
  replace F2 := F2.chg hc8 Dj.nil
  replace F4 := F4.chg hc8 notNil
  replace F5 := F5.chg hc8 Dj.nil
  replace hB := hB.inS hc8 inNil
  replace G4 := low_le hZ G4
  replace hZ := Nat.le_trans hZ hc8.size
  refine ⟨.tuple #[.slice A4 (y6.1).length cap4, .bool (y6.2)], rfl, ?_⟩
  refine wS_pure 5 [(12, .bool (y6.2)), (11, .slice A4 (y6.1).length cap4), (52, .bool (y6.2)), (51, .slice A4 (y6.1).length cap4), (48, .tuple #[.slice A4 (y6.1).length cap4, .bool (y6.2)])] (by kernel_rfl) ?_
  refine wS_end (by rfl) ?_
  refine eX_then ?_
  refine cW_seq ?_
  refine cW_seq ?_
  refine cW_region ?_
  refine wS_pure 3 [(55, .bool (!y4.2)), (54, .bool (!y4.2)), (53, .bool (y4.2))] (by kernel_rfl) ?_
  refine wS_bool (!y4.2) (fun hb2 => ?_) (fun hb2 => ?_)
  ·have hm := condT hb2 hm
   rewrite [hb2]
   refine wS_pure 18 [(73, .bool (true)), (72, undef), (71, undef), (70, undef), (69, undef), (68, .bool (true)), (67, .bool (true)), (66, undef), (65, undef), (64, undef), (63, .bool (true)), (62, .bool (true)), (61, undef), (60, undef), (59, .bool (true)), (58, .bool (true)), (57, undef), (56, undef)] (by kernel_rfl) ?_
   refine wS_end (by rfl) ?_
   refine eX_then ?_
   refine cW_prune [(5, .slice A2 (y2).length cap2), (6, .pointer (some ⟨b1, 0, none⟩)), (7, .slice A3 (y4.1).length cap3), (73, .bool (true))] (by kernel_rfl) (by kernel_rfl) (fun a2 => ?_)
   refine cW_cond_t (by kernel_rfl) ?_
   refine cW_seq ?_
   refine cW_region ?_
   refine wS_pure 1 [(4, .bool (false))] (by kernel_rfl) ?_
   refine wS_end (by rfl) ?_
   refine eX_then ?_
   refine cW_ret ?_
   refine eX_then_ret ?_
   have hq : (some false : Option ((Bool))) = some _ := hm
   replace hq := someE hq
   subst hq
   refine eX_ret (vs := [.bool (false)]) [.tmp 4] (by rfl) ⟨by (show lkE _ _ _ = _); kernel_rfl, trivial⟩ ?_
   exact ⟨rfl, hB⟩
  ·have hm := condF hb2 hm
   rewrite [hb2]
   refine wS_pure 4 [(59, .bool (!y5.2)), (58, .bool (!y5.2)), (57, .bool (!y5.2)), (56, .bool (y5.2))] (by kernel_rfl) ?_
   refine wS_bool (!y5.2) (fun hb3 => ?_) (fun hb3 => ?_)
   ·have hm := condT hb3 hm
    rewrite [hb3]
    refine wS_pure 14 [(73, .bool (true)), (72, undef), (71, undef), (70, undef), (69, undef), (68, .bool (true)), (67, .bool (true)), (66, undef), (65, undef), (64, undef), (63, .bool (true)), (62, .bool (true)), (61, undef), (60, undef)] (by kernel_rfl) ?_
    refine wS_end (by rfl) ?_
    refine eX_then ?_
    refine cW_prune [(5, .slice A2 (y2).length cap2), (6, .pointer (some ⟨b1, 0, none⟩)), (7, .slice A3 (y4.1).length cap3), (73, .bool (true))] (by kernel_rfl) (by kernel_rfl) (fun a3 => ?_)
    refine cW_cond_t (by kernel_rfl) ?_
    refine cW_seq ?_
    refine cW_region ?_
    refine wS_pure 1 [(4, .bool (false))] (by kernel_rfl) ?_
    refine wS_end (by rfl) ?_
    refine eX_then ?_
    refine cW_ret ?_
    refine eX_then_ret ?_
    have hq : (some false : Option ((Bool))) = some _ := hm
    replace hq := someE hq
    subst hq
    refine eX_ret (vs := [.bool (false)]) [.tmp 4] (by rfl) ⟨by (show lkE _ _ _ = _); kernel_rfl, trivial⟩ ?_
    exact ⟨rfl, hB⟩
   ·have hm := condF hb3 hm
    rewrite [hb3]
    refine wS_pure 4 [(63, .bool (!y6.2)), (62, .bool (!y6.2)), (61, .bool (!y6.2)), (60, .bool (y6.2))] (by kernel_rfl) ?_
    refine wS_bool (!y6.2) (fun hb4 => ?_) (fun hb4 => ?_)
    ·have hm := condT hb4 hm
     rewrite [hb4]
     refine wS_pure 10 [(73, .bool (true)), (72, undef), (71, undef), (70, undef), (69, undef), (68, .bool (true)), (67, .bool (true)), (66, undef), (65, undef), (64, undef)] (by kernel_rfl) ?_
     refine wS_end (by rfl) ?_
     refine eX_then ?_
     refine cW_prune [(5, .slice A2 (y2).length cap2), (6, .pointer (some ⟨b1, 0, none⟩)), (7, .slice A3 (y4.1).length cap3), (73, .bool (true))] (by kernel_rfl) (by kernel_rfl) (fun a4 => ?_)
     refine cW_cond_t (by kernel_rfl) ?_
     refine cW_seq ?_
     refine cW_region ?_
     refine wS_pure 1 [(4, .bool (false))] (by kernel_rfl) ?_
     refine wS_end (by rfl) ?_
     refine eX_then ?_
     refine cW_ret ?_
     refine eX_then_ret ?_
     have hq : (some false : Option ((Bool))) = some _ := hm
     replace hq := someE hq
     subst hq
     refine eX_ret (vs := [.bool (false)]) [.tmp 4] (by rfl) ⟨by (show lkE _ _ _ = _); kernel_rfl, trivial⟩ ?_
     exact ⟨rfl, hB⟩
    ·have hm := condF hb4 hm
     rewrite [hb4]
     refine wS_pure 1 [(64, .slice A2 (y2).length cap2)] (by kernel_rfl) ?_
     obtain ⟨y7, hy7, hm⟩ := bindE hm
     refine wS_calls (d := 65) (f := 10) (vs := [.slice A2 (y2).length cap2]) (by kernel_rfl) ent10 (c_impl_ArePoints hy7 (F2.sl encII_ok)) ?_
     rintro _ w9 ⟨rfl, hc9⟩
     replace F0 := F0.chg hc9 Dj.nil
     replace F1 := F1.chg hc9 Dj.nil
     replace F2 := F2.chg hc9 Dj.nil
     replace F4 := F4.chg hc9 notNil
     replace F5 := F5.chg hc9 Dj.nil
     replace F6 := F6.chg hc9 Dj.nil
     replace hB := hB.inS hc9 inNil
     replace hZ := Nat.le_trans hZ hc9.size
     refine ⟨.bool (y7), rfl, ?_⟩
     refine wS_pure 3 [(68, .bool (!y7)), (67, .bool (!y7)), (66, .bool (!y7))] (by kernel_rfl) ?_
     refine wS_bool (!y7) (fun hb5 => ?_) (fun hb5 => ?_)
     ·have hm := condT hb5 hm
      rewrite [hb5]
      refine wS_pure 5 [(73, .bool (true)), (72, undef), (71, undef), (70, undef), (69, undef)] (by kernel_rfl) ?_
      refine wS_end (by rfl) ?_
      refine eX_then ?_
      refine cW_prune [(5, .slice A2 (y2).length cap2), (6, .pointer (some ⟨b1, 0, none⟩)), (7, .slice A3 (y4.1).length cap3), (73, .bool (true))] (by kernel_rfl) (by kernel_rfl) (fun a5 => ?_)
      refine cW_cond_t (by kernel_rfl) ?_
      refine cW_seq ?_
      refine cW_region ?_
      refine wS_pure 1 [(4, .bool (false))] (by kernel_rfl) ?_
      refine wS_end (by rfl) ?_
      refine eX_then ?_
      refine cW_ret ?_
      refine eX_then_ret ?_
      have hq : (some false : Option ((Bool))) = some _ := hm
      replace hq := someE hq
      subst hq
      refine eX_ret (vs := [.bool (false)]) [.tmp 4] (by rfl) ⟨by (show lkE _ _ _ = _); kernel_rfl, trivial⟩ ?_
      exact ⟨rfl, hB⟩
     ·have hm := condF hb5 hm
      rewrite [hb5]
      refine wS_pure 2 [(70, .slice A2 (y2).length cap2), (69, .slice A4 (y6.1).length cap4)] (by kernel_rfl) ?_
      obtain ⟨y8, hy8, hm⟩ := bindE hm
      refine wS_calls (d := 71) (f := 11) (vs := [.slice A4 (y6.1).length cap4, .slice A2 (y2).length cap2]) (by kernel_rfl) ent11 (c_laws_b10Same hy8 (F6.sl encII_ok) (F2.sl encII_ok)) ?_
      rintro _ w10 ⟨rfl, hc10⟩
      replace F0 := F0.chg hc10 Dj.nil
      replace F1 := F1.chg hc10 Dj.nil
      replace F2 := F2.chg hc10 Dj.nil
      replace F4 := F4.chg hc10 notNil
      replace F5 := F5.chg hc10 Dj.nil
      replace F6 := F6.chg hc10 Dj.nil
      replace hB := hB.inS hc10 inNil
      replace hZ := Nat.le_trans hZ hc10.size
      refine ⟨.bool (y8), rfl, ?_⟩
      refine wS_pure 2 [(73, .bool (!y8)), (72, .bool (!y8))] (by kernel_rfl) ?_
      refine wS_end (by rfl) ?_
      refine eX_then ?_
      refine cW_prune [(5, .slice A2 (y2).length cap2), (6, .pointer (some ⟨b1, 0, none⟩)), (7, .slice A3 (y4.1).length cap3), (73, .bool (!y8))] (by kernel_rfl) (by kernel_rfl) (fun a6 => ?_)
      refine cW_cond (t := !y8) (by kernel_rfl) (fun hb6 => ?_) (fun hb6 => ?_)
      ·have hm := condT hb6 hm
       refine cW_seq ?_
       refine cW_region ?_
       refine wS_pure 1 [(4, .bool (false))] (by kernel_rfl) ?_
       refine wS_end (by rfl) ?_
       refine eX_then ?_
       refine cW_ret ?_
       refine eX_then_ret ?_
       have hq : (some false : Option ((Bool))) = some _ := hm
       replace hq := someE hq
       subst hq
       refine eX_ret (vs := [.bool (false)]) [.tmp 4] (by rfl) ⟨by (show lkE _ _ _ = _); kernel_rfl, trivial⟩ ?_
       exact ⟨rfl, hB⟩
      ·have hm := condF hb6 hm
       refine cW_skip ?_
       refine eX_then ?_
       refine cW_seq ?_
       refine cW_seq ?_
       refine cW_region ?_
       refine wS_pure 1 [(13, .int .i64 (0))] (by kernel_rfl) ?_
       refine wS_end (by rfl) ?_
       refine eX_then ?_
       obtain ⟨r1, hr1, hm⟩ := bindE hm
       have hm1 := hm
       refine cW_cut (fun a' w' => Sum.inl (()) = r1 ∧ Fr 286 [(5, .slice A2 (y2).length cap2), (6, .pointer (some ⟨b1, 0, none⟩)), (7, .slice A3 (y4.1).length cap3)] a' ∧ Ow 2 encII 27 w' fp2 A2 cap2 y2 ∧ Cl w' b1 27 [.int .i64 (y3.1), .int .i64 (y3.2)] ∧ Ow 2 encII 27 w' fp3 A3 cap3 y4.1 ∧ Chg [] w0 w' ∧ w0.heap.size ≤ w'.heap.size) ?_ ?_
       ·refine cW_block ?_
        refine cW_loop _ (fun (s1 : Int) a' w' => ∃ x1 : Int, x1 = s1 ∧ Fr 286 [(5, .slice A2 (y2).length cap2), (6, .pointer (some ⟨b1, 0, none⟩)), (7, .slice A3 (y4.1).length cap3), (13, .int .i64 (x1))] a' ∧ Ow 2 encII 27 w' fp2 A2 cap2 y2 ∧ Cl w' b1 27 [.int .i64 (y3.1), .int .i64 (y3.2)] ∧ Ow 2 encII 27 w' fp3 A3 cap3 y4.1 ∧ Chg [] w0 w' ∧ w0.heap.size ≤ w'.heap.size) hr1 (fun hst => ⟨0, rfl, Fr.of hst (by kernel_rfl), F2, F4, F5, hB, hZ⟩) ?_
        rintro _ c1 a' w11 ⟨x1, rfl, hF1, F7, F8, F9, hB, hZ⟩ hx1
        refine Fr.goOn hF1 (by kernel_rfl) ?_
        have hm := hx1
        unfold m_laws_FnPoints_s1 at hm
        refine cW_seq ?_
        refine cW_seq ?_
        refine cW_region ?_
        refine wS_pure 4 [(77, .bool (decide (x1 < (((y4.1).length : Int))))), (76, .int .i64 (((y4.1).length : Int))), (75, .slice A3 (y4.1).length cap3), (74, .int .i64 (x1))] (by kernel_rfl) ?_
        refine wS_end (by rfl) ?_
        refine eX_then ?_
        refine cW_cond (t := decide (x1 < (((y4.1).length : Int)))) (by kernel_rfl) (fun hb7 => ?_) (fun hb7 => ?_)
        ·have hm := condT hb7 hm
         refine cW_skip ?_
         refine eX_then ?_
         refine cW_seq ?_
         refine cW_block ?_
         refine cW_seq ?_
         refine cW_drawnTail [] 48 (by kernel_rfl) (by kernel_rfl) (fun w12 hc11 => ?_)
         replace F7 := F7.chg hc11 Dj.nil
         replace F8 := F8.chg hc11 notNil
         replace F9 := F9.chg hc11 Dj.nil
         replace hB := hB.inS hc11 inNil
         replace hZ := Nat.le_trans hZ hc11.size
         have hS := Chg.refl [] w12
         have Z1 := F7
         have Z2 := F8
         have Z3 := F9
         refine wH_take [0, 1, 2] [2, 1, 0] [(82, .int .i64 (x1)), (81, .slice A3 (y4.1).length cap3), (80, .slice A2 (y2).length cap2)] (by kernel_rfl) (qT (qT (qB (qT (qL (qB (qT (qT qZ)))))))) (by kernel_rfl) ?_
         obtain ⟨x2, hx2, hm⟩ := bindE hm
         refine wH_idx (i := 3) (d := 83) (T := 24) (A := A3) (n := (y4.1).length) (cap := cap3) (kd := .i64) (m := x1) (by kernel_rfl) (qT (qT (qB (qT (qL (qB (qT (qT qZ)))))))) (by kernel_rfl) (by kernel_rfl) sl24 ((F9.sl encII_ok).is hx2) ?_
         refine wH_loadA (i := 4) (d := 84) (T := 27) (ad := (elA A3 2 (x1) 0)) (vs := [.int .i64 (x2.1), .int .i64 (x2.2)]) (by kernel_rfl) (qT (qT (qB (qT (qL (qB (qT (qT qZ)))))))) (by kernel_rfl) (by kernel_rfl) vt27 (fun W hW i u hu => Sl.cells_at ((Z3.chg hW Dj.nil).sl encII_ok) hx2 0 hu (by rfl)) ?_
         refine wH_all [5] (by rfl) (by kernel_rfl) (by simp) ⟨⟨by kernel_rfl, ?_⟩, trivial⟩
         obtain ⟨y9, hy9, hm⟩ := bindE hm
         refine wS_calls (d := 85) (f := 12) (vs := [.slice A2 (y2).length cap2, .agg #[.int .i64 (x2.1), .int .i64 (x2.2)]]) (by kernel_rfl) ent12 (c_laws_b10In hy9 (F7.sl encII_ok)) ?_
         rintro _ w13 ⟨rfl, hc12⟩
         replace F7 := F7.chg hc12 Dj.nil
         replace F8 := F8.chg hc12 notNil
         replace F9 := F9.chg hc12 Dj.nil
         replace hB := hB.inS hc12 inNil
         have hSz := hS
         replace hS := hS.inS hc12 inNil
         replace hZ := Nat.le_trans hZ hc12.size
         refine ⟨.bool (y9), rfl, ?_⟩
         refine wS_end (by kernel_rfl) ?_
         refine eX_KH hS ?_
         refine wH_take [6, 7] [7, 6, 5, 4, 3, 2, 1, 0] [(87, .bool (!y9)), (86, .bool (!y9))] (by kernel_rfl) (qT (qT (qB (qT (qL (qB (qT (qT qZ)))))))) (by kernel_rfl) ?_
         refine wH_bool (!y9) (fun hb8 => ?_) (fun hb8 => ?_)
         ·have hm := condT hb8 hm
          rewrite [hb8]
          refine wH_take [8, 9, 10, 11, 12, 13, 14, 15, 16, 17, 18, 19, 20, 21, 22, 23, 24, 25, 26, 27, 28, 29, 30, 31, 32, 33, 34, 35, 36, 37, 38, 39, 40, 41, 42, 43, 44, 45, 46, 47] [47, 46, 45, 44, 43, 42, 41, 40, 39, 38, 37, 36, 35, 34, 33, 32, 31, 30, 29, 28, 27, 26, 25, 24, 23, 22, 21, 20, 19, 18, 17, 16, 15, 14, 13, 12, 11, 10, 9, 8, 7, 6, 5, 4, 3, 2, 1, 0] [(127, undef), (126, undef), (125, undef), (124, undef), (123, undef), (122, undef), (121, undef), (120, undef), (119, undef), (118, undef), (117, undef), (116, undef), (115, undef), (114, undef), (113, undef), (112, undef), (111, undef), (110, undef), (109, undef), (108, undef), (107, undef), (106, undef), (105, undef), (104, undef), (103, undef), (102, undef), (101, undef), (100, undef), (99, undef), (98, undef), (97, undef), (96, undef), (95, undef), (94, undef), (93, undef), (92, undef), (91, undef), (90, undef), (89, undef), (88, undef)] (by kernel_rfl) (qT (qT (qB (qT (qL (qB (qT (qT qZ)))))))) (by kernel_rfl) ?_
          refine wH_done (by kernel_rfl) ?_
          refine eX_tail ?_
          refine wS_pure 5 [(132, .bool (true)), (131, undef), (130, undef), (129, undef), (128, undef)] (by kernel_rfl) ?_
          refine wS_end (by rfl) ?_
          refine eX_then ?_
          refine cW_prune [(5, .slice A2 (y2).length cap2), (6, .pointer (some ⟨b1, 0, none⟩)), (7, .slice A3 (y4.1).length cap3), (13, .int .i64 (x1)), (132, .bool (true))] (by kernel_rfl) (by kernel_rfl) (fun a7 => ?_)
          refine cW_cond_t (by kernel_rfl) ?_
          refine cW_seq ?_
          refine cW_region ?_
          refine wS_pure 1 [(4, .bool (false))] (by kernel_rfl) ?_
          refine wS_end (by rfl) ?_
          refine eX_then ?_
          refine cW_ret ?_
          refine eX_block_ret ?_
          refine eX_then_ret ?_
          have hq : (some (Ctl.out (Sum.inr false)) : Option (Ctl (Int) (Sum (Unit) ((Bool))))) = some _ := hm
          replace hq := someE hq
          subst hq
          refine eX_outR hx1 (fun hr => ?_)
          subst hr
          refine eX_block_ret ?_
          refine eX_then_ret ?_
          refine eX_then_ret ?_
          have hq : (some false : Option ((Bool))) = some _ := hm1
          replace hq := someE hq
          subst hq
          refine eX_ret (vs := [.bool (false)]) [.tmp 4] (by rfl) ⟨by (show lkE _ _ _ = _); kernel_rfl, trivial⟩ ?_
          exact ⟨rfl, hB⟩
         ·have hm := condF hb8 hm
          rewrite [hb8]
          refine wH_take [8, 9, 10] [10, 9, 8, 7, 6, 5, 4, 3, 2, 1, 0] [(90, .bool (decide (x1 > 0))), (89, .bool (decide (x1 > 0))), (88, .int .i64 (x1))] (by kernel_rfl) (qT (qT (qB (qT (qL (qB (qT (qT qZ)))))))) (by kernel_rfl) ?_
          refine wH_bool (decide (x1 > 0)) (fun hb9 => ?_) (fun hb9 => ?_)
          ·have hm := condT hb9 hm
           rewrite [hb9]
           refine wH_take [11, 12, 13] [13, 12, 11, 10, 9, 8, 7, 6, 5, 4, 3, 2, 1, 0] [(93, .int .i64 (wr (x1 - 1))), (92, .int .i64 (x1)), (91, .slice A3 (y4.1).length cap3)] (by kernel_rfl) (qT (qT (qB (qT (qL (qB (qT (qT qZ)))))))) (by kernel_rfl) ?_
           obtain ⟨x3, hx3, hm⟩ := bindE hm
           refine wH_idx (i := 14) (d := 94) (T := 24) (A := A3) (n := (y4.1).length) (cap := cap3) (kd := .i64) (m := wr (x1 - 1)) (by kernel_rfl) (qT (qT (qB (qT (qL (qB (qT (qT qZ)))))))) (by kernel_rfl) (by kernel_rfl) sl24 ((F9.sl encII_ok).is hx3) ?_
           refine wH_take [15] [15, 14, 13, 12, 11, 10, 9, 8, 7, 6, 5, 4, 3, 2, 1, 0] [(95, .pointer (some (elA A3 2 (wr (x1 - 1)) 0)))] (by kernel_rfl) (qT (qT (qB (qT (qL (qB (qT (qT qZ)))))))) (by kernel_rfl) ?_
           refine wH_load1 (i := 16) (d := 96) (T := 2) (ad := (elA A3 2 (wr (x1 - 1)) 0)) (v := .int .i64 (x3.1)) (by kernel_rfl) (qT (qT (qB (qT (qL (qB (qT (qT qZ)))))))) (by kernel_rfl) (by kernel_rfl) vt2 (fun W hW => Sl.cell ((Z3.chg hW Dj.nil).sl encII_ok) hx3 0 (by rfl)) ?_
           refine wH_take [17, 18] [18, 17, 16, 15, 14, 13, 12, 11, 10, 9, 8, 7, 6, 5, 4, 3, 2, 1, 0] [(98, .int .i64 (x1)), (97, .slice A3 (y4.1).length cap3)] (by kernel_rfl) (qT (qT (qB (qT (qL (qB (qT (qT qZ)))))))) (by kernel_rfl) ?_
           obtain ⟨x4, hx4, hm⟩ := bindE hm
           refine wH_idx (i := 19) (d := 99) (T := 24) (A := A3) (n := (y4.1).length) (cap := cap3) (kd := .i64) (m := x1) (by kernel_rfl) (qT (qT (qB (qT (qL (qB (qT (qT qZ)))))))) (by kernel_rfl) (by kernel_rfl) sl24 ((F9.sl encII_ok).is hx4) ?_
           refine wH_take [20] [20, 19, 18, 17, 16, 15, 14, 13, 12, 11, 10, 9, 8, 7, 6, 5, 4, 3, 2, 1, 0] [(100, .pointer (some (elA A3 2 (x1) 0)))] (by kernel_rfl) (qT (qT (qB (qT (qL (qB (qT (qT qZ)))))))) (by kernel_rfl) ?_
           refine wH_load1 (i := 21) (d := 101) (T := 2) (ad := (elA A3 2 (x1) 0)) (v := .int .i64 (x4.1)) (by kernel_rfl) (qT (qT (qB (qT (qL (qB (qT (qT qZ)))))))) (by kernel_rfl) (by kernel_rfl) vt2 (fun W hW => Sl.cell ((Z3.chg hW Dj.nil).sl encII_ok) hx4 0 (by rfl)) ?_
           refine wH_take [22, 23] [23, 22, 21, 20, 19, 18, 17, 16, 15, 14, 13, 12, 11, 10, 9, 8, 7, 6, 5, 4, 3, 2, 1, 0] [(103, .bool (decide (x3.1 > x4.1))), (102, .bool (decide (x3.1 > x4.1)))] (by kernel_rfl) (qT (qT (qB (qT (qL (qB (qT (qT qZ)))))))) (by kernel_rfl) ?_
           refine wH_bool (decide (x3.1 > x4.1)) (fun hb10 => ?_) (fun hb10 => ?_)
           ·have hm := condT hb10 hm
            rewrite [hb10]
            refine wH_take [24, 25, 26, 27, 28, 29, 30, 31, 32, 33, 34, 35, 36, 37, 38, 39, 40, 41, 42, 43, 44, 45, 46, 47] [47, 46, 45, 44, 43, 42, 41, 40, 39, 38, 37, 36, 35, 34, 33, 32, 31, 30, 29, 28, 27, 26, 25, 24, 23, 22, 21, 20, 19, 18, 17, 16, 15, 14, 13, 12, 11, 10, 9, 8, 7, 6, 5, 4, 3, 2, 1, 0] [(127, undef), (126, undef), (125, undef), (124, undef), (123, undef), (122, undef), (121, undef), (120, undef), (119, undef), (118, undef), (117, undef), (116, undef), (115, undef), (114, undef), (113, undef), (112, undef), (111, undef), (110, undef), (109, undef), (108, undef), (107, undef), (106, undef), (105, undef), (104, undef)] (by kernel_rfl) (qT (qT (qB (qT (qL (qB (qT (qT qZ)))))))) (by kernel_rfl) ?_
            refine wH_done (by kernel_rfl) ?_
            refine eX_tail ?_
            refine wS_pure 5 [(132, .bool (true)), (131, .bool (true)), (130, .bool (true)), (129, undef), (128, undef)] (by kernel_rfl) ?_
            refine wS_end (by rfl) ?_
            refine eX_then ?_
            refine cW_prune [(5, .slice A2 (y2).length cap2), (6, .pointer (some ⟨b1, 0, none⟩)), (7, .slice A3 (y4.1).length cap3), (13, .int .i64 (x1)), (132, .bool (true))] (by kernel_rfl) (by kernel_rfl) (fun a8 => ?_)
            refine cW_cond_t (by kernel_rfl) ?_
            refine cW_seq ?_
            refine cW_region ?_
            refine wS_pure 1 [(4, .bool (false))] (by kernel_rfl) ?_
            refine wS_end (by rfl) ?_
            refine eX_then ?_
            refine cW_ret ?_
            refine eX_block_ret ?_
            refine eX_then_ret ?_
            have hq : (some (Ctl.out (Sum.inr false)) : Option (Ctl (Int) (Sum (Unit) ((Bool))))) = some _ := hm
            replace hq := someE hq
            subst hq
            refine eX_outR hx1 (fun hr => ?_)
            subst hr
            refine eX_block_ret ?_
            refine eX_then_ret ?_
            refine eX_then_ret ?_
            have hq : (some false : Option ((Bool))) = some _ := hm1
            replace hq := someE hq
            subst hq
            refine eX_ret (vs := [.bool (false)]) [.tmp 4] (by rfl) ⟨by (show lkE _ _ _ = _); kernel_rfl, trivial⟩ ?_
            exact ⟨rfl, hB⟩
           ·have hm := condF hb10 hm
            rewrite [hb10]
            refine wH_take [24, 25, 26] [26, 25, 24, 23, 22, 21, 20, 19, 18, 17, 16, 15, 14, 13, 12, 11, 10, 9, 8, 7, 6, 5, 4, 3, 2, 1, 0] [(106, .int .i64 (wr (x1 - 1))), (105, .int .i64 (x1)), (104, .slice A3 (y4.1).length cap3)] (by kernel_rfl) (qT (qT (qB (qT (qL (qB (qT (qT qZ)))))))) (by kernel_rfl) ?_
            obtain ⟨x5, hx5, hm⟩ := bindE hm
            refine wH_idx (i := 27) (d := 107) (T := 24) (A := A3) (n := (y4.1).length) (cap := cap3) (kd := .i64) (m := wr (x1 - 1)) (by kernel_rfl) (qT (qT (qB (qT (qL (qB (qT (qT qZ)))))))) (by kernel_rfl) (by kernel_rfl) sl24 ((F9.sl encII_ok).is hx5) ?_
            refine wH_take [28] [28, 27, 26, 25, 24, 23, 22, 21, 20, 19, 18, 17, 16, 15, 14, 13, 12, 11, 10, 9, 8, 7, 6, 5, 4, 3, 2, 1, 0] [(108, .pointer (some (elA A3 2 (wr (x1 - 1)) 0)))] (by kernel_rfl) (qT (qT (qB (qT (qL (qB (qT (qT qZ)))))))) (by kernel_rfl) ?_
            refine wH_load1 (i := 29) (d := 109) (T := 2) (ad := (elA A3 2 (wr (x1 - 1)) 0)) (v := .int .i64 (x5.1)) (by kernel_rfl) (qT (qT (qB (qT (qL (qB (qT (qT qZ)))))))) (by kernel_rfl) (by kernel_rfl) vt2 (fun W hW => Sl.cell ((Z3.chg hW Dj.nil).sl encII_ok) hx5 0 (by rfl)) ?_
            refine wH_take [30, 31] [31, 30, 29, 28, 27, 26, 25, 24, 23, 22, 21, 20, 19, 18, 17, 16, 15, 14, 13, 12, 11, 10, 9, 8, 7, 6, 5, 4, 3, 2, 1, 0] [(111, .int .i64 (x1)), (110, .slice A3 (y4.1).length cap3)] (by kernel_rfl) (qT (qT (qB (qT (qL (qB (qT (qT qZ)))))))) (by kernel_rfl) ?_
            obtain ⟨x6, hx6, hm⟩ := bindE hm
            refine wH_idx (i := 32) (d := 112) (T := 24) (A := A3) (n := (y4.1).length) (cap := cap3) (kd := .i64) (m := x1) (by kernel_rfl) (qT (qT (qB (qT (qL (qB (qT (qT qZ)))))))) (by kernel_rfl) (by kernel_rfl) sl24 ((F9.sl encII_ok).is hx6) ?_
            refine wH_take [33] [33, 32, 31, 30, 29, 28, 27, 26, 25, 24, 23, 22, 21, 20, 19, 18, 17, 16, 15, 14, 13, 12, 11, 10, 9, 8, 7, 6, 5, 4, 3, 2, 1, 0] [(113, .pointer (some (elA A3 2 (x1) 0)))] (by kernel_rfl) (qT (qT (qB (qT (qL (qB (qT (qT qZ)))))))) (by kernel_rfl) ?_
            refine wH_load1 (i := 34) (d := 114) (T := 2) (ad := (elA A3 2 (x1) 0)) (v := .int .i64 (x6.1)) (by kernel_rfl) (qT (qT (qB (qT (qL (qB (qT (qT qZ)))))))) (by kernel_rfl) (by kernel_rfl) vt2 (fun W hW => Sl.cell ((Z3.chg hW Dj.nil).sl encII_ok) hx6 0 (by rfl)) ?_
            refine wH_take [35, 36] [36, 35, 34, 33, 32, 31, 30, 29, 28, 27, 26, 25, 24, 23, 22, 21, 20, 19, 18, 17, 16, 15, 14, 13, 12, 11, 10, 9, 8, 7, 6, 5, 4, 3, 2, 1, 0] [(116, .bool (x5.1 == x6.1)), (115, .bool (x5.1 == x6.1))] (by kernel_rfl) (qT (qT (qB (qT (qL (qB (qT (qT qZ)))))))) (by kernel_rfl) ?_
            refine wH_bool (x5.1 == x6.1) (fun hb11 => ?_) (fun hb11 => ?_)
            ·have hm := condT hb11 hm
             rewrite [hb11]
             refine wH_take [37, 38, 39] [39, 38, 37, 36, 35, 34, 33, 32, 31, 30, 29, 28, 27, 26, 25, 24, 23, 22, 21, 20, 19, 18, 17, 16, 15, 14, 13, 12, 11, 10, 9, 8, 7, 6, 5, 4, 3, 2, 1, 0] [(119, .int .i64 (wr (x1 - 1))), (118, .int .i64 (x1)), (117, .slice A3 (y4.1).length cap3)] (by kernel_rfl) (qT (qT (qB (qT (qL (qB (qT (qT qZ)))))))) (by kernel_rfl) ?_
             obtain ⟨x7, hx7, hm⟩ := bindE hm
             refine wH_idx (i := 40) (d := 120) (T := 24) (A := A3) (n := (y4.1).length) (cap := cap3) (kd := .i64) (m := wr (x1 - 1)) (by kernel_rfl) (qT (qT (qB (qT (qL (qB (qT (qT qZ)))))))) (by kernel_rfl) (by kernel_rfl) sl24 ((F9.sl encII_ok).is hx7) ?_
             refine wH_take [41] [41, 40, 39, 38, 37, 36, 35, 34, 33, 32, 31, 30, 29, 28, 27, 26, 25, 24, 23, 22, 21, 20, 19, 18, 17, 16, 15, 14, 13, 12, 11, 10, 9, 8, 7, 6, 5, 4, 3, 2, 1, 0] [(121, .pointer (some (elA A3 2 (wr (x1 - 1)) 1)))] (by kernel_rfl) (qT (qT (qB (qT (qL (qB (qT (qT qZ)))))))) (by kernel_rfl) ?_
             refine wH_load1 (i := 42) (d := 122) (T := 2) (ad := (elA A3 2 (wr (x1 - 1)) 1)) (v := .int .i64 (x7.2)) (by kernel_rfl) (qT (qT (qB (qT (qL (qB (qT (qT qZ)))))))) (by kernel_rfl) (by kernel_rfl) vt2 (fun W hW => Sl.cell ((Z3.chg hW Dj.nil).sl encII_ok) hx7 1 (by rfl)) ?_
             refine wH_take [43, 44] [44, 43, 42, 41, 40, 39, 38, 37, 36, 35, 34, 33, 32, 31, 30, 29, 28, 27, 26, 25, 24, 23, 22, 21, 20, 19, 18, 17, 16, 15, 14, 13, 12, 11, 10, 9, 8, 7, 6, 5, 4, 3, 2, 1, 0] [(124, .int .i64 (x1)), (123, .slice A3 (y4.1).length cap3)] (by kernel_rfl) (qT (qT (qB (qT (qL (qB (qT (qT qZ)))))))) (by kernel_rfl) ?_
             obtain ⟨x8, hx8, hm⟩ := bindE hm
             refine wH_idx (i := 45) (d := 125) (T := 24) (A := A3) (n := (y4.1).length) (cap := cap3) (kd := .i64) (m := x1) (by kernel_rfl) (qT (qT (qB (qT (qL (qB (qT (qT qZ)))))))) (by kernel_rfl) (by kernel_rfl) sl24 ((F9.sl encII_ok).is hx8) ?_
             refine wH_take [46] [46, 45, 44, 43, 42, 41, 40, 39, 38, 37, 36, 35, 34, 33, 32, 31, 30, 29, 28, 27, 26, 25, 24, 23, 22, 21, 20, 19, 18, 17, 16, 15, 14, 13, 12, 11, 10, 9, 8, 7, 6, 5, 4, 3, 2, 1, 0] [(126, .pointer (some (elA A3 2 (x1) 1)))] (by kernel_rfl) (qT (qT (qB (qT (qL (qB (qT (qT qZ)))))))) (by kernel_rfl) ?_
             refine wH_load1 (i := 47) (d := 127) (T := 2) (ad := (elA A3 2 (x1) 1)) (v := .int .i64 (x8.2)) (by kernel_rfl) (qT (qT (qB (qT (qL (qB (qT (qT qZ)))))))) (by kernel_rfl) (by kernel_rfl) vt2 (fun W hW => Sl.cell ((Z3.chg hW Dj.nil).sl encII_ok) hx8 1 (by rfl)) ?_
             refine wH_done (by kernel_rfl) ?_
             refine eX_tail ?_
             refine wS_pure 5 [(132, .bool (decide (x7.2 ≥ x8.2))), (131, .bool (decide (x7.2 ≥ x8.2))), (130, .bool (decide (x7.2 ≥ x8.2))), (129, .bool (decide (x7.2 ≥ x8.2))), (128, .bool (decide (x7.2 ≥ x8.2)))] (by kernel_rfl) ?_
             refine wS_end (by rfl) ?_
             refine eX_then ?_
             refine cW_prune [(5, .slice A2 (y2).length cap2), (6, .pointer (some ⟨b1, 0, none⟩)), (7, .slice A3 (y4.1).length cap3), (13, .int .i64 (x1)), (132, .bool (decide (x7.2 ≥ x8.2)))] (by kernel_rfl) (by kernel_rfl) (fun a9 => ?_)
             refine cW_cond (t := decide (x7.2 ≥ x8.2)) (by kernel_rfl) (fun hb12 => ?_) (fun hb12 => ?_)
             ·have hm := condT hb12 hm
              refine cW_seq ?_
              refine cW_region ?_
              refine wS_pure 1 [(4, .bool (false))] (by kernel_rfl) ?_
              refine wS_end (by rfl) ?_
              refine eX_then ?_
              refine cW_ret ?_
              refine eX_block_ret ?_
              refine eX_then_ret ?_
              have hq : (some (Ctl.out (Sum.inr false)) : Option (Ctl (Int) (Sum (Unit) ((Bool))))) = some _ := hm
              replace hq := someE hq
              subst hq
              refine eX_outR hx1 (fun hr => ?_)
              subst hr
              refine eX_block_ret ?_
              refine eX_then_ret ?_
              refine eX_then_ret ?_
              have hq : (some false : Option ((Bool))) = some _ := hm1
              replace hq := someE hq
              subst hq
              refine eX_ret (vs := [.bool (false)]) [.tmp 4] (by rfl) ⟨by (show lkE _ _ _ = _); kernel_rfl, trivial⟩ ?_
              exact ⟨rfl, hB⟩
             ·have hm := condF hb12 hm
              refine cW_skip ?_
              refine eX_block ?_
              refine eX_then ?_
              refine cW_region ?_
              refine wS_pure 3 [(13, .int .i64 (wr (x1 + 1))), (79, .int .i64 (wr (x1 + 1))), (78, .int .i64 (x1))] (by kernel_rfl) ?_
              refine wS_end (by rfl) ?_
              have hq : (some (Ctl.next (wr (x1 + 1))) : Option (Ctl (Int) (Sum (Unit) ((Bool))))) = some _ := hm
              replace hq := someE hq
              subst hq
              exact eX_next hx1 (fun hst => ⟨wr (x1 + 1), rfl, Fr.of hst (by kernel_rfl), F7, F8, F9, hB, hZ⟩)
            ·have hm := condF hb11 hm
             rewrite [hb11]
             refine wH_take [37, 38, 39, 40, 41, 42, 43, 44, 45, 46, 47] [47, 46, 45, 44, 43, 42, 41, 40, 39, 38, 37, 36, 35, 34, 33, 32, 31, 30, 29, 28, 27, 26, 25, 24, 23, 22, 21, 20, 19, 18, 17, 16, 15, 14, 13, 12, 11, 10, 9, 8, 7, 6, 5, 4, 3, 2, 1, 0] [(127, undef), (126, undef), (125, undef), (124, undef), (123, undef), (122, undef), (121, undef), (120, undef), (119, undef), (118, undef), (117, undef)] (by kernel_rfl) (qT (qT (qB (qT (qL (qB (qT (qT qZ)))))))) (by kernel_rfl) ?_
             refine wH_done (by kernel_rfl) ?_
             refine eX_tail ?_
             refine wS_pure 5 [(132, .bool (false)), (131, .bool (false)), (130, .bool (false)), (129, .bool (false)), (128, undef)] (by kernel_rfl) ?_
             refine wS_end (by rfl) ?_
             refine eX_then ?_
             refine cW_prune [(5, .slice A2 (y2).length cap2), (6, .pointer (some ⟨b1, 0, none⟩)), (7, .slice A3 (y4.1).length cap3), (13, .int .i64 (x1)), (132, .bool (false))] (by kernel_rfl) (by kernel_rfl) (fun a10 => ?_)
             refine cW_cond_f (by kernel_rfl) ?_
             refine cW_skip ?_
             refine eX_block ?_
             refine eX_then ?_
             refine cW_region ?_
             refine wS_pure 3 [(13, .int .i64 (wr (x1 + 1))), (79, .int .i64 (wr (x1 + 1))), (78, .int .i64 (x1))] (by kernel_rfl) ?_
             refine wS_end (by rfl) ?_
             have hq : (some (Ctl.next (wr (x1 + 1))) : Option (Ctl (Int) (Sum (Unit) ((Bool))))) = some _ := hm
             replace hq := someE hq
             subst hq
             exact eX_next hx1 (fun hst => ⟨wr (x1 + 1), rfl, Fr.of hst (by kernel_rfl), F7, F8, F9, hB, hZ⟩)
          ·have hm := condF hb9 hm
           rewrite [hb9]
           refine wH_take [11, 12, 13, 14, 15, 16, 17, 18, 19, 20, 21, 22, 23, 24, 25, 26, 27, 28, 29, 30, 31, 32, 33, 34, 35, 36, 37, 38, 39, 40, 41, 42, 43, 44, 45, 46, 47] [47, 46, 45, 44, 43, 42, 41, 40, 39, 38, 37, 36, 35, 34, 33, 32, 31, 30, 29, 28, 27, 26, 25, 24, 23, 22, 21, 20, 19, 18, 17, 16, 15, 14, 13, 12, 11, 10, 9, 8, 7, 6, 5, 4, 3, 2, 1, 0] [(127, undef), (126, undef), (125, undef), (124, undef), (123, undef), (122, undef), (121, undef), (120, undef), (119, undef), (118, undef), (117, undef), (116, undef), (115, undef), (114, undef), (113, undef), (112, undef), (111, undef), (110, undef), (109, undef), (108, undef), (107, undef), (106, undef), (105, undef), (104, undef), (103, undef), (102, undef), (101, undef), (100, undef), (99, undef), (98, undef), (97, undef), (96, undef), (95, undef), (94, undef), (93, undef), (92, undef), (91, undef)] (by kernel_rfl) (qT (qT (qB (qT (qL (qB (qT (qT qZ)))))))) (by kernel_rfl) ?_
           refine wH_done (by kernel_rfl) ?_
           refine eX_tail ?_
           refine wS_pure 5 [(132, .bool (false)), (131, .bool (false)), (130, undef), (129, undef), (128, undef)] (by kernel_rfl) ?_
           refine wS_end (by rfl) ?_
           refine eX_then ?_
           refine cW_prune [(5, .slice A2 (y2).length cap2), (6, .pointer (some ⟨b1, 0, none⟩)), (7, .slice A3 (y4.1).length cap3), (13, .int .i64 (x1)), (132, .bool (false))] (by kernel_rfl) (by kernel_rfl) (fun a11 => ?_)
           refine cW_cond_f (by kernel_rfl) ?_
           refine cW_skip ?_
           refine eX_block ?_
           refine eX_then ?_
           refine cW_region ?_
           refine wS_pure 3 [(13, .int .i64 (wr (x1 + 1))), (79, .int .i64 (wr (x1 + 1))), (78, .int .i64 (x1))] (by kernel_rfl) ?_
           refine wS_end (by rfl) ?_
           have hq : (some (Ctl.next (wr (x1 + 1))) : Option (Ctl (Int) (Sum (Unit) ((Bool))))) = some _ := hm
           replace hq := someE hq
           subst hq
           exact eX_next hx1 (fun hst => ⟨wr (x1 + 1), rfl, Fr.of hst (by kernel_rfl), F7, F8, F9, hB, hZ⟩)
        ·have hm := condF hb7 hm
         refine cW_exit ?_
         refine eX_then_exit ?_
         have hq : (some (Ctl.out (Sum.inl (()))) : Option (Ctl (Int) (Sum (Unit) ((Bool))))) = some _ := hm
         replace hq := someE hq
         subst hq
         refine eX_outX hx1 (fun hr2 => ?_)
         replace hr2 := hr2.symm
         subst hr2
         refine eX_block_hit ?_
         exact eX_J (fun hst => ⟨rfl, Fr.of hst (by kernel_rfl), F7, F8, F9, hB, hZ⟩)
       ·rintro a' w14 ⟨hJ, hF2, F10, F11, F12, hB, hZ⟩
        subst hJ
        refine Fr.goX hF2 (by kernel_rfl) ?_
        refine eX_then ?_
        refine cW_seq ?_
        refine cW_region ?_
        refine wS_pure 1 [(134, .slice A2 (y2).length cap2)] (by kernel_rfl) ?_
        obtain ⟨y10, hy10, hm⟩ := bindE hm
        refine wS_calls (d := 135) (f := 13) (vs := [.slice A2 (y2).length cap2]) (by kernel_rfl) ent13 (c_impl_BoxOf hy10 (F10.sl encII_ok)) ?_
        rintro _ w15 ⟨rfl, hc13⟩
        replace F10 := F10.chg hc13 Dj.nil
        replace F11 := F11.chg hc13 notNil
        replace F12 := F12.chg hc13 Dj.nil
        replace hB := hB.inS hc13 inNil
        replace hZ := Nat.le_trans hZ hc13.size
        refine ⟨.tuple #[.agg #[.int .i64 (y10.1.1), .int .i64 (y10.1.2)], .agg #[.int .i64 (y10.2.1.1), .int .i64 (y10.2.1.2)], .bool (y10.2.2)], rfl, ?_⟩
        refine wS_pure 4 [(138, .bool (y10.2.2)), (137, .agg #[.int .i64 (y10.2.1.1), .int .i64 (y10.2.1.2)]), (136, .agg #[.int .i64 (y10.1.1), .int .i64 (y10.1.2)]), (133, .tuple #[.agg #[.int .i64 (y10.1.1), .int .i64 (y10.1.2)], .agg #[.int .i64 (y10.2.1.1), .int .i64 (y10.2.1.2)], .bool (y10.2.2)])] (by kernel_rfl) ?_
        refine wS_alloc (d := 14) (T := 27) (z := .agg #[.int .i64 (0), .int .i64 (0)]) (by kernel_rfl) (by kernel_rfl) ?_
        intro b2 w16 G5 F13 hc14
        replace F13 : Cl w16 b2 27 [.int .i64 (0), .int .i64 (0)] := F13
        have D7 : Dj fp2 [b2] := Dj.of F10.low (low1 G5)
        have D8 : Dj [b1] [b2] := Dj.of (lt1 F11.lt) (low1 G5)
        have D9 : Dj fp3 [b2] := Dj.of F12.low (low1 G5)
        replace F10 := F10.chg hc14 Dj.nil
        replace F11 := F11.chg hc14 notNil
        replace F12 := F12.chg hc14 Dj.nil
        replace hB := hB.inS hc14 inNil
        replace G5 := Nat.le_trans hZ G5
        replace hZ := Nat.le_trans hZ hc14.size
        refine wS_alloc (d := 15) (T := 27) (z := .agg #[.int .i64 (0), .int .i64 (0)]) (by kernel_rfl) (by kernel_rfl) ?_
        intro b3 w17 G6 F14 hc15
        replace F14 : Cl w17 b3 27 [.int .i64 (0), .int .i64 (0)] := F14
        have D10 : Dj fp2 [b3] := Dj.of F10.low (low1 G6)
        have D11 : Dj [b1] [b3] := Dj.of (lt1 F11.lt) (low1 G6)
        have D12 : Dj fp3 [b3] := Dj.of F12.low (low1 G6)
        have D13 : Dj [b2] [b3] := Dj.of (lt1 F13.lt) (low1 G6)
        replace F10 := F10.chg hc15 Dj.nil
        replace F11 := F11.chg hc15 notNil
        replace F12 := F12.chg hc15 Dj.nil
        replace F13 := F13.chg hc15 notNil
        replace hB := hB.inS hc15 inNil
        replace G6 := Nat.le_trans hZ G6
        replace hZ := Nat.le_trans hZ hc15.size
        refine wS_store (T := 27) (g := b2) (o := 0) (ad := ⟨b2, 0, none⟩) (v := .agg #[.int .i64 (y10.1.1), .int .i64 (y10.1.2)]) (vs := [.int .i64 (y10.1.1), .int .i64 (y10.1.2)]) (by kernel_rfl) (by rfl) sz27 (by rfl) (by rfl) F13 (by simp only [List.length_cons, List.length_nil]; omega) ?_
        intro w18 F15 hc16
        replace F10 := F10.chg hc16 D7
        replace F11 := F11.chg hc16 (dj1 D8)
        replace F12 := F12.chg hc16 D9
        replace F14 := F14.chg hc16 (dj1 (D13).symm)
        replace hB := hB.inS hc16 (inLow (low1 G5))
        replace hZ := Nat.le_trans hZ hc16.size
        replace F15 : Cl w18 b2 27 [.int .i64 (y10.1.1), .int .i64 (y10.1.2)] := F15
        clear F13
        refine wS_store (T := 27) (g := b3) (o := 0) (ad := ⟨b3, 0, none⟩) (v := .agg #[.int .i64 (y10.2.1.1), .int .i64 (y10.2.1.2)]) (vs := [.int .i64 (y10.2.1.1), .int .i64 (y10.2.1.2)]) (by kernel_rfl) (by rfl) sz27 (by rfl) (by rfl) F14 (by simp only [List.length_cons, List.length_nil]; omega) ?_
        intro w19 F16 hc17
        replace F10 := F10.chg hc17 D10
        replace F11 := F11.chg hc17 (dj1 D11)
        replace F12 := F12.chg hc17 D12
        replace F15 := F15.chg hc17 (dj1 D13)
        replace hB := hB.inS hc17 (inLow (low1 G6))
        replace hZ := Nat.le_trans hZ hc17.size
        replace F16 : Cl w19 b3 27 [.int .i64 (y10.2.1.1), .int .i64 (y10.2.1.2)] := F16
        clear F14
        refine wS_pure 1 [(16, .bool (y10.2.2))] (by kernel_rfl) ?_
        refine wS_end (by rfl) ?_
        refine eX_then ?_
        refine cW_seq ?_
        refine cW_region ?_
        refine wS_pure 1 [(140, .slice A2 (y2).length cap2)] (by kernel_rfl) ?_
        refine wS_loadA (d := 141) (T := 27) (ad := ⟨b1, 0, none⟩) (vs := [.int .i64 (y3.1), .int .i64 (y3.2)]) (by kernel_rfl) vt27 (fun i u hu => box_cells F11 0 hu (by rfl)) ?_
        obtain ⟨y11, hy11, hm⟩ := bindE hm
        refine wS_calls (d := 142) (f := 14) (vs := [.slice A2 (y2).length cap2, .agg #[.int .i64 (y3.1), .int .i64 (y3.2)]]) (by kernel_rfl) ent14 (c_impl_NearestPoint hy11 (F10.sl encII_ok)) ?_
        rintro _ w20 ⟨rfl, hc18⟩
        replace F10 := F10.chg hc18 Dj.nil
        replace F11 := F11.chg hc18 notNil
        replace F12 := F12.chg hc18 Dj.nil
        replace F15 := F15.chg hc18 notNil
        replace F16 := F16.chg hc18 notNil
        replace hB := hB.inS hc18 inNil
        replace hZ := Nat.le_trans hZ hc18.size
        refine ⟨.tuple #[.int .i64 (y11.1), .bool (y11.2)], rfl, ?_⟩
        refine wS_pure 5 [(18, .bool (y11.2)), (17, .int .i64 (y11.1)), (144, .bool (y11.2)), (143, .int .i64 (y11.1)), (139, .tuple #[.int .i64 (y11.1), .bool (y11.2)])] (by kernel_rfl) ?_
        refine wS_end (by rfl) ?_
        refine eX_then ?_
        refine cW_seq ?_
        refine cW_seq ?_
        refine cW_region ?_
        refine wS_pure 6 [(150, .bool (!(y10.2.2 == (decide ((((y2).length : Int)) > 0))))), (149, .bool (!(y10.2.2 == (decide ((((y2).length : Int)) > 0))))), (148, .bool (decide ((((y2).length : Int)) > 0))), (147, .int .i64 (((y2).length : Int))), (146, .slice A2 (y2).length cap2), (145, .bool (y10.2.2))] (by kernel_rfl) ?_
        refine wS_bool (!(y10.2.2 == (decide ((((y2).length : Int)) > 0)))) (fun hb13 => ?_) (fun hb13 => ?_)
        ·have hm := condT hb13 hm
         rewrite [hb13]
         refine wS_pure 6 [(156, .bool (true)), (155, undef), (154, undef), (153, undef), (152, undef), (151, undef)] (by kernel_rfl) ?_
         refine wS_end (by rfl) ?_
         refine eX_then ?_
         refine cW_prune [(5, .slice A2 (y2).length cap2), (6, .pointer (some ⟨b1, 0, none⟩)), (7, .slice A3 (y4.1).length cap3), (14, .pointer (some ⟨b2, 0, none⟩)), (15, .pointer (some ⟨b3, 0, none⟩)), (16, .bool (y10.2.2)), (17, .int .i64 (y11.1)), (156, .bool (true))] (by kernel_rfl) (by kernel_rfl) (fun a12 => ?_)
         refine cW_cond_t (by kernel_rfl) ?_
         refine cW_seq ?_
         refine cW_region ?_
         refine wS_pure 1 [(4, .bool (false))] (by kernel_rfl) ?_
         refine wS_end (by rfl) ?_
         refine eX_then ?_
         refine cW_ret ?_
         refine eX_then_ret ?_
         have hq : (some false : Option ((Bool))) = some _ := hm
         replace hq := someE hq
         subst hq
         refine eX_ret (vs := [.bool (false)]) [.tmp 4] (by rfl) ⟨by (show lkE _ _ _ = _); kernel_rfl, trivial⟩ ?_
         exact ⟨rfl, hB⟩
        ·have hm := condF hb13 hm
         rewrite [hb13]
         refine wS_pure 6 [(156, .bool (!(y11.2 == (decide ((((y2).length : Int)) > 0))))), (155, .bool (!(y11.2 == (decide ((((y2).length : Int)) > 0))))), (154, .bool (decide ((((y2).length : Int)) > 0))), (153, .int .i64 (((y2).length : Int))), (152, .slice A2 (y2).length cap2), (151, .bool (y11.2))] (by kernel_rfl) ?_
         refine wS_end (by rfl) ?_
         refine eX_then ?_
         refine cW_prune [(5, .slice A2 (y2).length cap2), (6, .pointer (some ⟨b1, 0, none⟩)), (7, .slice A3 (y4.1).length cap3), (14, .pointer (some ⟨b2, 0, none⟩)), (15, .pointer (some ⟨b3, 0, none⟩)), (16, .bool (y10.2.2)), (17, .int .i64 (y11.1)), (156, .bool (!(y11.2 == (decide ((((y2).length : Int)) > 0)))))] (by kernel_rfl) (by kernel_rfl) (fun a13 => ?_)
         refine cW_cond (t := !(y11.2 == (decide ((((y2).length : Int)) > 0)))) (by kernel_rfl) (fun hb14 => ?_) (fun hb14 => ?_)
         ·have hm := condT hb14 hm
          refine cW_seq ?_
          refine cW_region ?_
          refine wS_pure 1 [(4, .bool (false))] (by kernel_rfl) ?_
          refine wS_end (by rfl) ?_
          refine eX_then ?_
          refine cW_ret ?_
          refine eX_then_ret ?_
          have hq : (some false : Option ((Bool))) = some _ := hm
          replace hq := someE hq
          subst hq
          refine eX_ret (vs := [.bool (false)]) [.tmp 4] (by rfl) ⟨by (show lkE _ _ _ = _); kernel_rfl, trivial⟩ ?_
          exact ⟨rfl, hB⟩
         ·have hm := condF hb14 hm
          refine cW_skip ?_
          refine eX_then ?_
          refine cW_seq ?_
          refine cW_seq ?_
          refine cW_region ?_
          refine wS_pure 2 [(158, .bool (!y10.2.2)), (157, .bool (y10.2.2))] (by kernel_rfl) ?_
          refine wS_end (by rfl) ?_
          refine eX_then ?_
          refine cW_cond (t := !y10.2.2) (by kernel_rfl) (fun hb15 => ?_) (fun hb15 => ?_)
          ·have hm := condT hb15 hm
           refine cW_seq ?_
           refine cW_region ?_
           refine wS_pure 4 [(4, .bool ((((y4.1).length : Int)) == 0)), (161, .bool ((((y4.1).length : Int)) == 0)), (160, .int .i64 (((y4.1).length : Int))), (159, .slice A3 (y4.1).length cap3)] (by kernel_rfl) ?_
           refine wS_end (by rfl) ?_
           refine eX_then ?_
           refine cW_ret ?_
           refine eX_then_ret ?_
           have hq : (some ((((y4.1).length : Int)) == 0) : Option ((Bool))) = some _ := hm
           replace hq := someE hq
           subst hq
           refine eX_ret (vs := [.bool ((((y4.1).length : Int)) == 0)]) [.tmp 4] (by rfl) ⟨by (show lkE _ _ _ = _); kernel_rfl, trivial⟩ ?_
           exact ⟨rfl, hB⟩
          ·have hm := condF hb15 hm
           refine cW_skip ?_
           refine eX_then ?_
           refine cW_seq ?_
           refine cW_seq ?_
           refine cW_region ?_
           refine wS_pure 3 [(164, .bool (decide (y11.1 < 0))), (163, .bool (decide (y11.1 < 0))), (162, .int .i64 (y11.1))] (by kernel_rfl) ?_
           refine wS_bool (decide (y11.1 < 0)) (fun hb16 => ?_) (fun hb16 => ?_)
           ·have hm := condT hb16 hm
            rewrite [hb16]
            refine wS_pure 5 [(169, .bool (true)), (168, undef), (167, undef), (166, undef), (165, undef)] (by kernel_rfl) ?_
            refine wS_end (by rfl) ?_
            refine eX_then ?_
            refine cW_cond_t (by kernel_rfl) ?_
            refine cW_seq ?_
            refine cW_region ?_
            refine wS_pure 1 [(4, .bool (false))] (by kernel_rfl) ?_
            refine wS_end (by rfl) ?_
            refine eX_then ?_
            refine cW_ret ?_
            refine eX_then_ret ?_
            have hq : (some false : Option ((Bool))) = some _ := hm
            replace hq := someE hq
            subst hq
            refine eX_ret (vs := [.bool (false)]) [.tmp 4] (by rfl) ⟨by (show lkE _ _ _ = _); kernel_rfl, trivial⟩ ?_
            exact ⟨rfl, hB⟩
           ·have hm := condF hb16 hm
            rewrite [hb16]
            refine wS_pure 5 [(169, .bool (decide (y11.1 ≥ (((y2).length : Int))))), (168, .bool (decide (y11.1 ≥ (((y2).length : Int))))), (167, .int .i64 (((y2).length : Int))), (166, .slice A2 (y2).length cap2), (165, .int .i64 (y11.1))] (by kernel_rfl) ?_
            refine wS_end (by rfl) ?_
            refine eX_then ?_
            refine cW_cond (t := decide (y11.1 ≥ (((y2).length : Int)))) (by kernel_rfl) (fun hb17 => ?_) (fun hb17 => ?_)
            ·have hm := condT hb17 hm
             refine cW_seq ?_
             refine cW_region ?_
             refine wS_pure 1 [(4, .bool (false))] (by kernel_rfl) ?_
             refine wS_end (by rfl) ?_
             refine eX_then ?_
             refine cW_ret ?_
             refine eX_then_ret ?_
             have hq : (some false : Option ((Bool))) = some _ := hm
             replace hq := someE hq
             subst hq
             refine eX_ret (vs := [.bool (false)]) [.tmp 4] (by rfl) ⟨by (show lkE _ _ _ = _); kernel_rfl, trivial⟩ ?_
             exact ⟨rfl, hB⟩
            ·have hm := condF hb17 hm
             refine cW_skip ?_
             refine eX_then ?_
             refine cW_seq ?_
             refine cW_region ?_
             refine wS_pure 1 [(170, .agg #[.int .i64 (99), .int .i64 (99)])] (by kernel_rfl) ?_
             refine wS_alloc (d := 19) (T := 27) (z := .agg #[.int .i64 (0), .int .i64 (0)]) (by kernel_rfl) (by kernel_rfl) ?_
             intro b4 w21 G7 F17 hc19
             replace F17 : Cl w21 b4 27 [.int .i64 (0), .int .i64 (0)] := F17
             have D14 : Dj fp2 [b4] := Dj.of F10.low (low1 G7)
             have D15 : Dj [b1] [b4] := Dj.of (lt1 F11.lt) (low1 G7)
             have D16 : Dj fp3 [b4] := Dj.of F12.low (low1 G7)
             have D17 : Dj [b2] [b4] := Dj.of (lt1 F15.lt) (low1 G7)
             have D18 : Dj [b3] [b4] := Dj.of (lt1 F16.lt) (low1 G7)
             replace F10 := F10.chg hc19 Dj.nil
             replace F11 := F11.chg hc19 notNil
             replace F12 := F12.chg hc19 Dj.nil
             replace F15 := F15.chg hc19 notNil
             replace F16 := F16.chg hc19 notNil
             replace hB := hB.inS hc19 inNil
             replace G7 := Nat.le_trans hZ G7
             replace hZ := Nat.le_trans hZ hc19.size
             refine wS_store (T := 27) (g := b4) (o := 0) (ad := ⟨b4, 0, none⟩) (v := .agg #[.int .i64 (99), .int .i64 (99)]) (vs := [.int .i64 (99), .int .i64 (99)]) (by kernel_rfl) (by rfl) sz27 (by rfl) (by rfl) F17 (by simp only [List.length_cons, List.length_nil]; omega) ?_
             intro w22 F18 hc20
             replace F10 := F10.chg hc20 D14
             replace F11 := F11.chg hc20 (dj1 D15)
             replace F12 := F12.chg hc20 D16
             replace F15 := F15.chg hc20 (dj1 D17)
             replace F16 := F16.chg hc20 (dj1 D18)
             replace hB := hB.inS hc20 (inLow (low1 G7))
             replace hZ := Nat.le_trans hZ hc20.size
             replace F18 : Cl w22 b4 27 [.int .i64 (99), .int .i64 (99)] := F18
             clear F17
             refine wS_end (by rfl) ?_
             refine eX_then ?_
             refine cW_seq ?_
             refine cW_region ?_
             refine wS_pure 1 [(171, .agg #[.int .i64 (0), .int .i64 (0)])] (by kernel_rfl) ?_
             refine wS_alloc (d := 20) (T := 27) (z := .agg #[.int .i64 (0), .int .i64 (0)]) (by kernel_rfl) (by kernel_rfl) ?_
             intro b5 w23 G8 F19 hc21
             replace F19 : Cl w23 b5 27 [.int .i64 (0), .int .i64 (0)] := F19
             have D19 : Dj fp2 [b5] := Dj.of F10.low (low1 G8)
             have D20 : Dj [b1] [b5] := Dj.of (lt1 F11.lt) (low1 G8)
             have D21 : Dj fp3 [b5] := Dj.of F12.low (low1 G8)
             have D22 : Dj [b2] [b5] := Dj.of (lt1 F15.lt) (low1 G8)
             have D23 : Dj [b3] [b5] := Dj.of (lt1 F16.lt) (low1 G8)
             have D24 : Dj [b4] [b5] := Dj.of (lt1 F18.lt) (low1 G8)
             replace F10 := F10.chg hc21 Dj.nil
             replace F11 := F11.chg hc21 notNil
             replace F12 := F12.chg hc21 Dj.nil
             replace F15 := F15.chg hc21 notNil
             replace F16 := F16.chg hc21 notNil
             replace F18 := F18.chg hc21 notNil
             replace hB := hB.inS hc21 inNil
             replace G8 := Nat.le_trans hZ G8
             replace hZ := Nat.le_trans hZ hc21.size
             refine wS_store (T := 27) (g := b5) (o := 0) (ad := ⟨b5, 0, none⟩) (v := .agg #[.int .i64 (0), .int .i64 (0)]) (vs := [.int .i64 (0), .int .i64 (0)]) (by kernel_rfl) (by rfl) sz27 (by rfl) (by rfl) F19 (by simp only [List.length_cons, List.length_nil]; omega) ?_
             intro w24 F20 hc22
             replace F10 := F10.chg hc22 D19
             replace F11 := F11.chg hc22 (dj1 D20)
             replace F12 := F12.chg hc22 D21
             replace F15 := F15.chg hc22 (dj1 D22)
             replace F16 := F16.chg hc22 (dj1 D23)
             replace F18 := F18.chg hc22 (dj1 D24)
             replace hB := hB.inS hc22 (inLow (low1 G8))
             replace hZ := Nat.le_trans hZ hc22.size
             replace F20 : Cl w24 b5 27 [.int .i64 (0), .int .i64 (0)] := F20
             clear F19
             refine wS_end (by rfl) ?_
             refine eX_then ?_
             refine cW_seq ?_
             refine cW_seq ?_
             refine cW_region ?_
             refine wS_pure 1 [(21, .int .i64 (0))] (by kernel_rfl) ?_
             refine wS_end (by rfl) ?_
             refine eX_then ?_
             obtain ⟨r2, hr3, hm⟩ := bindE hm
             have hm2 := hm
             refine cW_cut (fun a' w' => ∃ x9 : Int, ∃ x10 : Int, ∃ x11 : Int, ∃ x12 : Int, Sum.inl ((x9, x10, x11, x12)) = r2 ∧ Fr 286 [(14, .pointer (some ⟨b2, 0, none⟩)), (15, .pointer (some ⟨b3, 0, none⟩)), (19, .pointer (some ⟨b4, 0, none⟩)), (20, .pointer (some ⟨b5, 0, none⟩))] a' ∧ Cl w' b2 27 [.int .i64 (y10.1.1), .int .i64 (y10.1.2)] ∧ Cl w' b3 27 [.int .i64 (y10.2.1.1), .int .i64 (y10.2.1.2)] ∧ Cl w' b4 27 [.int .i64 (x9), .int .i64 (x10)] ∧ Cl w' b5 27 [.int .i64 (x11), .int .i64 (x12)] ∧ Chg [] w0 w' ∧ w0.heap.size ≤ w'.heap.size) ?_ ?_
             ·refine cW_block ?_
              refine cW_loop _ (fun (s2 : Int × Int × Int × Int × Int) a' w' => ∃ x13 : Int, ∃ x14 : Int, ∃ x15 : Int, ∃ x16 : Int, ∃ x17 : Int, (x13, x14, x15, x16, x17) = s2 ∧ Fr 286 [(5, .slice A2 (y2).length cap2), (6, .pointer (some ⟨b1, 0, none⟩)), (7, .slice A3 (y4.1).length cap3), (14, .pointer (some ⟨b2, 0, none⟩)), (15, .pointer (some ⟨b3, 0, none⟩)), (17, .int .i64 (y11.1)), (19, .pointer (some ⟨b4, 0, none⟩)), (20, .pointer (some ⟨b5, 0, none⟩)), (21, .int .i64 (x13))] a' ∧ Ow 2 encII 27 w' fp2 A2 cap2 y2 ∧ Cl w' b1 27 [.int .i64 (y3.1), .int .i64 (y3.2)] ∧ Ow 2 encII 27 w' fp3 A3 cap3 y4.1 ∧ Cl w' b2 27 [.int .i64 (y10.1.1), .int .i64 (y10.1.2)] ∧ Cl w' b3 27 [.int .i64 (y10.2.1.1), .int .i64 (y10.2.1.2)] ∧ Cl w' b4 27 [.int .i64 (x14), .int .i64 (x15)] ∧ Cl w' b5 27 [.int .i64 (x16), .int .i64 (x17)] ∧ Chg [] w0 w' ∧ w0.heap.size ≤ w'.heap.size) hr3 (fun hst => ⟨0, 99, 99, 0, 0, rfl, Fr.of hst (by kernel_rfl), F10, F11, F12, F15, F16, F18, F20, hB, hZ⟩) ?_
              rintro _ c2 a' w25 ⟨x13, x14, x15, x16, x17, rfl, hF3, F21, F22, F23, F24, F25, F26, F27, hB, hZ⟩ hx9
              refine Fr.goOn hF3 (by kernel_rfl) ?_
              have hm := hx9
              unfold m_laws_FnPoints_s2 at hm
              refine cW_seq ?_
              refine cW_seq ?_
              refine cW_region ?_
              refine wS_pure 4 [(175, .bool (decide (x13 < (((y2).length : Int))))), (174, .int .i64 (((y2).length : Int))), (173, .slice A2 (y2).length cap2), (172, .int .i64 (x13))] (by kernel_rfl) ?_
              refine wS_end (by rfl) ?_
              refine eX_then ?_
              refine cW_cond (t := decide (x13 < (((y2).length : Int)))) (by kernel_rfl) (fun hb18 => ?_) (fun hb18 => ?_)
              ·have hm := condT hb18 hm
               refine cW_skip ?_
               refine eX_then ?_
               refine cW_seq ?_
               refine cW_block ?_
               refine cW_seq ?_
               refine cW_region ?_
               refine wS_pure 2 [(179, .int .i64 (x13)), (178, .slice A2 (y2).length cap2)] (by kernel_rfl) ?_
               obtain ⟨x18, hx10, hm⟩ := bindE hm
               refine wS_idx (d := 180) (T := 24) (A := A2) (n := (y2).length) (cap := cap2) (kd := .i64) (m := x13) (by kernel_rfl) sl24 ((F21.sl encII_ok).is hx10) ?_
               refine wS_loadA (d := 181) (T := 27) (ad := (elA A2 2 (x13) 0)) (vs := [.int .i64 (x18.1), .int .i64 (x18.2)]) (by kernel_rfl) vt27 (fun i u hu => Sl.cells_at (F21.sl encII_ok) hx10 0 hu (by rfl)) ?_
               refine wS_alloc (d := 22) (T := 27) (z := .agg #[.int .i64 (0), .int .i64 (0)]) (by kernel_rfl) (by kernel_rfl) ?_
               intro b6 w26 G9 F28 hc23
               replace F28 : Cl w26 b6 27 [.int .i64 (0), .int .i64 (0)] := F28
               have D25 : Dj fp2 [b6] := Dj.of F21.low (low1 G9)
               have D26 : Dj [b1] [b6] := Dj.of (lt1 F22.lt) (low1 G9)
               have D27 : Dj fp3 [b6] := Dj.of F23.low (low1 G9)
               have D28 : Dj [b2] [b6] := Dj.of (lt1 F24.lt) (low1 G9)
               have D29 : Dj [b3] [b6] := Dj.of (lt1 F25.lt) (low1 G9)
               have D30 : Dj [b4] [b6] := Dj.of (lt1 F26.lt) (low1 G9)
               have D31 : Dj [b5] [b6] := Dj.of (lt1 F27.lt) (low1 G9)
               replace F21 := F21.chg hc23 Dj.nil
               replace F22 := F22.chg hc23 notNil
               replace F23 := F23.chg hc23 Dj.nil
               replace F24 := F24.chg hc23 notNil
               replace F25 := F25.chg hc23 notNil
               replace F26 := F26.chg hc23 notNil
               replace F27 := F27.chg hc23 notNil
               replace hB := hB.inS hc23 inNil
               replace G9 := Nat.le_trans hZ G9
               replace hZ := Nat.le_trans hZ hc23.size
               refine wS_store (T := 27) (g := b6) (o := 0) (ad := ⟨b6, 0, none⟩) (v := .agg #[.int .i64 (x18.1), .int .i64 (x18.2)]) (vs := [.int .i64 (x18.1), .int .i64 (x18.2)]) (by kernel_rfl) (by rfl) sz27 (by rfl) (by rfl) F28 (by simp only [List.length_cons, List.length_nil]; omega) ?_
               intro w27 F29 hc24
               replace F21 := F21.chg hc24 D25
               replace F22 := F22.chg hc24 (dj1 D26)
               replace F23 := F23.chg hc24 D27
               replace F24 := F24.chg hc24 (dj1 D28)
               replace F25 := F25.chg hc24 (dj1 D29)
               replace F26 := F26.chg hc24 (dj1 D30)
               replace F27 := F27.chg hc24 (dj1 D31)
               replace hB := hB.inS hc24 (inLow (low1 G9))
               replace hZ := Nat.le_trans hZ hc24.size
               replace F29 : Cl w27 b6 27 [.int .i64 (x18.1), .int .i64 (x18.2)] := F29
               clear F28
               refine wS_end (by rfl) ?_
               refine eX_then ?_
               refine cW_seq ?_
               refine cW_region ?_
               refine wS_loadA (d := 183) (T := 27) (ad := ⟨b1, 0, none⟩) (vs := [.int .i64 (y3.1), .int .i64 (y3.2)]) (by kernel_rfl) vt27 (fun i u hu => box_cells F22 0 hu (by rfl)) ?_
               refine wS_loadA (d := 184) (T := 27) (ad := ⟨b6, 0, none⟩) (vs := [.int .i64 (x18.1), .int .i64 (x18.2)]) (by kernel_rfl) vt27 (fun i u hu => box_cells F29 0 hu (by rfl)) ?_
               obtain ⟨y12, hy12, hm⟩ := bindE hm
               refine wS_calls (d := 185) (f := 15) (vs := [.agg #[.int .i64 (y3.1), .int .i64 (y3.2)], .agg #[.int .i64 (x18.1), .int .i64 (x18.2)]]) (by kernel_rfl) ent15 (c_impl_DistanceOf hy12) ?_
               rintro _ w28 ⟨rfl, hc25⟩
               replace F21 := F21.chg hc25 Dj.nil
               replace F22 := F22.chg hc25 notNil
               replace F23 := F23.chg hc25 Dj.nil
               replace F24 := F24.chg hc25 notNil
               replace F25 := F25.chg hc25 notNil
               replace F26 := F26.chg hc25 notNil
               replace F27 := F27.chg hc25 notNil
               replace F29 := F29.chg hc25 notNil
               replace hB := hB.inS hc25 inNil
               replace hZ := Nat.le_trans hZ hc25.size
               refine ⟨.tuple #[.int .i64 (y12.1), .bool (y12.2)], rfl, ?_⟩
               refine wS_pure 5 [(24, .bool (y12.2)), (23, .int .i64 (y12.1)), (187, .bool (y12.2)), (186, .int .i64 (y12.1)), (182, .tuple #[.int .i64 (y12.1), .bool (y12.2)])] (by kernel_rfl) ?_
               refine wS_end (by rfl) ?_
               refine eX_then ?_
               refine cW_prune [(5, .slice A2 (y2).length cap2), (6, .pointer (some ⟨b1, 0, none⟩)), (7, .slice A3 (y4.1).length cap3), (14, .pointer (some ⟨b2, 0, none⟩)), (15, .pointer (some ⟨b3, 0, none⟩)), (17, .int .i64 (y11.1)), (19, .pointer (some ⟨b4, 0, none⟩)), (20, .pointer (some ⟨b5, 0, none⟩)), (21, .int .i64 (x13)), (22, .pointer (some ⟨b6, 0, none⟩)), (23, .int .i64 (y12.1)), (24, .bool (y12.2))] (by kernel_rfl) (by kernel_rfl) (fun a14 => ?_)
               refine cW_seq ?_
               refine cW_region ?_
               refine wS_loadA (d := 189) (T := 27) (ad := ⟨b6, 0, none⟩) (vs := [.int .i64 (x18.1), .int .i64 (x18.2)]) (by kernel_rfl) vt27 (fun i u hu => box_cells F29 0 hu (by rfl)) ?_
               refine wS_loadA (d := 190) (T := 27) (ad := ⟨b1, 0, none⟩) (vs := [.int .i64 (y3.1), .int .i64 (y3.2)]) (by kernel_rfl) vt27 (fun i u hu => box_cells F22 0 hu (by rfl)) ?_
               obtain ⟨y13, hy13, hm⟩ := bindE hm
               refine wS_calls (d := 191) (f := 15) (vs := [.agg #[.int .i64 (x18.1), .int .i64 (x18.2)], .agg #[.int .i64 (y3.1), .int .i64 (y3.2)]]) (by kernel_rfl) ent15 (c_impl_DistanceOf hy13) ?_
               rintro _ w29 ⟨rfl, hc26⟩
               replace F21 := F21.chg hc26 Dj.nil
               replace F22 := F22.chg hc26 notNil
               replace F23 := F23.chg hc26 Dj.nil
               replace F24 := F24.chg hc26 notNil
               replace F25 := F25.chg hc26 notNil
               replace F26 := F26.chg hc26 notNil
               replace F27 := F27.chg hc26 notNil
               replace F29 := F29.chg hc26 notNil
               replace hB := hB.inS hc26 inNil
               replace hZ := Nat.le_trans hZ hc26.size
               refine ⟨.tuple #[.int .i64 (y13.1), .bool (y13.2)], rfl, ?_⟩
               refine wS_pure 5 [(26, .bool (y13.2)), (25, .int .i64 (y13.1)), (193, .bool (y13.2)), (192, .int .i64 (y13.1)), (188, .tuple #[.int .i64 (y13.1), .bool (y13.2)])] (by kernel_rfl) ?_
               refine wS_end (by rfl) ?_
               refine eX_then ?_
               refine cW_seq ?_
               refine cW_drawnTail [] 10 (by kernel_rfl) (by kernel_rfl) (fun w30 hc27 => ?_)
               replace F21 := F21.chg hc27 Dj.nil
               replace F22 := F22.chg hc27 notNil
               replace F23 := F23.chg hc27 Dj.nil
               replace F24 := F24.chg hc27 notNil
               replace F25 := F25.chg hc27 notNil
               replace F26 := F26.chg hc27 notNil
               replace F27 := F27.chg hc27 notNil
               replace F29 := F29.chg hc27 notNil
               replace hB := hB.inS hc27 inNil
               replace hZ := Nat.le_trans hZ hc27.size
               have hS := Chg.refl [] w30
               have Z4 := F21
               have Z5 := F22
               have Z6 := F23
               have Z7 := F24
               have Z8 := F25
               have Z9 := F26
               have Z10 := F27
               have Z11 := F29
               refine wH_loadA (i := 0) (d := 195) (T := 27) (ad := ⟨b6, 0, none⟩) (vs := [.int .i64 (x18.1), .int .i64 (x18.2)]) (by kernel_rfl) (qT (qT (qB (qT (qL (qB (qT (qT qZ)))))))) (by kernel_rfl) (by kernel_rfl) vt27 (fun W hW i u hu => box_cells (Z11.chg hW notNil) 0 hu (by rfl)) ?_
               refine wH_take [1, 2] [2, 1, 0] [(197, .int .i64 (y11.1)), (196, .slice A2 (y2).length cap2)] (by kernel_rfl) (qT (qT (qB (qT (qL (qB (qT (qT qZ)))))))) (by kernel_rfl) ?_
               obtain ⟨x19, hx11, hm⟩ := bindE hm
               refine wH_idx (i := 3) (d := 198) (T := 24) (A := A2) (n := (y2).length) (cap := cap2) (kd := .i64) (m := y11.1) (by kernel_rfl) (qT (qT (qB (qT (qL (qB (qT (qT qZ)))))))) (by kernel_rfl) (by kernel_rfl) sl24 ((F21.sl encII_ok).is hx11) ?_
               refine wH_loadA (i := 4) (d := 199) (T := 27) (ad := (elA A2 2 (y11.1) 0)) (vs := [.int .i64 (x19.1), .int .i64 (x19.2)]) (by kernel_rfl) (qT (qT (qB (qT (qL (qB (qT (qT qZ)))))))) (by kernel_rfl) (by kernel_rfl) vt27 (fun W hW i u hu => Sl.cells_at ((Z4.chg hW Dj.nil).sl encII_ok) hx11 0 hu (by rfl)) ?_
               refine wH_all [5] (by rfl) (by kernel_rfl) (by simp) ⟨⟨by kernel_rfl, ?_⟩, trivial⟩
               obtain ⟨y14, hy14, hm⟩ := bindE hm
               refine wS_calls (d := 200) (f := 15) (vs := [.agg #[.int .i64 (x18.1), .int .i64 (x18.2)], .agg #[.int .i64 (x19.1), .int .i64 (x19.2)]]) (by kernel_rfl) ent15 (c_impl_DistanceOf hy14) ?_
               rintro _ w31 ⟨rfl, hc28⟩
               replace F21 := F21.chg hc28 Dj.nil
               replace F22 := F22.chg hc28 notNil
               replace F23 := F23.chg hc28 Dj.nil
               replace F24 := F24.chg hc28 notNil
               replace F25 := F25.chg hc28 notNil
               replace F26 := F26.chg hc28 notNil
               replace F27 := F27.chg hc28 notNil
               replace F29 := F29.chg hc28 notNil
               replace hB := hB.inS hc28 inNil
               have hSz := hS
               replace hS := hS.inS hc28 inNil
               replace hZ := Nat.le_trans hZ hc28.size
               refine ⟨.tuple #[.int .i64 (y14.1), .bool (y14.2)], rfl, ?_⟩
               refine wS_end (by kernel_rfl) ?_
               refine eX_KH hS ?_
               refine wH_take [6, 7, 8, 9] [9, 8, 7, 6, 5, 4, 3, 2, 1, 0] [(27, .int .i64 (y14.1)), (202, .bool (y14.2)), (201, .int .i64 (y14.1)), (194, .tuple #[.int .i64 (y14.1), .bool (y14.2)])] (by kernel_rfl) (qT (qT (qB (qT (qL (qB (qT (qT qZ)))))))) (by kernel_rfl) ?_
               refine wH_done (by kernel_rfl) ?_
               refine eX_tail ?_
               refine wS_pure 1 [(28, .bool (y14.2))] (by kernel_rfl) ?_
               refine wS_end (by rfl) ?_
               refine eX_then ?_
               refine cW_prune [(5, .slice A2 (y2).length cap2), (6, .pointer (some ⟨b1, 0, none⟩)), (7, .slice A3 (y4.1).length cap3), (14, .pointer (some ⟨b2, 0, none⟩)), (15, .pointer (some ⟨b3, 0, none⟩)), (17, .int .i64 (y11.1)), (19, .pointer (some ⟨b4, 0, none⟩)), (20, .pointer (some ⟨b5, 0, none⟩)), (21, .int .i64 (x13)), (22, .pointer (some ⟨b6, 0, none⟩)), (23, .int .i64 (y12.1)), (24, .bool (y12.2)), (25, .int .i64 (y13.1)), (26, .bool (y13.2)), (27, .int .i64 (y14.1)), (28, .bool (y14.2))] (by kernel_rfl) (by kernel_rfl) (fun a15 => ?_)
               refine cW_seq ?_
               refine cW_drawnTail [] 10 (by kernel_rfl) (by kernel_rfl) (fun w32 hc29 => ?_)
               replace F21 := F21.chg hc29 Dj.nil
               replace F22 := F22.chg hc29 notNil
               replace F23 := F23.chg hc29 Dj.nil
               replace F24 := F24.chg hc29 notNil
               replace F25 := F25.chg hc29 notNil
               replace F26 := F26.chg hc29 notNil
               replace F27 := F27.chg hc29 notNil
               replace F29 := F29.chg hc29 notNil
               replace hB := hB.inS hc29 inNil
               replace hZ := Nat.le_trans hZ hc29.size
               have hS := Chg.refl [] w32
               have Z12 := F21
               have Z13 := F22
               have Z14 := F23
               have Z15 := F24
               have Z16 := F25
               have Z17 := F26
               have Z18 := F27
               have Z19 := F29
               refine wH_loadA (i := 0) (d := 204) (T := 27) (ad := ⟨b1, 0, none⟩) (vs := [.int .i64 (y3.1), .int .i64 (y3.2)]) (by kernel_rfl) (qT (qT (qB (qT (qL (qB (qT (qT qZ)))))))) (by kernel_rfl) (by kernel_rfl) vt27 (fun W hW i u hu => box_cells (Z13.chg hW notNil) 0 hu (by rfl)) ?_
               refine wH_take [1, 2] [2, 1, 0] [(206, .int .i64 (y11.1)), (205, .slice A2 (y2).length cap2)] (by kernel_rfl) (qT (qT (qB (qT (qL (qB (qT (qT qZ)))))))) (by kernel_rfl) ?_
               obtain ⟨x20, hx12, hm⟩ := bindE hm
               refine wH_idx (i := 3) (d := 207) (T := 24) (A := A2) (n := (y2).length) (cap := cap2) (kd := .i64) (m := y11.1) (by kernel_rfl) (qT (qT (qB (qT (qL (qB (qT (qT qZ)))))))) (by kernel_rfl) (by kernel_rfl) sl24 ((F21.sl encII_ok).is hx12) ?_
               refine wH_loadA (i := 4) (d := 208) (T := 27) (ad := (elA A2 2 (y11.1) 0)) (vs := [.int .i64 (x20.1), .int .i64 (x20.2)]) (by kernel_rfl) (qT (qT (qB (qT (qL (qB (qT (qT qZ)))))))) (by kernel_rfl) (by kernel_rfl) vt27 (fun W hW i u hu => Sl.cells_at ((Z12.chg hW Dj.nil).sl encII_ok) hx12 0 hu (by rfl)) ?_
               refine wH_all [5] (by rfl) (by kernel_rfl) (by simp) ⟨⟨by kernel_rfl, ?_⟩, trivial⟩
               obtain ⟨y15, hy15, hm⟩ := bindE hm
               refine wS_calls (d := 209) (f := 15) (vs := [.agg #[.int .i64 (y3.1), .int .i64 (y3.2)], .agg #[.int .i64 (x20.1), .int .i64 (x20.2)]]) (by kernel_rfl) ent15 (c_impl_DistanceOf hy15) ?_
               rintro _ w33 ⟨rfl, hc30⟩
               replace F21 := F21.chg hc30 Dj.nil
               replace F22 := F22.chg hc30 notNil
               replace F23 := F23.chg hc30 Dj.nil
               replace F24 := F24.chg hc30 notNil
               replace F25 := F25.chg hc30 notNil
               replace F26 := F26.chg hc30 notNil
               replace F27 := F27.chg hc30 notNil
               replace F29 := F29.chg hc30 notNil
               replace hB := hB.inS hc30 inNil
               have hSz := hS
               replace hS := hS.inS hc30 inNil
               replace hZ := Nat.le_trans hZ hc30.size
               refine ⟨.tuple #[.int .i64 (y15.1), .bool (y15.2)], rfl, ?_⟩
               refine wS_end (by kernel_rfl) ?_
               refine eX_KH hS ?_
               refine wH_take [6, 7, 8, 9] [9, 8, 7, 6, 5, 4, 3, 2, 1, 0] [(29, .int .i64 (y15.1)), (211, .bool (y15.2)), (210, .int .i64 (y15.1)), (203, .tuple #[.int .i64 (y15.1), .bool (y15.2)])] (by kernel_rfl) (qT (qT (qB (qT (qL (qB (qT (qT qZ)))))))) (by kernel_rfl) ?_
               refine wH_done (by kernel_rfl) ?_
               refine eX_tail ?_
               refine wS_pure 1 [(30, .bool (y15.2))] (by kernel_rfl) ?_
               refine wS_end (by rfl) ?_
               refine eX_then ?_
               refine cW_prune [(5, .slice A2 (y2).length cap2), (6, .pointer (some ⟨b1, 0, none⟩)), (7, .slice A3 (y4.1).length cap3), (14, .pointer (some ⟨b2, 0, none⟩)), (15, .pointer (some ⟨b3, 0, none⟩)), (17, .int .i64 (y11.1)), (19, .pointer (some ⟨b4, 0, none⟩)), (20, .pointer (some ⟨b5, 0, none⟩)), (21, .int .i64 (x13)), (22, .pointer (some ⟨b6, 0, none⟩)), (23, .int .i64 (y12.1)), (24, .bool (y12.2)), (25, .int .i64 (y13.1)), (26, .bool (y13.2)), (27, .int .i64 (y14.1)), (28, .bool (y14.2)), (29, .int .i64 (y15.1)), (30, .bool (y15.2))] (by kernel_rfl) (by kernel_rfl) (fun a16 => ?_)
               refine cW_seq ?_
               refine cW_seq ?_
               refine cW_region ?_
               refine wS_pure 3 [(214, .bool (!y12.2)), (213, .bool (!y12.2)), (212, .bool (y12.2))] (by kernel_rfl) ?_
               refine wS_bool (!y12.2) (fun hb19 => ?_) (fun hb19 => ?_)
               ·have hm := condT hb19 hm
                rewrite [hb19]
                refine wS_pure 41 [(255, .bool (true)), (254, undef), (253, undef), (252, undef), (251, undef), (250, .bool (true)), (249, .bool (true)), (248, undef), (247, undef), (246, undef), (245, undef), (244, undef), (243, .bool (true)), (242, .bool (true)), (241, undef), (240, undef), (239, undef), (238, .bool (true)), (237, .bool (true)), (236, undef), (235, undef), (234, undef), (233, undef), (232, undef), (231, .bool (true)), (230, .bool (true)), (229, undef), (228, undef), (227, undef), (226, .bool (true)), (225, .bool (true)), (224, undef), (223, undef), (222, .bool (true)), (221, .bool (true)), (220, undef), (219, undef), (218, .bool (true)), (217, .bool (true)), (216, undef), (215, undef)] (by kernel_rfl) ?_
                refine wS_end (by rfl) ?_
                refine eX_then ?_
                refine cW_prune [(5, .slice A2 (y2).length cap2), (6, .pointer (some ⟨b1, 0, none⟩)), (7, .slice A3 (y4.1).length cap3), (14, .pointer (some ⟨b2, 0, none⟩)), (15, .pointer (some ⟨b3, 0, none⟩)), (17, .int .i64 (y11.1)), (19, .pointer (some ⟨b4, 0, none⟩)), (20, .pointer (some ⟨b5, 0, none⟩)), (21, .int .i64 (x13)), (22, .pointer (some ⟨b6, 0, none⟩)), (255, .bool (true))] (by kernel_rfl) (by kernel_rfl) (fun a17 => ?_)
                refine cW_cond_t (by kernel_rfl) ?_
                refine cW_seq ?_
                refine cW_region ?_
                refine wS_pure 1 [(4, .bool (false))] (by kernel_rfl) ?_
                refine wS_end (by rfl) ?_
                refine eX_then ?_
                refine cW_ret ?_
                refine eX_then_ret ?_
                refine eX_block_ret ?_
                refine eX_then_ret ?_
                have hq : (some (Ctl.out (Sum.inr false)) : Option (Ctl (Int × Int × Int × Int × Int) (Sum (Int × Int × Int × Int) ((Bool))))) = some _ := hm
                replace hq := someE hq
                subst hq
                refine eX_outR hx9 (fun hr => ?_)
                subst hr
                refine eX_block_ret ?_
                refine eX_then_ret ?_
                refine eX_then_ret ?_
                have hq : (some false : Option ((Bool))) = some _ := hm2
                replace hq := someE hq
                subst hq
                refine eX_ret (vs := [.bool (false)]) [.tmp 4] (by rfl) ⟨by (show lkE _ _ _ = _); kernel_rfl, trivial⟩ ?_
                exact ⟨rfl, hB⟩
               ·have hm := condF hb19 hm
                rewrite [hb19]
                refine wS_pure 4 [(218, .bool (!y13.2)), (217, .bool (!y13.2)), (216, .bool (!y13.2)), (215, .bool (y13.2))] (by kernel_rfl) ?_
                refine wS_bool (!y13.2) (fun hb20 => ?_) (fun hb20 => ?_)
                ·have hm := condT hb20 hm
                 rewrite [hb20]
                 refine wS_pure 37 [(255, .bool (true)), (254, undef), (253, undef), (252, undef), (251, undef), (250, .bool (true)), (249, .bool (true)), (248, undef), (247, undef), (246, undef), (245, undef), (244, undef), (243, .bool (true)), (242, .bool (true)), (241, undef), (240, undef), (239, undef), (238, .bool (true)), (237, .bool (true)), (236, undef), (235, undef), (234, undef), (233, undef), (232, undef), (231, .bool (true)), (230, .bool (true)), (229, undef), (228, undef), (227, undef), (226, .bool (true)), (225, .bool (true)), (224, undef), (223, undef), (222, .bool (true)), (221, .bool (true)), (220, undef), (219, undef)] (by kernel_rfl) ?_
                 refine wS_end (by rfl) ?_
                 refine eX_then ?_
                 refine cW_prune [(5, .slice A2 (y2).length cap2), (6, .pointer (some ⟨b1, 0, none⟩)), (7, .slice A3 (y4.1).length cap3), (14, .pointer (some ⟨b2, 0, none⟩)), (15, .pointer (some ⟨b3, 0, none⟩)), (17, .int .i64 (y11.1)), (19, .pointer (some ⟨b4, 0, none⟩)), (20, .pointer (some ⟨b5, 0, none⟩)), (21, .int .i64 (x13)), (22, .pointer (some ⟨b6, 0, none⟩)), (255, .bool (true))] (by kernel_rfl) (by kernel_rfl) (fun a18 => ?_)
                 refine cW_cond_t (by kernel_rfl) ?_
                 refine cW_seq ?_
                 refine cW_region ?_
                 refine wS_pure 1 [(4, .bool (false))] (by kernel_rfl) ?_
                 refine wS_end (by rfl) ?_
                 refine eX_then ?_
                 refine cW_ret ?_
                 refine eX_then_ret ?_
                 refine eX_block_ret ?_
                 refine eX_then_ret ?_
                 have hq : (some (Ctl.out (Sum.inr false)) : Option (Ctl (Int × Int × Int × Int × Int) (Sum (Int × Int × Int × Int) ((Bool))))) = some _ := hm
                 replace hq := someE hq
                 subst hq
                 refine eX_outR hx9 (fun hr => ?_)
                 subst hr
                 refine eX_block_ret ?_
                 refine eX_then_ret ?_
                 refine eX_then_ret ?_
                 have hq : (some false : Option ((Bool))) = some _ := hm2
                 replace hq := someE hq
                 subst hq
                 refine eX_ret (vs := [.bool (false)]) [.tmp 4] (by rfl) ⟨by (show lkE _ _ _ = _); kernel_rfl, trivial⟩ ?_
                 exact ⟨rfl, hB⟩
                ·have hm := condF hb20 hm
                 rewrite [hb20]
                 refine wS_pure 4 [(222, .bool (!y14.2)), (221, .bool (!y14.2)), (220, .bool (!y14.2)), (219, .bool (y14.2))] (by kernel_rfl) ?_
                 refine wS_bool (!y14.2) (fun hb21 => ?_) (fun hb21 => ?_)
                 ·have hm := condT hb21 hm
                  rewrite [hb21]
                  refine wS_pure 33 [(255, .bool (true)), (254, undef), (253, undef), (252, undef), (251, undef), (250, .bool (true)), (249, .bool (true)), (248, undef), (247, undef), (246, undef), (245, undef), (244, undef), (243, .bool (true)), (242, .bool (true)), (241, undef), (240, undef), (239, undef), (238, .bool (true)), (237, .bool (true)), (236, undef), (235, undef), (234, undef), (233, undef), (232, undef), (231, .bool (true)), (230, .bool (true)), (229, undef), (228, undef), (227, undef), (226, .bool (true)), (225, .bool (true)), (224, undef), (223, undef)] (by kernel_rfl) ?_
                  refine wS_end (by rfl) ?_
                  refine eX_then ?_
                  refine cW_prune [(5, .slice A2 (y2).length cap2), (6, .pointer (some ⟨b1, 0, none⟩)), (7, .slice A3 (y4.1).length cap3), (14, .pointer (some ⟨b2, 0, none⟩)), (15, .pointer (some ⟨b3, 0, none⟩)), (17, .int .i64 (y11.1)), (19, .pointer (some ⟨b4, 0, none⟩)), (20, .pointer (some ⟨b5, 0, none⟩)), (21, .int .i64 (x13)), (22, .pointer (some ⟨b6, 0, none⟩)), (255, .bool (true))] (by kernel_rfl) (by kernel_rfl) (fun a19 => ?_)
                  refine cW_cond_t (by kernel_rfl) ?_
                  refine cW_seq ?_
                  refine cW_region ?_
                  refine wS_pure 1 [(4, .bool (false))] (by kernel_rfl) ?_
                  refine wS_end (by rfl) ?_
                  refine eX_then ?_
                  refine cW_ret ?_
                  refine eX_then_ret ?_
                  refine eX_block_ret ?_
                  refine eX_then_ret ?_
                  have hq : (some (Ctl.out (Sum.inr false)) : Option (Ctl (Int × Int × Int × Int × Int) (Sum (Int × Int × Int × Int) ((Bool))))) = some _ := hm
                  replace hq := someE hq
                  subst hq
                  refine eX_outR hx9 (fun hr => ?_)
                  subst hr
                  refine eX_block_ret ?_
                  refine eX_then_ret ?_
                  refine eX_then_ret ?_
                  have hq : (some false : Option ((Bool))) = some _ := hm2
                  replace hq := someE hq
                  subst hq
                  refine eX_ret (vs := [.bool (false)]) [.tmp 4] (by rfl) ⟨by (show lkE _ _ _ = _); kernel_rfl, trivial⟩ ?_
                  exact ⟨rfl, hB⟩
                 ·have hm := condF hb21 hm
                  rewrite [hb21]
                  refine wS_pure 4 [(226, .bool (!y15.2)), (225, .bool (!y15.2)), (224, .bool (!y15.2)), (223, .bool (y15.2))] (by kernel_rfl) ?_
                  refine wS_bool (!y15.2) (fun hb22 => ?_) (fun hb22 => ?_)
                  ·have hm := condT hb22 hm
                   rewrite [hb22]
                   refine wS_pure 29 [(255, .bool (true)), (254, undef), (253, undef), (252, undef), (251, undef), (250, .bool (true)), (249, .bool (true)), (248, undef), (247, undef), (246, undef), (245, undef), (244, undef), (243, .bool (true)), (242, .bool (true)), (241, undef), (240, undef), (239, undef), (238, .bool (true)), (237, .bool (true)), (236, undef), (235, undef), (234, undef), (233, undef), (232, undef), (231, .bool (true)), (230, .bool (true)), (229, undef), (228, undef), (227, undef)] (by kernel_rfl) ?_
                   refine wS_end (by rfl) ?_
                   refine eX_then ?_
                   refine cW_prune [(5, .slice A2 (y2).length cap2), (6, .pointer (some ⟨b1, 0, none⟩)), (7, .slice A3 (y4.1).length cap3), (14, .pointer (some ⟨b2, 0, none⟩)), (15, .pointer (some ⟨b3, 0, none⟩)), (17, .int .i64 (y11.1)), (19, .pointer (some ⟨b4, 0, none⟩)), (20, .pointer (some ⟨b5, 0, none⟩)), (21, .int .i64 (x13)), (22, .pointer (some ⟨b6, 0, none⟩)), (255, .bool (true))] (by kernel_rfl) (by kernel_rfl) (fun a20 => ?_)
                   refine cW_cond_t (by kernel_rfl) ?_
                   refine cW_seq ?_
                   refine cW_region ?_
                   refine wS_pure 1 [(4, .bool (false))] (by kernel_rfl) ?_
                   refine wS_end (by rfl) ?_
                   refine eX_then ?_
                   refine cW_ret ?_
                   refine eX_then_ret ?_
                   refine eX_block_ret ?_
                   refine eX_then_ret ?_
                   have hq : (some (Ctl.out (Sum.inr false)) : Option (Ctl (Int × Int × Int × Int × Int) (Sum (Int × Int × Int × Int) ((Bool))))) = some _ := hm
                   replace hq := someE hq
                   subst hq
                   refine eX_outR hx9 (fun hr => ?_)
                   subst hr
                   refine eX_block_ret ?_
                   refine eX_then_ret ?_
                   refine eX_then_ret ?_
                   have hq : (some false : Option ((Bool))) = some _ := hm2
                   replace hq := someE hq
                   subst hq
                   refine eX_ret (vs := [.bool (false)]) [.tmp 4] (by rfl) ⟨by (show lkE _ _ _ = _); kernel_rfl, trivial⟩ ?_
                   exact ⟨rfl, hB⟩
                  ·have hm := condF hb22 hm
                   rewrite [hb22]
                   refine wS_pure 5 [(231, .bool (y12.1 != y13.1)), (230, .bool (y12.1 != y13.1)), (229, .bool (y12.1 != y13.1)), (228, .int .i64 (y13.1)), (227, .int .i64 (y12.1))] (by kernel_rfl) ?_
                   refine wS_bool (y12.1 != y13.1) (fun hb23 => ?_) (fun hb23 => ?_)
                   ·have hm := condT hb23 hm
                    rewrite [hb23]
                    refine wS_pure 24 [(255, .bool (true)), (254, undef), (253, undef), (252, undef), (251, undef), (250, .bool (true)), (249, .bool (true)), (248, undef), (247, undef), (246, undef), (245, undef), (244, undef), (243, .bool (true)), (242, .bool (true)), (241, undef), (240, undef), (239, undef), (238, .bool (true)), (237, .bool (true)), (236, undef), (235, undef), (234, undef), (233, undef), (232, undef)] (by kernel_rfl) ?_
                    refine wS_end (by rfl) ?_
                    refine eX_then ?_
                    refine cW_prune [(5, .slice A2 (y2).length cap2), (6, .pointer (some ⟨b1, 0, none⟩)), (7, .slice A3 (y4.1).length cap3), (14, .pointer (some ⟨b2, 0, none⟩)), (15, .pointer (some ⟨b3, 0, none⟩)), (17, .int .i64 (y11.1)), (19, .pointer (some ⟨b4, 0, none⟩)), (20, .pointer (some ⟨b5, 0, none⟩)), (21, .int .i64 (x13)), (22, .pointer (some ⟨b6, 0, none⟩)), (255, .bool (true))] (by kernel_rfl) (by kernel_rfl) (fun a21 => ?_)
                    refine cW_cond_t (by kernel_rfl) ?_
                    refine cW_seq ?_
                    refine cW_region ?_
                    refine wS_pure 1 [(4, .bool (false))] (by kernel_rfl) ?_
                    refine wS_end (by rfl) ?_
                    refine eX_then ?_
                    refine cW_ret ?_
                    refine eX_then_ret ?_
                    refine eX_block_ret ?_
                    refine eX_then_ret ?_
                    have hq : (some (Ctl.out (Sum.inr false)) : Option (Ctl (Int × Int × Int × Int × Int) (Sum (Int × Int × Int × Int) ((Bool))))) = some _ := hm
                    replace hq := someE hq
                    subst hq
                    refine eX_outR hx9 (fun hr => ?_)
                    subst hr
                    refine eX_block_ret ?_
                    refine eX_then_ret ?_
                    refine eX_then_ret ?_
                    have hq : (some false : Option ((Bool))) = some _ := hm2
                    replace hq := someE hq
                    subst hq
                    refine eX_ret (vs := [.bool (false)]) [.tmp 4] (by rfl) ⟨by (show lkE _ _ _ = _); kernel_rfl, trivial⟩ ?_
                    exact ⟨rfl, hB⟩
                   ·have hm := condF hb23 hm
                    rewrite [hb23]
                    refine wS_pure 1 [(232, .int .i64 (y12.1))] (by kernel_rfl) ?_
                    refine wS_loadA (d := 233) (T := 27) (ad := ⟨b1, 0, none⟩) (vs := [.int .i64 (y3.1), .int .i64 (y3.2)]) (by kernel_rfl) vt27 (fun i u hu => box_cells F22 0 hu (by rfl)) ?_
                    refine wS_loadA (d := 234) (T := 27) (ad := ⟨b6, 0, none⟩) (vs := [.int .i64 (x18.1), .int .i64 (x18.2)]) (by kernel_rfl) vt27 (fun i u hu => box_cells F29 0 hu (by rfl)) ?_
                    obtain ⟨y16, hy16, hm⟩ := bindE hm
                    refine wS_calls (d := 235) (f := 16) (vs := [.agg #[.int .i64 (y3.1), .int .i64 (y3.2)], .agg #[.int .i64 (x18.1), .int .i64 (x18.2)]]) (by kernel_rfl) ent16 (c_laws_b10Far hy16) ?_
                    rintro _ w34 ⟨rfl, hc31⟩
                    replace F21 := F21.chg hc31 Dj.nil
                    replace F22 := F22.chg hc31 notNil
                    replace F23 := F23.chg hc31 Dj.nil
                    replace F24 := F24.chg hc31 notNil
                    replace F25 := F25.chg hc31 notNil
                    replace F26 := F26.chg hc31 notNil
                    replace F27 := F27.chg hc31 notNil
                    replace F29 := F29.chg hc31 notNil
                    replace hB := hB.inS hc31 inNil
                    replace hZ := Nat.le_trans hZ hc31.size
                    refine ⟨.int .i64 (y16), rfl, ?_⟩
                    refine wS_pure 3 [(238, .bool (y12.1 != y16)), (237, .bool (y12.1 != y16)), (236, .bool (y12.1 != y16))] (by kernel_rfl) ?_
                    refine wS_bool (y12.1 != y16) (fun hb24 => ?_) (fun hb24 => ?_)
                    ·have hm := condT hb24 hm
                     rewrite [hb24]
                     refine wS_pure 17 [(255, .bool (true)), (254, undef), (253, undef), (252, undef), (251, undef), (250, .bool (true)), (249, .bool (true)), (248, undef), (247, undef), (246, undef), (245, undef), (244, undef), (243, .bool (true)), (242, .bool (true)), (241, undef), (240, undef), (239, undef)] (by kernel_rfl) ?_
                     refine wS_end (by rfl) ?_
                     refine eX_then ?_
                     refine cW_prune [(5, .slice A2 (y2).length cap2), (6, .pointer (some ⟨b1, 0, none⟩)), (7, .slice A3 (y4.1).length cap3), (14, .pointer (some ⟨b2, 0, none⟩)), (15, .pointer (some ⟨b3, 0, none⟩)), (17, .int .i64 (y11.1)), (19, .pointer (some ⟨b4, 0, none⟩)), (20, .pointer (some ⟨b5, 0, none⟩)), (21, .int .i64 (x13)), (22, .pointer (some ⟨b6, 0, none⟩)), (255, .bool (true))] (by kernel_rfl) (by kernel_rfl) (fun a22 => ?_)
                     refine cW_cond_t (by kernel_rfl) ?_
                     refine cW_seq ?_
                     refine cW_region ?_
                     refine wS_pure 1 [(4, .bool (false))] (by kernel_rfl) ?_
                     refine wS_end (by rfl) ?_
                     refine eX_then ?_
                     refine cW_ret ?_
                     refine eX_then_ret ?_
                     refine eX_block_ret ?_
                     refine eX_then_ret ?_
                     have hq : (some (Ctl.out (Sum.inr false)) : Option (Ctl (Int × Int × Int × Int × Int) (Sum (Int × Int × Int × Int) ((Bool))))) = some _ := hm
                     replace hq := someE hq
                     subst hq
                     refine eX_outR hx9 (fun hr => ?_)
                     subst hr
                     refine eX_block_ret ?_
                     refine eX_then_ret ?_
                     refine eX_then_ret ?_
                     have hq : (some false : Option ((Bool))) = some _ := hm2
                     replace hq := someE hq
                     subst hq
                     refine eX_ret (vs := [.bool (false)]) [.tmp 4] (by rfl) ⟨by (show lkE _ _ _ = _); kernel_rfl, trivial⟩ ?_
                     exact ⟨rfl, hB⟩
                    ·have hm := condF hb24 hm
                     rewrite [hb24]
                     refine wS_pure 5 [(243, .bool (decide (y15.1 > y12.1))), (242, .bool (decide (y15.1 > y12.1))), (241, .bool (decide (y15.1 > y12.1))), (240, .int .i64 (y12.1)), (239, .int .i64 (y15.1))] (by kernel_rfl) ?_
                     refine wS_bool (decide (y15.1 > y12.1)) (fun hb25 => ?_) (fun hb25 => ?_)
                     ·have hm := condT hb25 hm
                      rewrite [hb25]
                      refine wS_pure 12 [(255, .bool (true)), (254, undef), (253, undef), (252, undef), (251, undef), (250, .bool (true)), (249, .bool (true)), (248, undef), (247, undef), (246, undef), (245, undef), (244, undef)] (by kernel_rfl) ?_
                      refine wS_end (by rfl) ?_
                      refine eX_then ?_
                      refine cW_prune [(5, .slice A2 (y2).length cap2), (6, .pointer (some ⟨b1, 0, none⟩)), (7, .slice A3 (y4.1).length cap3), (14, .pointer (some ⟨b2, 0, none⟩)), (15, .pointer (some ⟨b3, 0, none⟩)), (17, .int .i64 (y11.1)), (19, .pointer (some ⟨b4, 0, none⟩)), (20, .pointer (some ⟨b5, 0, none⟩)), (21, .int .i64 (x13)), (22, .pointer (some ⟨b6, 0, none⟩)), (255, .bool (true))] (by kernel_rfl) (by kernel_rfl) (fun a23 => ?_)
                      refine cW_cond_t (by kernel_rfl) ?_
                      refine cW_seq ?_
                      refine cW_region ?_
                      refine wS_pure 1 [(4, .bool (false))] (by kernel_rfl) ?_
                      refine wS_end (by rfl) ?_
                      refine eX_then ?_
                      refine cW_ret ?_
                      refine eX_then_ret ?_
                      refine eX_block_ret ?_
                      refine eX_then_ret ?_
                      have hq : (some (Ctl.out (Sum.inr false)) : Option (Ctl (Int × Int × Int × Int × Int) (Sum (Int × Int × Int × Int) ((Bool))))) = some _ := hm
                      replace hq := someE hq
                      subst hq
                      refine eX_outR hx9 (fun hr => ?_)
                      subst hr
                      refine eX_block_ret ?_
                      refine eX_then_ret ?_
                      refine eX_then_ret ?_
                      have hq : (some false : Option ((Bool))) = some _ := hm2
                      replace hq := someE hq
                      subst hq
                      refine eX_ret (vs := [.bool (false)]) [.tmp 4] (by rfl) ⟨by (show lkE _ _ _ = _); kernel_rfl, trivial⟩ ?_
                      exact ⟨rfl, hB⟩
                     ·have hm := condF hb25 hm
                      rewrite [hb25]
                      refine wS_pure 7 [(250, .bool (decide (y12.1 > (wr (y14.1 + y15.1))))), (249, .bool (decide (y12.1 > (wr (y14.1 + y15.1))))), (248, .bool (decide (y12.1 > (wr (y14.1 + y15.1))))), (247, .int .i64 (wr (y14.1 + y15.1))), (246, .int .i64 (y15.1)), (245, .int .i64 (y14.1)), (244, .int .i64 (y12.1))] (by kernel_rfl) ?_
                      refine wS_bool (decide (y12.1 > (wr (y14.1 + y15.1)))) (fun hb26 => ?_) (fun hb26 => ?_)
                      ·have hm := condT hb26 hm
                       rewrite [hb26]
                       refine wS_pure 5 [(255, .bool (true)), (254, undef), (253, undef), (252, undef), (251, undef)] (by kernel_rfl) ?_
                       refine wS_end (by rfl) ?_
                       refine eX_then ?_
                       refine cW_prune [(5, .slice A2 (y2).length cap2), (6, .pointer (some ⟨b1, 0, none⟩)), (7, .slice A3 (y4.1).length cap3), (14, .pointer (some ⟨b2, 0, none⟩)), (15, .pointer (some ⟨b3, 0, none⟩)), (17, .int .i64 (y11.1)), (19, .pointer (some ⟨b4, 0, none⟩)), (20, .pointer (some ⟨b5, 0, none⟩)), (21, .int .i64 (x13)), (22, .pointer (some ⟨b6, 0, none⟩)), (255, .bool (true))] (by kernel_rfl) (by kernel_rfl) (fun a24 => ?_)
                       refine cW_cond_t (by kernel_rfl) ?_
                       refine cW_seq ?_
                       refine cW_region ?_
                       refine wS_pure 1 [(4, .bool (false))] (by kernel_rfl) ?_
                       refine wS_end (by rfl) ?_
                       refine eX_then ?_
                       refine cW_ret ?_
                       refine eX_then_ret ?_
                       refine eX_block_ret ?_
                       refine eX_then_ret ?_
                       have hq : (some (Ctl.out (Sum.inr false)) : Option (Ctl (Int × Int × Int × Int × Int) (Sum (Int × Int × Int × Int) ((Bool))))) = some _ := hm
                       replace hq := someE hq
                       subst hq
                       refine eX_outR hx9 (fun hr => ?_)
                       subst hr
                       refine eX_block_ret ?_
                       refine eX_then_ret ?_
                       refine eX_then_ret ?_
                       have hq : (some false : Option ((Bool))) = some _ := hm2
                       replace hq := someE hq
                       subst hq
                       refine eX_ret (vs := [.bool (false)]) [.tmp 4] (by rfl) ⟨by (show lkE _ _ _ = _); kernel_rfl, trivial⟩ ?_
                       exact ⟨rfl, hB⟩
                      ·have hm := condF hb26 hm
                       rewrite [hb26]
                       refine wS_pure 1 [(251, .slice A3 (y4.1).length cap3)] (by kernel_rfl) ?_
                       refine wS_loadA (d := 252) (T := 27) (ad := ⟨b6, 0, none⟩) (vs := [.int .i64 (x18.1), .int .i64 (x18.2)]) (by kernel_rfl) vt27 (fun i u hu => box_cells F29 0 hu (by rfl)) ?_
                       obtain ⟨y17, hy17, hm⟩ := bindE hm
                       refine wS_calls (d := 253) (f := 12) (vs := [.slice A3 (y4.1).length cap3, .agg #[.int .i64 (x18.1), .int .i64 (x18.2)]]) (by kernel_rfl) ent12 (c_laws_b10In hy17 (F23.sl encII_ok)) ?_
                       rintro _ w35 ⟨rfl, hc32⟩
                       replace F21 := F21.chg hc32 Dj.nil
                       replace F22 := F22.chg hc32 notNil
                       replace F23 := F23.chg hc32 Dj.nil
                       replace F24 := F24.chg hc32 notNil
                       replace F25 := F25.chg hc32 notNil
                       replace F26 := F26.chg hc32 notNil
                       replace F27 := F27.chg hc32 notNil
                       replace F29 := F29.chg hc32 notNil
                       replace hB := hB.inS hc32 inNil
                       replace hZ := Nat.le_trans hZ hc32.size
                       refine ⟨.bool (y17), rfl, ?_⟩
                       refine wS_pure 2 [(255, .bool (!y17)), (254, .bool (!y17))] (by kernel_rfl) ?_
                       refine wS_end (by rfl) ?_
                       refine eX_then ?_
                       refine cW_prune [(5, .slice A2 (y2).length cap2), (6, .pointer (some ⟨b1, 0, none⟩)), (7, .slice A3 (y4.1).length cap3), (14, .pointer (some ⟨b2, 0, none⟩)), (15, .pointer (some ⟨b3, 0, none⟩)), (17, .int .i64 (y11.1)), (19, .pointer (some ⟨b4, 0, none⟩)), (20, .pointer (some ⟨b5, 0, none⟩)), (21, .int .i64 (x13)), (22, .pointer (some ⟨b6, 0, none⟩)), (255, .bool (!y17))] (by kernel_rfl) (by kernel_rfl) (fun a25 => ?_)
                       refine cW_cond (t := !y17) (by kernel_rfl) (fun hb27 => ?_) (fun hb27 => ?_)
                       ·have hm := condT hb27 hm
                        refine cW_seq ?_
                        refine cW_region ?_
                        refine wS_pure 1 [(4, .bool (false))] (by kernel_rfl) ?_
                        refine wS_end (by rfl) ?_
                        refine eX_then ?_
                        refine cW_ret ?_
                        refine eX_then_ret ?_
                        refine eX_block_ret ?_
                        refine eX_then_ret ?_
                        have hq : (some (Ctl.out (Sum.inr false)) : Option (Ctl (Int × Int × Int × Int × Int) (Sum (Int × Int × Int × Int) ((Bool))))) = some _ := hm
                        replace hq := someE hq
                        subst hq
                        refine eX_outR hx9 (fun hr => ?_)
                        subst hr
                        refine eX_block_ret ?_
                        refine eX_then_ret ?_
                        refine eX_then_ret ?_
                        have hq : (some false : Option ((Bool))) = some _ := hm2
                        replace hq := someE hq
                        subst hq
                        refine eX_ret (vs := [.bool (false)]) [.tmp 4] (by rfl) ⟨by (show lkE _ _ _ = _); kernel_rfl, trivial⟩ ?_
                        exact ⟨rfl, hB⟩
                       ·have hm := condF hb27 hm
                        refine cW_skip ?_
                        refine eX_then ?_
                        refine cW_seq ?_
                        refine cW_region ?_
                        refine wS_pure 1 [(256, .pointer (some ⟨b4, 0, none⟩))] (by kernel_rfl) ?_
                        refine wS_load1 (d := 257) (T := 2) (ad := ⟨b4, 0, none⟩) (v := .int .i64 (x14)) (by kernel_rfl) vt2 ((F26).cell 0) ?_
                        refine wS_pure 1 [(258, .pointer (some ⟨b6, 0, none⟩))] (by kernel_rfl) ?_
                        refine wS_load1 (d := 259) (T := 2) (ad := ⟨b6, 0, none⟩) (v := .int .i64 (x18.1)) (by kernel_rfl) vt2 ((F29).cell 0) ?_
                        refine wS_pure 2 [(261, .pointer (some ⟨b4, 1, none⟩)), (260, .int .i64 (if x18.1 < x14 then x18.1 else x14))] (by kernel_rfl) ?_
                        refine wS_load1 (d := 262) (T := 2) (ad := ⟨b4, 1, none⟩) (v := .int .i64 (x15)) (by kernel_rfl) vt2 ((F26).cell 1) ?_
                        refine wS_pure 1 [(263, .pointer (some ⟨b6, 1, none⟩))] (by kernel_rfl) ?_
                        refine wS_load1 (d := 264) (T := 2) (ad := ⟨b6, 1, none⟩) (v := .int .i64 (x18.2)) (by kernel_rfl) vt2 ((F29).cell 1) ?_
                        refine wS_pure 2 [(266, .agg #[.int .i64 (if x18.1 < x14 then x18.1 else x14), .int .i64 (if x18.2 < x15 then x18.2 else x15)]), (265, .int .i64 (if x18.2 < x15 then x18.2 else x15))] (by kernel_rfl) ?_
                        refine wS_store (T := 27) (g := b4) (o := 0) (ad := ⟨b4, 0, none⟩) (v := .agg #[.int .i64 (if x18.1 < x14 then x18.1 else x14), .int .i64 (if x18.2 < x15 then x18.2 else x15)]) (vs := [.int .i64 (if x18.1 < x14 then x18.1 else x14), .int .i64 (if x18.2 < x15 then x18.2 else x15)]) (by kernel_rfl) (by rfl) sz27 (by rfl) (by rfl) F26 (by simp only [List.length_cons, List.length_nil]; omega) ?_
                        intro w36 F30 hc33
                        replace F21 := F21.chg hc33 D14
                        replace F22 := F22.chg hc33 (dj1 D15)
                        replace F23 := F23.chg hc33 D16
                        replace F24 := F24.chg hc33 (dj1 D17)
                        replace F25 := F25.chg hc33 (dj1 D18)
                        replace F27 := F27.chg hc33 (dj1 (D24).symm)
                        replace F29 := F29.chg hc33 (dj1 (D30).symm)
                        replace hB := hB.inS hc33 (inLow (low1 G7))
                        replace hZ := Nat.le_trans hZ hc33.size
                        replace F30 : Cl w36 b4 27 [.int .i64 (if x18.1 < x14 then x18.1 else x14), .int .i64 (if x18.2 < x15 then x18.2 else x15)] := F30
                        clear F26
                        refine wS_end (by rfl) ?_
                        refine eX_then ?_
                        refine cW_region ?_
                        refine wS_pure 1 [(267, .pointer (some ⟨b5, 0, none⟩))] (by kernel_rfl) ?_
                        refine wS_load1 (d := 268) (T := 2) (ad := ⟨b5, 0, none⟩) (v := .int .i64 (x16)) (by kernel_rfl) vt2 ((F27).cell 0) ?_
                        refine wS_pure 1 [(269, .pointer (some ⟨b6, 0, none⟩))] (by kernel_rfl) ?_
                        refine wS_load1 (d := 270) (T := 2) (ad := ⟨b6, 0, none⟩) (v := .int .i64 (x18.1)) (by kernel_rfl) vt2 ((F29).cell 0) ?_
                        refine wS_pure 2 [(272, .pointer (some ⟨b5, 1, none⟩)), (271, .int .i64 (if x18.1 > x16 then x18.1 else x16))] (by kernel_rfl) ?_
                        refine wS_load1 (d := 273) (T := 2) (ad := ⟨b5, 1, none⟩) (v := .int .i64 (x17)) (by kernel_rfl) vt2 ((F27).cell 1) ?_
                        refine wS_pure 1 [(274, .pointer (some ⟨b6, 1, none⟩))] (by kernel_rfl) ?_
                        refine wS_load1 (d := 275) (T := 2) (ad := ⟨b6, 1, none⟩) (v := .int .i64 (x18.2)) (by kernel_rfl) vt2 ((F29).cell 1) ?_
                        refine wS_pure 2 [(277, .agg #[.int .i64 (if x18.1 > x16 then x18.1 else x16), .int .i64 (if x18.2 > x17 then x18.2 else x17)]), (276, .int .i64 (if x18.2 > x17 then x18.2 else x17))] (by kernel_rfl) ?_
                        refine wS_store (T := 27) (g := b5) (o := 0) (ad := ⟨b5, 0, none⟩) (v := .agg #[.int .i64 (if x18.1 > x16 then x18.1 else x16), .int .i64 (if x18.2 > x17 then x18.2 else x17)]) (vs := [.int .i64 (if x18.1 > x16 then x18.1 else x16), .int .i64 (if x18.2 > x17 then x18.2 else x17)]) (by kernel_rfl) (by rfl) sz27 (by rfl) (by rfl) F27 (by simp only [List.length_cons, List.length_nil]; omega) ?_
                        intro w37 F31 hc34
                        replace F21 := F21.chg hc34 D19
                        replace F22 := F22.chg hc34 (dj1 D20)
                        replace F23 := F23.chg hc34 D21
                        replace F24 := F24.chg hc34 (dj1 D22)
                        replace F25 := F25.chg hc34 (dj1 D23)
                        replace F30 := F30.chg hc34 (dj1 D24)
                        replace F29 := F29.chg hc34 (dj1 (D31).symm)
                        replace hB := hB.inS hc34 (inLow (low1 G8))
                        replace hZ := Nat.le_trans hZ hc34.size
                        replace F31 : Cl w37 b5 27 [.int .i64 (if x18.1 > x16 then x18.1 else x16), .int .i64 (if x18.2 > x17 then x18.2 else x17)] := F31
                        clear F27
                        refine wS_end (by rfl) ?_
                        refine eX_block ?_
                        refine eX_then ?_
                        refine cW_prune [(5, .slice A2 (y2).length cap2), (6, .pointer (some ⟨b1, 0, none⟩)), (7, .slice A3 (y4.1).length cap3), (14, .pointer (some ⟨b2, 0, none⟩)), (15, .pointer (some ⟨b3, 0, none⟩)), (17, .int .i64 (y11.1)), (19, .pointer (some ⟨b4, 0, none⟩)), (20, .pointer (some ⟨b5, 0, none⟩)), (21, .int .i64 (x13))] (by kernel_rfl) (by kernel_rfl) (fun a26 => ?_)
                        refine cW_region ?_
                        refine wS_pure 3 [(21, .int .i64 (wr (x13 + 1))), (177, .int .i64 (wr (x13 + 1))), (176, .int .i64 (x13))] (by kernel_rfl) ?_
                        refine wS_end (by rfl) ?_
                        have hq : (some (Ctl.next ((wr (x13 + 1), if x18.1 < x14 then x18.1 else x14, if x18.2 < x15 then x18.2 else x15, if x18.1 > x16 then x18.1 else x16, if x18.2 > x17 then x18.2 else x17))) : Option (Ctl (Int × Int × Int × Int × Int) (Sum (Int × Int × Int × Int) ((Bool))))) = some _ := hm
                        replace hq := someE hq
                        subst hq
                        exact eX_next hx9 (fun hst => ⟨wr (x13 + 1), if x18.1 < x14 then x18.1 else x14, if x18.2 < x15 then x18.2 else x15, if x18.1 > x16 then x18.1 else x16, if x18.2 > x17 then x18.2 else x17, rfl, Fr.of hst (by kernel_rfl), F21, F22, F23, F24, F25, F30, F31, hB, hZ⟩)
              ·have hm := condF hb18 hm
               refine cW_exit ?_
               refine eX_then_exit ?_
               have hq : (some (Ctl.out (Sum.inl ((x14, x15, x16, x17)))) : Option (Ctl (Int × Int × Int × Int × Int) (Sum (Int × Int × Int × Int) ((Bool))))) = some _ := hm
               replace hq := someE hq
               subst hq
               refine eX_outX hx9 (fun hr4 => ?_)
               replace hr4 := hr4.symm
               subst hr4
               refine eX_block_hit ?_
               exact eX_J (fun hst => ⟨x14, x15, x16, x17, rfl, Fr.of hst (by kernel_rfl), F24, F25, F26, F27, hB, hZ⟩)
             ·rintro a' w38 ⟨x9, x10, x11, x12, hJ, hF4, F32, F33, F34, F35, hB, hZ⟩
              subst hJ
              refine Fr.goX hF4 (by kernel_rfl) ?_
              refine eX_then ?_
              refine cW_seq ?_
              refine cW_region ?_
              refine wS_loadA (d := 278) (T := 27) (ad := ⟨b2, 0, none⟩) (vs := [.int .i64 (y10.1.1), .int .i64 (y10.1.2)]) (by kernel_rfl) vt27 (fun i u hu => box_cells F32 0 hu (by rfl)) ?_
              refine wS_loadA (d := 279) (T := 27) (ad := ⟨b4, 0, none⟩) (vs := [.int .i64 (x9), .int .i64 (x10)]) (by kernel_rfl) vt27 (fun i u hu => box_cells F34 0 hu (by rfl)) ?_
              refine wS_eqS (d := 280) (T := 27) (x := y10.1.1) (y := y10.1.2) (x' := x9) (y' := x10) (by kernel_rfl) eq27 ?_
              refine wS_pure 1 [(281, .bool (y10.1.1 == x9 && y10.1.2 == x10))] (by kernel_rfl) ?_
              refine wS_bool (y10.1.1 == x9 && y10.1.2 == x10) (fun hb28 => ?_) (fun hb28 => ?_)
              ·have hm := condT hb28 hm
               rewrite [hb28]
               refine wS_loadA (d := 282) (T := 27) (ad := ⟨b3, 0, none⟩) (vs := [.int .i64 (y10.2.1.1), .int .i64 (y10.2.1.2)]) (by kernel_rfl) vt27 (fun i u hu => box_cells F33 0 hu (by rfl)) ?_
               refine wS_loadA (d := 283) (T := 27) (ad := ⟨b5, 0, none⟩) (vs := [.int .i64 (x11), .int .i64 (x12)]) (by kernel_rfl) vt27 (fun i u hu => box_cells F35 0 hu (by rfl)) ?_
               refine wS_eqS (d := 284) (T := 27) (x := y10.2.1.1) (y := y10.2.1.2) (x' := x11) (y' := x12) (by kernel_rfl) eq27 ?_
               refine wS_pure 2 [(4, .bool (y10.2.1.1 == x11 && y10.2.1.2 == x12)), (285, .bool (y10.2.1.1 == x11 && y10.2.1.2 == x12))] (by kernel_rfl) ?_
               refine wS_end (by rfl) ?_
               refine eX_then ?_
               refine cW_ret ?_
               have hq : (some (y10.2.1.1 == x11 && y10.2.1.2 == x12) : Option ((Bool))) = some _ := hm
               replace hq := someE hq
               subst hq
               refine eX_ret (vs := [.bool (y10.2.1.1 == x11 && y10.2.1.2 == x12)]) [.tmp 4] (by rfl) ⟨by (show lkE _ _ _ = _); kernel_rfl, trivial⟩ ?_
               exact ⟨rfl, hB⟩
              ·have hm := condF hb28 hm
               rewrite [hb28]
               refine wS_pure 5 [(4, .bool (false)), (285, .bool (false)), (284, undef), (283, undef), (282, undef)] (by kernel_rfl) ?_
               refine wS_end (by rfl) ?_
               refine eX_then ?_
               refine cW_ret ?_
               have hq : (some false : Option ((Bool))) = some _ := hm
               replace hq := someE hq
               subst hq
               refine eX_ret (vs := [.bool (false)]) [.tmp 4] (by rfl) ⟨by (show lkE _ _ _ = _); kernel_rfl, trivial⟩ ?_
               exact ⟨rfl, hB⟩

end Go.Proofs.YtpfipmomchgdaaaGreatDoor
