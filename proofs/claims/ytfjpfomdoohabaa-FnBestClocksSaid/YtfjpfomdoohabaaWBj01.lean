/- Printed walks: impl.in, impl.IsPoint, impl.noPoint, slices.IndexFunc[[]impl.Point,impl.Point], slices.ContainsFunc[[]impl.Point,impl.Point], impl.clockPins, impl.leaf, (impl.Region).far, impl.size, (impl.Region).grown, (impl.Region).meet, impl.ValidRegion, impl.mergeOk, impl.merge, slices.Clone[[]int64,int64], slices.Clone[[][]int64,[]int64], slices.Clone[[][]int64,[]int64], (*impl.chooser).choose$1, slices.IndexFunc[[]int64,int64], slices.DeleteFunc[[]int64,int64]. -/
import Derived.Test.YtfjpfomdoohabaaProg
import Derived.Test.YtfjpfomdoohabaaMod
set_option linter.unusedSimpArgs false
set_option linter.unusedVariables false
namespace Go.Proofs.Ytfjpfomdoohabaa
open Go.RowKit
attribute [local irreducible] wS cW eX wH

theorem ent26 : Ent Try.prog 26 := fun _ => by kernel_rfl
theorem ent31 : Ent Try.prog 31 := fun _ => by kernel_rfl
theorem ent40 : Ent Try.prog 40 := fun _ => by kernel_rfl
theorem ent41 : Ent Try.prog 41 := fun _ => by kernel_rfl
theorem ent45 : Ent Try.prog 45 := fun _ => by kernel_rfl
theorem ent46 : Ent Try.prog 46 := fun _ => by kernel_rfl
theorem ent47 : Ent Try.prog 47 := fun _ => by kernel_rfl
theorem ent48 : Ent Try.prog 48 := fun _ => by kernel_rfl
theorem ent49 : Ent Try.prog 49 := fun _ => by kernel_rfl
theorem ent55 : Ent Try.prog 55 := fun _ => by kernel_rfl
theorem ent56 : Ent Try.prog 56 := fun _ => by kernel_rfl
theorem ent57 : Ent Try.prog 57 := fun _ => by kernel_rfl
theorem ent58 : Ent Try.prog 58 := fun _ => by kernel_rfl
theorem vt2 : VarTy Try.prog 2 1 false := ⟨by kernel_rfl, by kernel_rfl⟩
theorem vt49 : VarTy Try.prog 49 2 true := ⟨by kernel_rfl, by kernel_rfl⟩
theorem vt55 : VarTy Try.prog 55 4 true := ⟨by kernel_rfl, by kernel_rfl⟩
theorem vt58 : VarTy Try.prog 58 5 true := ⟨by kernel_rfl, by kernel_rfl⟩
theorem sl24 : SlTy Try.prog 24 49 2 := ⟨Try.underlying24, by kernel_rfl⟩
theorem sl32 : SlTy Try.prog 32 2 1 := ⟨Try.underlying32, by kernel_rfl⟩
theorem el26 : ElTy Try.prog 26 32 1 (.slice none 0 0) := ElTy.mk' Try.underlying26 (by kernel_rfl) (by rfl)
theorem el32 : ElTy Try.prog 32 2 1 (.int .i64 (0)) := ElTy.mk' Try.underlying32 (by kernel_rfl) (by rfl)
theorem sz2 : pureRun Try.prog (sizeOf 2) = some 1 := by kernel_rfl
theorem sz55 : pureRun Try.prog (sizeOf 55) = some 4 := by kernel_rfl
theorem sz58 : pureRun Try.prog (sizeOf 58) = some 5 := by kernel_rfl

set_option maxRecDepth 100000 in
/-- impl.in -/
theorem c_impl_in {w0 : World} {p0 : Int} {p1 : Int} {p2 : Int} {r : (Bool)} (hm : m_impl_in p0 p1 p2 = some r)  :
  Calls Try.prog 31 #[.int .i64 (p0), .int .i64 (p1), .int .i64 (p2)] w0 fun e w' => e = .returned (.bool (r)) ∧ Chg [] w0 w' := by
 have hB : Chg [] w0 w0 := Chg.refl _ _
 have hZ := Nat.le_refl w0.heap.size
 unfold m_impl_in at hm
 refine enterE (N := 15) Try.func31 (by rfl) Try.ntmps31 (by simp) [(0, .int .i64 (p0)), (1, .int .i64 (p1)), (2, .int .i64 (p2))] (by rfl) (by kernel_rfl) (fun a => ?_)
 refine cW_seq ?_
 refine cW_region ?_
 refine wS_pure 1 [(6, .bool (false))] (by kernel_rfl) ?_
 refine wS_end (by rfl) ?_
 refine eX_then ?_
 refine cW_seq ?_
 refine cW_region ?_
 refine wS_pure 4 [(10, .bool (decide (p0 ≥ p1))), (9, .bool (decide (p0 ≥ p1))), (8, .int .i64 (p1)), (7, .int .i64 (p0))] (by kernel_rfl) ?_
 refine wS_bool (decide (p0 ≥ p1)) (fun hb1 => ?_) (fun hb1 => ?_)
 ·have hm := condT hb1 hm
  rewrite [hb1]
  refine wS_pure 5 [(6, .bool (decide (p0 ≤ p2))), (14, .bool (decide (p0 ≤ p2))), (13, .bool (decide (p0 ≤ p2))), (12, .int .i64 (p2)), (11, .int .i64 (p0))] (by kernel_rfl) ?_
  refine wS_end (by rfl) ?_
  refine eX_then ?_
  refine cW_ret ?_
  have hq : (some (decide (p0 ≤ p2)) : Option ((Bool))) = some _ := hm
  replace hq := someE hq
  subst hq
  refine eX_ret (vs := [.bool (decide (p0 ≤ p2))]) [.tmp 6] (by rfl) ⟨by (show lkE _ _ _ = _); kernel_rfl, trivial⟩ ?_
  exact ⟨rfl, hB⟩
 ·have hm := condF hb1 hm
  rewrite [hb1]
  refine wS_pure 5 [(6, .bool (false)), (14, .bool (false)), (13, undef), (12, undef), (11, undef)] (by kernel_rfl) ?_
  refine wS_end (by rfl) ?_
  refine eX_then ?_
  refine cW_ret ?_
  have hq : (some false : Option ((Bool))) = some _ := hm
  replace hq := someE hq
  subst hq
  refine eX_ret (vs := [.bool (false)]) [.tmp 6] (by rfl) ⟨by (show lkE _ _ _ = _); kernel_rfl, trivial⟩ ?_
  exact ⟨rfl, hB⟩

set_option maxRecDepth 100000 in
/-- impl.IsPoint -/
theorem c_impl_IsPoint {w0 : World} {p0_0 : Int} {p0_1 : Int} {r : (Bool)} (hm : m_impl_IsPoint p0_0 p0_1 = some r)  :
  Calls Try.prog 56 #[.agg #[.int .i64 (p0_0), .int .i64 (p0_1)]] w0 fun e w' => e = .returned (.bool (r)) ∧ Chg [] w0 w' := by
 have hB : Chg [] w0 w0 := Chg.refl _ _
 have hZ := Nat.le_refl w0.heap.size
 unfold m_impl_IsPoint at hm
 refine enterE (N := 11) Try.func56 (by rfl) Try.ntmps56 (by simp) [(0, .agg #[.int .i64 (p0_0), .int .i64 (p0_1)])] (by rfl) (by kernel_rfl) (fun a => ?_)
 refine cW_seq ?_
 refine cW_region ?_
 refine wS_box (d := 1) (T := 49) (x := .agg #[.int .i64 (p0_0), .int .i64 (p0_1)]) (by kernel_rfl) ?_
 intro b1 w1 G1 F1 hc1
 replace F1 : Cl w1 b1 49 [.int .i64 (p0_0), .int .i64 (p0_1)] := F1
 replace hB := hB.inS hc1 inNil
 replace G1 := Nat.le_trans hZ G1
 replace hZ := Nat.le_trans hZ hc1.size
 refine wS_pure 1 [(2, .bool (false))] (by kernel_rfl) ?_
 refine wS_end (by rfl) ?_
 refine eX_then ?_
 refine cW_seq ?_
 refine cW_region ?_
 refine wS_pure 1 [(3, .pointer (some ⟨b1, 0, none⟩))] (by kernel_rfl) ?_
 refine wS_load1 (d := 4) (T := 2) (ad := ⟨b1, 0, none⟩) (v := .int .i64 (p0_0)) (by kernel_rfl) vt2 ((F1).cell 0) ?_
 obtain ⟨y1, hy1, hm⟩ := bindE hm
 refine wS_calls (d := 5) (f := 31) (vs := [.int .i64 (p0_0), .int .i64 (0), .int .i64 (99)]) (by kernel_rfl) ent31 (c_impl_in hy1) ?_
 rintro _ w2 ⟨rfl, hc2⟩
 replace F1 := F1.chg hc2 notNil
 replace hB := hB.inS hc2 inNil
 replace hZ := Nat.le_trans hZ hc2.size
 refine ⟨.bool (y1), rfl, ?_⟩
 refine wS_pure 1 [(6, .bool (y1))] (by kernel_rfl) ?_
 refine wS_bool y1 (fun hb1 => ?_) (fun hb1 => ?_)
 ·have hm := condT hb1 hm
  rewrite [hb1]
  refine wS_pure 1 [(7, .pointer (some ⟨b1, 1, none⟩))] (by kernel_rfl) ?_
  refine wS_load1 (d := 8) (T := 2) (ad := ⟨b1, 1, none⟩) (v := .int .i64 (p0_1)) (by kernel_rfl) vt2 ((F1).cell 1) ?_
  obtain ⟨y2, hy2, hm⟩ := bindE hm
  refine wS_calls (d := 9) (f := 31) (vs := [.int .i64 (p0_1), .int .i64 (0), .int .i64 (99)]) (by kernel_rfl) ent31 (c_impl_in hy2) ?_
  rintro _ w3 ⟨rfl, hc3⟩
  replace F1 := F1.chg hc3 notNil
  replace hB := hB.inS hc3 inNil
  replace hZ := Nat.le_trans hZ hc3.size
  refine ⟨.bool (y2), rfl, ?_⟩
  refine wS_pure 2 [(2, .bool (y2)), (10, .bool (y2))] (by kernel_rfl) ?_
  refine wS_end (by rfl) ?_
  refine eX_then ?_
  refine cW_ret ?_
  have hq : (some y2 : Option ((Bool))) = some _ := hm
  replace hq := someE hq
  subst hq
  refine eX_ret (vs := [.bool (y2)]) [.tmp 2] (by rfl) ⟨by (show lkE _ _ _ = _); kernel_rfl, trivial⟩ ?_
  exact ⟨rfl, hB⟩
 ·have hm := condF hb1 hm
  rewrite [hb1]
  refine wS_pure 5 [(2, .bool (false)), (10, .bool (false)), (9, undef), (8, undef), (7, undef)] (by kernel_rfl) ?_
  refine wS_end (by rfl) ?_
  refine eX_then ?_
  refine cW_ret ?_
  have hq : (some false : Option ((Bool))) = some _ := hm
  replace hq := someE hq
  subst hq
  refine eX_ret (vs := [.bool (false)]) [.tmp 2] (by rfl) ⟨by (show lkE _ _ _ = _); kernel_rfl, trivial⟩ ?_
  exact ⟨rfl, hB⟩

set_option maxRecDepth 100000 in
/-- impl.noPoint -/
theorem c_impl_noPoint {w0 : World} {p0_0 : Int} {p0_1 : Int} {r : (Bool)} (hm : m_impl_noPoint p0_0 p0_1 = some r)  :
  Calls Try.prog 41 #[.agg #[.int .i64 (p0_0), .int .i64 (p0_1)]] w0 fun e w' => e = .returned (.bool (r)) ∧ Chg [] w0 w' := by
 have hB : Chg [] w0 w0 := Chg.refl _ _
 have hZ := Nat.le_refl w0.heap.size
 unfold m_impl_noPoint at hm
 refine enterE (N := 6) Try.func41 (by rfl) Try.ntmps41 (by simp) [(0, .agg #[.int .i64 (p0_0), .int .i64 (p0_1)])] (by rfl) (by kernel_rfl) (fun a => ?_)
 refine cW_seq ?_
 refine cW_region ?_
 refine wS_box (d := 1) (T := 49) (x := .agg #[.int .i64 (p0_0), .int .i64 (p0_1)]) (by kernel_rfl) ?_
 intro b1 w1 G1 F1 hc1
 replace F1 : Cl w1 b1 49 [.int .i64 (p0_0), .int .i64 (p0_1)] := F1
 replace hB := hB.inS hc1 inNil
 replace G1 := Nat.le_trans hZ G1
 replace hZ := Nat.le_trans hZ hc1.size
 refine wS_pure 1 [(2, .bool (false))] (by kernel_rfl) ?_
 refine wS_end (by rfl) ?_
 refine eX_then ?_
 refine cW_seq ?_
 refine cW_region ?_
 refine wS_loadA (d := 3) (T := 49) (ad := ⟨b1, 0, none⟩) (vs := [.int .i64 (p0_0), .int .i64 (p0_1)]) (by kernel_rfl) vt49 (fun i u hu => box_cells F1 0 hu (by rfl)) ?_
 obtain ⟨y1, hy1, hm⟩ := bindE hm
 refine wS_calls (d := 4) (f := 56) (vs := [.agg #[.int .i64 (p0_0), .int .i64 (p0_1)]]) (by kernel_rfl) ent56 (c_impl_IsPoint hy1) ?_
 rintro _ w2 ⟨rfl, hc2⟩
 replace F1 := F1.chg hc2 notNil
 replace hB := hB.inS hc2 inNil
 replace hZ := Nat.le_trans hZ hc2.size
 refine ⟨.bool (y1), rfl, ?_⟩
 refine wS_pure 2 [(2, .bool (!y1)), (5, .bool (!y1))] (by kernel_rfl) ?_
 refine wS_end (by rfl) ?_
 refine eX_then ?_
 refine cW_ret ?_
 have hq : (some (!y1) : Option ((Bool))) = some _ := hm
 replace hq := someE hq
 subst hq
 refine eX_ret (vs := [.bool (!y1)]) [.tmp 2] (by rfl) ⟨by (show lkE _ _ _ = _); kernel_rfl, trivial⟩ ?_
 exact ⟨rfl, hB⟩

set_option maxRecDepth 100000 in
/-- impl.Point] -/
theorem c_slices_IndexFunc_impl_Point_impl_Point_impl_noPoint {w0 : World} {l0 : List (Int × Int)} {A0 : Option Addr} {cap0 : Nat} {fp0 : List Nat} {r : (Int)} (hm : m_slices_IndexFunc_impl_Point_impl_Point_impl_noPoint l0 = some r) (F0 : Sl 2 encII w0 fp0 A0 l0) :
  Calls Try.prog 55 #[.slice A0 (l0).length cap0, .func (.func 41) #[] #[]] w0 fun e w' => e = .returned (.int .i64 (r)) ∧ Chg [] w0 w' := by
 have L0 := F0.low
 have hB : Chg [] w0 w0 := Chg.refl _ _
 have hZ := Nat.le_refl w0.heap.size
 unfold m_slices_IndexFunc_impl_Point_impl_Point_impl_noPoint at hm
 refine enterE (N := 19) Try.func55 (by rfl) Try.ntmps55 (by simp) [(0, .slice A0 (l0).length cap0), (1, .func (.func 41) #[] #[])] (by rfl) (by kernel_rfl) (fun a => ?_)
 refine cW_seq ?_
 refine cW_region ?_
 refine wS_pure 1 [(4, .int .i64 (0))] (by kernel_rfl) ?_
 refine wS_end (by rfl) ?_
 refine eX_then ?_
 refine cW_seq ?_
 refine cW_seq ?_
 refine cW_region ?_
 refine wS_pure 3 [(8, .int .i64 (0)), (7, .int .i64 (((l0).length : Int))), (6, .slice A0 (l0).length cap0)] (by kernel_rfl) ?_
 refine wS_end (by rfl) ?_
 refine eX_then ?_
 obtain ⟨r1, hr1, hm⟩ := bindE hm
 have hm1 := hm
 refine cW_cut (fun a' w' => Sum.inl (()) = r1 ∧ Fr 19 [] a' ∧ Chg [] w0 w' ∧ w0.heap.size ≤ w'.heap.size) ?_ ?_
 ·refine cW_block ?_
  refine cW_loop _ (fun (s1 : Int) a' w' => ∃ x1 : Int, x1 = s1 ∧ Fr 19 [(0, .slice A0 (l0).length cap0), (1, .func (.func 41) #[] #[]), (7, .int .i64 (((l0).length : Int))), (8, .int .i64 (x1))] a' ∧ Sl 2 encII w' fp0 A0 l0 ∧ Chg [] w0 w' ∧ w0.heap.size ≤ w'.heap.size) hr1 (fun hst => ⟨0, rfl, Fr.of hst (by kernel_rfl), F0, hB, hZ⟩) ?_
  rintro _ c1 a' w1 ⟨x1, rfl, hF1, F1, hB, hZ⟩ hx1
  refine Fr.goOn hF1 (by kernel_rfl) ?_
  have hm := hx1
  unfold m_slices_IndexFunc_impl_Point_impl_Point_impl_noPoint_s1 at hm
  refine cW_seq ?_
  refine cW_region ?_
  refine wS_pure 1 [(9, .bool (decide (x1 < (((l0).length : Int)))))] (by kernel_rfl) ?_
  refine wS_end (by rfl) ?_
  refine eX_then ?_
  refine cW_seq ?_
  refine cW_cond (t := decide (x1 < (((l0).length : Int)))) (by kernel_rfl) (fun hb1 => ?_) (fun hb1 => ?_)
  ·have hm := condT hb1 hm
   refine cW_skip ?_
   refine eX_then ?_
   refine cW_seq ?_
   refine cW_block ?_
   refine cW_seq ?_
   refine cW_region ?_
   refine wS_pure 2 [(5, .int .i64 (x1)), (10, .int .i64 (x1))] (by kernel_rfl) ?_
   refine wS_end (by rfl) ?_
   refine eX_then ?_
   refine cW_seq ?_
   refine cW_region ?_
   refine wS_pure 3 [(13, .int .i64 (x1)), (12, .slice A0 (l0).length cap0), (11, .func (.func 41) #[] #[])] (by kernel_rfl) ?_
   obtain ⟨x2, hx2, hm⟩ := bindE hm
   refine wS_idx (d := 14) (T := 24) (A := A0) (n := (l0).length) (cap := cap0) (kd := .i64) (m := x1) (by kernel_rfl) sl24 (F1.is hx2) ?_
   refine wS_loadA (d := 15) (T := 49) (ad := (elA A0 2 (x1) 0)) (vs := [.int .i64 (x2.1), .int .i64 (x2.2)]) (by kernel_rfl) vt49 (fun i u hu => Sl.cells_at F1 hx2 0 hu (by rfl)) ?_
   obtain ⟨y1, hy1, hm⟩ := bindE hm
   refine wS_calls (d := 16) (f := 41) (vs := [.agg #[.int .i64 (x2.1), .int .i64 (x2.2)]]) (by kernel_rfl) ent41 (c_impl_noPoint hy1) ?_
   rintro _ w2 ⟨rfl, hc1⟩
   replace F1 := F1.chg hc1 Dj.nil
   replace hB := hB.inS hc1 inNil
   replace hZ := Nat.le_trans hZ hc1.size
   refine ⟨.bool (y1), rfl, ?_⟩
   refine wS_end (by rfl) ?_
   refine eX_then ?_
   refine cW_cond (t := y1) (by kernel_rfl) (fun hb2 => ?_) (fun hb2 => ?_)
   ·have hm := condT hb2 hm
    refine cW_seq ?_
    refine cW_region ?_
    refine wS_pure 2 [(4, .int .i64 (x1)), (17, .int .i64 (x1))] (by kernel_rfl) ?_
    refine wS_end (by rfl) ?_
    refine eX_then ?_
    refine cW_ret ?_
    refine eX_block_ret ?_
    refine eX_then_ret ?_
    have hq : (some (Ctl.out (Sum.inr x1)) : Option (Ctl (Int) (Sum (Unit) ((Int))))) = some _ := hm
    replace hq := someE hq
    subst hq
    refine eX_outR hx1 (fun hr => ?_)
    subst hr
    refine eX_block_ret ?_
    refine eX_then_ret ?_
    refine eX_then_ret ?_
    have hq : (some x1 : Option ((Int))) = some _ := hm1
    replace hq := someE hq
    subst hq
    refine eX_ret (vs := [.int .i64 (x1)]) [.tmp 4] (by rfl) ⟨by (show lkE _ _ _ = _); kernel_rfl, trivial⟩ ?_
    exact ⟨rfl, hB⟩
   ·have hm := condF hb2 hm
    refine cW_skip ?_
    refine eX_block ?_
    refine eX_then ?_
    refine cW_region ?_
    refine wS_pure 2 [(8, .int .i64 (wr (x1 + 1))), (18, .int .i64 (wr (x1 + 1)))] (by kernel_rfl) ?_
    refine wS_end (by rfl) ?_
    have hq : (some (Ctl.next (wr (x1 + 1))) : Option (Ctl (Int) (Sum (Unit) ((Int))))) = some _ := hm
    replace hq := someE hq
    subst hq
    exact eX_next hx1 (fun hst => ⟨wr (x1 + 1), rfl, Fr.of hst (by kernel_rfl), F1, hB, hZ⟩)
  ·have hm := condF hb1 hm
   refine cW_exit ?_
   refine eX_then_exit ?_
   have hq : (some (Ctl.out (Sum.inl (()))) : Option (Ctl (Int) (Sum (Unit) ((Int))))) = some _ := hm
   replace hq := someE hq
   subst hq
   refine eX_outX hx1 (fun hr2 => ?_)
   replace hr2 := hr2.symm
   subst hr2
   refine eX_block_hit ?_
   exact eX_J (fun hst => ⟨rfl, Fr.of hst (by kernel_rfl), hB, hZ⟩)
 ·rintro a' w3 ⟨hJ, hF2, hB, hZ⟩
  subst hJ
  refine Fr.goX hF2 (by kernel_rfl) ?_
  refine eX_then ?_
  refine cW_seq ?_
  refine cW_region ?_
  refine wS_pure 1 [(4, .int .i64 ((-1)))] (by kernel_rfl) ?_
  refine wS_end (by rfl) ?_
  refine eX_then ?_
  refine cW_ret ?_
  have hq : (some ((-1)) : Option ((Int))) = some _ := hm
  replace hq := someE hq
  subst hq
  refine eX_ret (vs := [.int .i64 ((-1))]) [.tmp 4] (by rfl) ⟨by (show lkE _ _ _ = _); kernel_rfl, trivial⟩ ?_
  exact ⟨rfl, hB⟩

set_option maxRecDepth 100000 in
/-- impl.Point] -/
theorem c_slices_ContainsFunc_impl_Point_impl_Point_impl_noPoint {w0 : World} {l0 : List (Int × Int)} {A0 : Option Addr} {cap0 : Nat} {fp0 : List Nat} {r : (Bool)} (hm : m_slices_ContainsFunc_impl_Point_impl_Point_impl_noPoint l0 = some r) (F0 : Sl 2 encII w0 fp0 A0 l0) :
  Calls Try.prog 40 #[.slice A0 (l0).length cap0, .func (.func 41) #[] #[]] w0 fun e w' => e = .returned (.bool (r)) ∧ Chg [] w0 w' := by
 have L0 := F0.low
 have hB : Chg [] w0 w0 := Chg.refl _ _
 have hZ := Nat.le_refl w0.heap.size
 unfold m_slices_ContainsFunc_impl_Point_impl_Point_impl_noPoint at hm
 refine enterE (N := 9) Try.func40 (by rfl) Try.ntmps40 (by simp) [(0, .slice A0 (l0).length cap0), (1, .func (.func 41) #[] #[])] (by rfl) (by kernel_rfl) (fun a => ?_)
 refine cW_seq ?_
 refine cW_region ?_
 refine wS_pure 1 [(4, .bool (false))] (by kernel_rfl) ?_
 refine wS_end (by rfl) ?_
 refine eX_then ?_
 refine cW_seq ?_
 refine cW_region ?_
 refine wS_pure 2 [(6, .func (.func 41) #[] #[]), (5, .slice A0 (l0).length cap0)] (by kernel_rfl) ?_
 obtain ⟨y1, hy1, hm⟩ := bindE hm
 refine wS_calls (d := 7) (f := 55) (vs := [.slice A0 (l0).length cap0, .func (.func 41) #[] #[]]) (by kernel_rfl) ent55 (c_slices_IndexFunc_impl_Point_impl_Point_impl_noPoint hy1 F0) ?_
 rintro _ w1 ⟨rfl, hc1⟩
 replace F0 := F0.chg hc1 Dj.nil
 replace hB := hB.inS hc1 inNil
 replace hZ := Nat.le_trans hZ hc1.size
 refine ⟨.int .i64 (y1), rfl, ?_⟩
 refine wS_pure 2 [(4, .bool (decide (y1 ≥ 0))), (8, .bool (decide (y1 ≥ 0)))] (by kernel_rfl) ?_
 refine wS_end (by rfl) ?_
 refine eX_then ?_
 refine cW_ret ?_
 have hq : (some (decide (y1 ≥ 0)) : Option ((Bool))) = some _ := hm
 replace hq := someE hq
 subst hq
 refine eX_ret (vs := [.bool (decide (y1 ≥ 0))]) [.tmp 4] (by rfl) ⟨by (show lkE _ _ _ = _); kernel_rfl, trivial⟩ ?_
 exact ⟨rfl, hB⟩

set_option maxRecDepth 100000 in
/-- impl.clockPins -/
theorem c_impl_clockPins {w0 : World} {l0 : List (Int × Int)} {A0 : Option Addr} {cap0 : Nat} {fp0 : List Nat} {r : (Bool)} (hm : m_impl_clockPins l0 = some r) (F0 : Sl 2 encII w0 fp0 A0 l0) :
  Calls Try.prog 23 #[.slice A0 (l0).length cap0] w0 fun e w' => e = .returned (.bool (r)) ∧ Chg [] w0 w' := by
 have L0 := F0.low
 have hB : Chg [] w0 w0 := Chg.refl _ _
 have hZ := Nat.le_refl w0.heap.size
 unfold m_impl_clockPins at hm
 refine enterE (N := 11) Try.func23 (by rfl) Try.ntmps23 (by simp) [(0, .slice A0 (l0).length cap0)] (by rfl) (by kernel_rfl) (fun a => ?_)
 refine cW_seq ?_
 refine cW_region ?_
 refine wS_pure 1 [(2, .bool (false))] (by kernel_rfl) ?_
 refine wS_end (by rfl) ?_
 refine eX_then ?_
 refine cW_seq ?_
 refine cW_region ?_
 refine wS_pure 2 [(4, .int .i64 (((l0).length : Int))), (3, .slice A0 (l0).length cap0)] (by kernel_rfl) ?_
 obtain ⟨y1, hy1, hm⟩ := bindE hm
 refine wS_calls (d := 5) (f := 31) (vs := [.int .i64 (((l0).length : Int)), .int .i64 (2), .int .i64 (12)]) (by kernel_rfl) ent31 (c_impl_in hy1) ?_
 rintro _ w1 ⟨rfl, hc1⟩
 replace F0 := F0.chg hc1 Dj.nil
 replace hB := hB.inS hc1 inNil
 replace hZ := Nat.le_trans hZ hc1.size
 refine ⟨.bool (y1), rfl, ?_⟩
 refine wS_pure 1 [(6, .bool (y1))] (by kernel_rfl) ?_
 refine wS_bool y1 (fun hb1 => ?_) (fun hb1 => ?_)
 ·have hm := condT hb1 hm
  rewrite [hb1]
  refine wS_pure 1 [(7, .slice A0 (l0).length cap0)] (by kernel_rfl) ?_
  obtain ⟨y2, hy2, hm⟩ := bindE hm
  refine wS_calls (d := 8) (f := 40) (vs := [.slice A0 (l0).length cap0, .func (.func 41) #[] #[]]) (by kernel_rfl) ent40 (c_slices_ContainsFunc_impl_Point_impl_Point_impl_noPoint hy2 F0) ?_
  rintro _ w2 ⟨rfl, hc2⟩
  replace F0 := F0.chg hc2 Dj.nil
  replace hB := hB.inS hc2 inNil
  replace hZ := Nat.le_trans hZ hc2.size
  refine ⟨.bool (y2), rfl, ?_⟩
  refine wS_pure 3 [(2, .bool (!y2)), (10, .bool (!y2)), (9, .bool (!y2))] (by kernel_rfl) ?_
  refine wS_end (by rfl) ?_
  refine eX_then ?_
  refine cW_ret ?_
  have hq : (some (!y2) : Option ((Bool))) = some _ := hm
  replace hq := someE hq
  subst hq
  refine eX_ret (vs := [.bool (!y2)]) [.tmp 2] (by rfl) ⟨by (show lkE _ _ _ = _); kernel_rfl, trivial⟩ ?_
  exact ⟨rfl, hB⟩
 ·have hm := condF hb1 hm
  rewrite [hb1]
  refine wS_pure 5 [(2, .bool (false)), (10, .bool (false)), (9, undef), (8, undef), (7, undef)] (by kernel_rfl) ?_
  refine wS_end (by rfl) ?_
  refine eX_then ?_
  refine cW_ret ?_
  have hq : (some false : Option ((Bool))) = some _ := hm
  replace hq := someE hq
  subst hq
  refine eX_ret (vs := [.bool (false)]) [.tmp 2] (by rfl) ⟨by (show lkE _ _ _ = _); kernel_rfl, trivial⟩ ?_
  exact ⟨rfl, hB⟩

set_option maxRecDepth 100000 in
/-- impl.leaf -/
theorem c_impl_leaf {w0 : World} {p0_0 : Int} {p0_1 : Int} {r : (Int × Int × Int × Int)} (hm : m_impl_leaf p0_0 p0_1 = some r)  :
  Calls Try.prog 24 #[.agg #[.int .i64 (p0_0), .int .i64 (p0_1)]] w0 fun e w' => e = .returned (.agg #[.int .i64 (r.1), .int .i64 (r.2.1), .int .i64 (r.2.2.1), .int .i64 (r.2.2.2)]) ∧ Chg [] w0 w' := by
 have hB : Chg [] w0 w0 := Chg.refl _ _
 have hZ := Nat.le_refl w0.heap.size
 unfold m_impl_leaf at hm
 refine enterE (N := 22) Try.func24 (by rfl) Try.ntmps24 (by simp) [(0, .agg #[.int .i64 (p0_0), .int .i64 (p0_1)])] (by rfl) (by kernel_rfl) (fun a => ?_)
 refine cW_seq ?_
 refine cW_region ?_
 refine wS_box (d := 1) (T := 49) (x := .agg #[.int .i64 (p0_0), .int .i64 (p0_1)]) (by kernel_rfl) ?_
 intro b1 w1 G1 F1 hc1
 replace F1 : Cl w1 b1 49 [.int .i64 (p0_0), .int .i64 (p0_1)] := F1
 replace hB := hB.inS hc1 inNil
 replace G1 := Nat.le_trans hZ G1
 replace hZ := Nat.le_trans hZ hc1.size
 refine wS_alloc (d := 2) (T := 55) (z := .agg #[.int .i64 (0), .int .i64 (0), .int .i64 (0), .int .i64 (0)]) (by kernel_rfl) (by kernel_rfl) ?_
 intro b2 w2 G2 F2 hc2
 replace F2 : Cl w2 b2 55 [.int .i64 (0), .int .i64 (0), .int .i64 (0), .int .i64 (0)] := F2
 have D1 : Dj [b1] [b2] := Dj.of (lt1 F1.lt) (low1 G2)
 replace F1 := F1.chg hc2 notNil
 replace hB := hB.inS hc2 inNil
 replace G2 := Nat.le_trans hZ G2
 replace hZ := Nat.le_trans hZ hc2.size
 refine wS_end (by rfl) ?_
 refine eX_then ?_
 refine cW_seq ?_
 refine cW_drawnTail [] 13 (by kernel_rfl) (by kernel_rfl) (fun w3 hc3 => ?_)
 replace F1 := F1.chg hc3 notNil
 replace F2 := F2.chg hc3 notNil
 replace hB := hB.inS hc3 inNil
 replace hZ := Nat.le_trans hZ hc3.size
 have hS := Chg.refl [] w3
 have Z1 := F1
 have Z2 := F2
 refine wH_take [0] [0] [(5, .pointer (some ⟨b1, 0, none⟩))] (by kernel_rfl) (qT (qT qZ)) (by kernel_rfl) ?_
 refine wH_load1 (i := 1) (d := 6) (T := 2) (ad := ⟨b1, 0, none⟩) (v := .int .i64 (p0_0)) (by kernel_rfl) (qT (qT qZ)) (by kernel_rfl) (by kernel_rfl) vt2 (fun W hW => (Z1.chg hW notNil).cell 0) ?_
 refine wH_take [2] [2, 1, 0] [(7, .pointer (some ⟨b1, 1, none⟩))] (by kernel_rfl) (qT (qT qZ)) (by kernel_rfl) ?_
 refine wH_load1 (i := 3) (d := 8) (T := 2) (ad := ⟨b1, 1, none⟩) (v := .int .i64 (p0_1)) (by kernel_rfl) (qT (qT qZ)) (by kernel_rfl) (by kernel_rfl) vt2 (fun W hW => (Z1.chg hW notNil).cell 1) ?_
 refine wH_take [4, 5, 6] [6, 5, 4, 3, 2, 1, 0] [(11, .pointer (some ⟨b1, 0, none⟩)), (10, .int .i64 (wr ((wr (p0_0 + p0_1)) * 4096))), (9, .int .i64 (wr (p0_0 + p0_1)))] (by kernel_rfl) (qT (qT qZ)) (by kernel_rfl) ?_
 refine wH_load1 (i := 7) (d := 12) (T := 2) (ad := ⟨b1, 0, none⟩) (v := .int .i64 (p0_0)) (by kernel_rfl) (qT (qT qZ)) (by kernel_rfl) (by kernel_rfl) vt2 (fun W hW => (Z1.chg hW notNil).cell 0) ?_
 refine wH_take [8] [8, 7, 6, 5, 4, 3, 2, 1, 0] [(13, .pointer (some ⟨b1, 1, none⟩))] (by kernel_rfl) (qT (qT qZ)) (by kernel_rfl) ?_
 refine wH_load1 (i := 9) (d := 14) (T := 2) (ad := ⟨b1, 1, none⟩) (v := .int .i64 (p0_1)) (by kernel_rfl) (qT (qT qZ)) (by kernel_rfl) (by kernel_rfl) vt2 (fun W hW => (Z1.chg hW notNil).cell 1) ?_
 refine wH_take [10, 11, 12] [12, 11, 10, 9, 8, 7, 6, 5, 4, 3, 2, 1, 0] [(3, .int .i64 (wr ((wr (p0_0 + p0_1)) * 4096))), (16, .int .i64 (wr ((wr (p0_0 - p0_1)) * 4096))), (15, .int .i64 (wr (p0_0 - p0_1)))] (by kernel_rfl) (qT (qT qZ)) (by kernel_rfl) ?_
 refine wH_done (by kernel_rfl) ?_
 refine eX_tail ?_
 refine wS_pure 1 [(4, .int .i64 (wr ((wr (p0_0 - p0_1)) * 4096)))] (by kernel_rfl) ?_
 refine wS_end (by rfl) ?_
 refine eX_then ?_
 refine cW_seq ?_
 refine cW_region ?_
 refine wS_pure 5 [(21, .agg #[.int .i64 (wr ((wr (p0_0 + p0_1)) * 4096)), .int .i64 (wr ((wr (p0_0 + p0_1)) * 4096)), .int .i64 (wr ((wr (p0_0 - p0_1)) * 4096)), .int .i64 (wr ((wr (p0_0 - p0_1)) * 4096))]), (20, .int .i64 (wr ((wr (p0_0 - p0_1)) * 4096))), (19, .int .i64 (wr ((wr (p0_0 - p0_1)) * 4096))), (18, .int .i64 (wr ((wr (p0_0 + p0_1)) * 4096))), (17, .int .i64 (wr ((wr (p0_0 + p0_1)) * 4096)))] (by kernel_rfl) ?_
 refine wS_store (T := 55) (g := b2) (o := 0) (ad := ⟨b2, 0, none⟩) (v := .agg #[.int .i64 (wr ((wr (p0_0 + p0_1)) * 4096)), .int .i64 (wr ((wr (p0_0 + p0_1)) * 4096)), .int .i64 (wr ((wr (p0_0 - p0_1)) * 4096)), .int .i64 (wr ((wr (p0_0 - p0_1)) * 4096))]) (vs := [.int .i64 (wr ((wr (p0_0 + p0_1)) * 4096)), .int .i64 (wr ((wr (p0_0 + p0_1)) * 4096)), .int .i64 (wr ((wr (p0_0 - p0_1)) * 4096)), .int .i64 (wr ((wr (p0_0 - p0_1)) * 4096))]) (by kernel_rfl) (by rfl) sz55 (by rfl) (by rfl) F2 (by simp only [List.length_cons, List.length_nil]; omega) ?_
 intro w4 F3 hc4
 replace F1 := F1.chg hc4 (dj1 D1)
 replace hB := hB.inS hc4 (inLow (low1 G2))
 replace hZ := Nat.le_trans hZ hc4.size
 replace F3 : Cl w4 b2 55 [.int .i64 (wr ((wr (p0_0 + p0_1)) * 4096)), .int .i64 (wr ((wr (p0_0 + p0_1)) * 4096)), .int .i64 (wr ((wr (p0_0 - p0_1)) * 4096)), .int .i64 (wr ((wr (p0_0 - p0_1)) * 4096))] := F3
 clear F2
 refine wS_end (by rfl) ?_
 refine eX_then ?_
 refine cW_ret ?_
 have hq : (some ((wr ((wr (p0_0 + p0_1)) * 4096), wr ((wr (p0_0 + p0_1)) * 4096), wr ((wr (p0_0 - p0_1)) * 4096), wr ((wr (p0_0 - p0_1)) * 4096))) : Option ((Int × Int × Int × Int))) = some _ := hm
 replace hq := someE hq
 subst hq
 refine eX_ret (vs := [.agg #[.int .i64 (wr ((wr (p0_0 + p0_1)) * 4096)), .int .i64 (wr ((wr (p0_0 + p0_1)) * 4096)), .int .i64 (wr ((wr (p0_0 - p0_1)) * 4096)), .int .i64 (wr ((wr (p0_0 - p0_1)) * 4096))]]) [.cell 2 55] (by rfl) ⟨⟨⟨b2, 0, none⟩, by kernel_rfl, run_loadVarA (vs := [.int .i64 (wr ((wr (p0_0 + p0_1)) * 4096)), .int .i64 (wr ((wr (p0_0 + p0_1)) * 4096)), .int .i64 (wr ((wr (p0_0 - p0_1)) * 4096)), .int .i64 (wr ((wr (p0_0 - p0_1)) * 4096))]) vt55 (fun i u hu => by exact box_cells F3 0 hu (by rfl))⟩, trivial⟩ ?_
 exact ⟨rfl, hB⟩

set_option maxRecDepth 100000 in
/-- impl.Region).far -/
theorem c_impl_Region_far {w0 : World} {p0_0 : Int} {p0_1 : Int} {p0_2 : Int} {p0_3 : Int} {p1_0 : Int} {p1_1 : Int} {p1_2 : Int} {p1_3 : Int} {r : (Int)} (hm : m_impl_Region_far p0_0 p0_1 p0_2 p0_3 p1_0 p1_1 p1_2 p1_3 = some r)  :
  Calls Try.prog 26 #[.agg #[.int .i64 (p0_0), .int .i64 (p0_1), .int .i64 (p0_2), .int .i64 (p0_3)], .agg #[.int .i64 (p1_0), .int .i64 (p1_1), .int .i64 (p1_2), .int .i64 (p1_3)]] w0 fun e w' => e = .returned (.int .i64 (r)) ∧ Chg [] w0 w' := by
 have hB : Chg [] w0 w0 := Chg.refl _ _
 have hZ := Nat.le_refl w0.heap.size
 unfold m_impl_Region_far at hm
 refine enterE (N := 26) Try.func26 (by rfl) Try.ntmps26 (by simp) [(0, .agg #[.int .i64 (p0_0), .int .i64 (p0_1), .int .i64 (p0_2), .int .i64 (p0_3)]), (1, .agg #[.int .i64 (p1_0), .int .i64 (p1_1), .int .i64 (p1_2), .int .i64 (p1_3)])] (by rfl) (by kernel_rfl) (fun a => ?_)
 refine cW_seq ?_
 refine cW_region ?_
 refine wS_box (d := 2) (T := 55) (x := .agg #[.int .i64 (p0_0), .int .i64 (p0_1), .int .i64 (p0_2), .int .i64 (p0_3)]) (by kernel_rfl) ?_
 intro b1 w1 G1 F1 hc1
 replace F1 : Cl w1 b1 55 [.int .i64 (p0_0), .int .i64 (p0_1), .int .i64 (p0_2), .int .i64 (p0_3)] := F1
 replace hB := hB.inS hc1 inNil
 replace G1 := Nat.le_trans hZ G1
 replace hZ := Nat.le_trans hZ hc1.size
 refine wS_box (d := 3) (T := 55) (x := .agg #[.int .i64 (p1_0), .int .i64 (p1_1), .int .i64 (p1_2), .int .i64 (p1_3)]) (by kernel_rfl) ?_
 intro b2 w2 G2 F2 hc2
 replace F2 : Cl w2 b2 55 [.int .i64 (p1_0), .int .i64 (p1_1), .int .i64 (p1_2), .int .i64 (p1_3)] := F2
 have D1 : Dj [b1] [b2] := Dj.of (lt1 F1.lt) (low1 G2)
 replace F1 := F1.chg hc2 notNil
 replace hB := hB.inS hc2 inNil
 replace G2 := Nat.le_trans hZ G2
 replace hZ := Nat.le_trans hZ hc2.size
 refine wS_pure 1 [(4, .int .i64 (0))] (by kernel_rfl) ?_
 refine wS_end (by rfl) ?_
 refine eX_then ?_
 refine cW_seq ?_
 refine cW_region ?_
 refine wS_pure 1 [(5, .pointer (some ⟨b1, 0, none⟩))] (by kernel_rfl) ?_
 refine wS_load1 (d := 6) (T := 2) (ad := ⟨b1, 0, none⟩) (v := .int .i64 (p0_0)) (by kernel_rfl) vt2 ((F1).cell 0) ?_
 refine wS_pure 1 [(7, .pointer (some ⟨b2, 1, none⟩))] (by kernel_rfl) ?_
 refine wS_load1 (d := 8) (T := 2) (ad := ⟨b2, 1, none⟩) (v := .int .i64 (p1_1)) (by kernel_rfl) vt2 ((F2).cell 1) ?_
 refine wS_pure 2 [(10, .pointer (some ⟨b2, 0, none⟩)), (9, .int .i64 (wr (p0_0 - p1_1)))] (by kernel_rfl) ?_
 refine wS_load1 (d := 11) (T := 2) (ad := ⟨b2, 0, none⟩) (v := .int .i64 (p1_0)) (by kernel_rfl) vt2 ((F2).cell 0) ?_
 refine wS_pure 1 [(12, .pointer (some ⟨b1, 1, none⟩))] (by kernel_rfl) ?_
 refine wS_load1 (d := 13) (T := 2) (ad := ⟨b1, 1, none⟩) (v := .int .i64 (p0_1)) (by kernel_rfl) vt2 ((F1).cell 1) ?_
 refine wS_pure 2 [(15, .pointer (some ⟨b1, 2, none⟩)), (14, .int .i64 (wr (p1_0 - p0_1)))] (by kernel_rfl) ?_
 refine wS_load1 (d := 16) (T := 2) (ad := ⟨b1, 2, none⟩) (v := .int .i64 (p0_2)) (by kernel_rfl) vt2 ((F1).cell 2) ?_
 refine wS_pure 1 [(17, .pointer (some ⟨b2, 3, none⟩))] (by kernel_rfl) ?_
 refine wS_load1 (d := 18) (T := 2) (ad := ⟨b2, 3, none⟩) (v := .int .i64 (p1_3)) (by kernel_rfl) vt2 ((F2).cell 3) ?_
 refine wS_pure 2 [(20, .pointer (some ⟨b2, 2, none⟩)), (19, .int .i64 (wr (p0_2 - p1_3)))] (by kernel_rfl) ?_
 refine wS_load1 (d := 21) (T := 2) (ad := ⟨b2, 2, none⟩) (v := .int .i64 (p1_2)) (by kernel_rfl) vt2 ((F2).cell 2) ?_
 refine wS_pure 1 [(22, .pointer (some ⟨b1, 3, none⟩))] (by kernel_rfl) ?_
 refine wS_load1 (d := 23) (T := 2) (ad := ⟨b1, 3, none⟩) (v := .int .i64 (p0_3)) (by kernel_rfl) vt2 ((F1).cell 3) ?_
 refine wS_pure 3 [(4, .int .i64 (if (wr (p1_2 - p0_3)) > (if (wr (p0_2 - p1_3)) > (if (wr (p1_0 - p0_1)) > (if (wr (p0_0 - p1_1)) > 0 then (wr (p0_0 - p1_1)) else 0) then (wr (p1_0 - p0_1)) else (if (wr (p0_0 - p1_1)) > 0 then (wr (p0_0 - p1_1)) else 0)) then (wr (p0_2 - p1_3)) else (if (wr (p1_0 - p0_1)) > (if (wr (p0_0 - p1_1)) > 0 then (wr (p0_0 - p1_1)) else 0) then (wr (p1_0 - p0_1)) else (if (wr (p0_0 - p1_1)) > 0 then (wr (p0_0 - p1_1)) else 0))) then (wr (p1_2 - p0_3)) else (if (wr (p0_2 - p1_3)) > (if (wr (p1_0 - p0_1)) > (if (wr (p0_0 - p1_1)) > 0 then (wr (p0_0 - p1_1)) else 0) then (wr (p1_0 - p0_1)) else (if (wr (p0_0 - p1_1)) > 0 then (wr (p0_0 - p1_1)) else 0)) then (wr (p0_2 - p1_3)) else (if (wr (p1_0 - p0_1)) > (if (wr (p0_0 - p1_1)) > 0 then (wr (p0_0 - p1_1)) else 0) then (wr (p1_0 - p0_1)) else (if (wr (p0_0 - p1_1)) > 0 then (wr (p0_0 - p1_1)) else 0))))), (25, .int .i64 (if (wr (p1_2 - p0_3)) > (if (wr (p0_2 - p1_3)) > (if (wr (p1_0 - p0_1)) > (if (wr (p0_0 - p1_1)) > 0 then (wr (p0_0 - p1_1)) else 0) then (wr (p1_0 - p0_1)) else (if (wr (p0_0 - p1_1)) > 0 then (wr (p0_0 - p1_1)) else 0)) then (wr (p0_2 - p1_3)) else (if (wr (p1_0 - p0_1)) > (if (wr (p0_0 - p1_1)) > 0 then (wr (p0_0 - p1_1)) else 0) then (wr (p1_0 - p0_1)) else (if (wr (p0_0 - p1_1)) > 0 then (wr (p0_0 - p1_1)) else 0))) then (wr (p1_2 - p0_3)) else (if (wr (p0_2 - p1_3)) > (if (wr (p1_0 - p0_1)) > (if (wr (p0_0 - p1_1)) > 0 then (wr (p0_0 - p1_1)) else 0) then (wr (p1_0 - p0_1)) else (if (wr (p0_0 - p1_1)) > 0 then (wr (p0_0 - p1_1)) else 0)) then (wr (p0_2 - p1_3)) else (if (wr (p1_0 - p0_1)) > (if (wr (p0_0 - p1_1)) > 0 then (wr (p0_0 - p1_1)) else 0) then (wr (p1_0 - p0_1)) else (if (wr (p0_0 - p1_1)) > 0 then (wr (p0_0 - p1_1)) else 0))))), (24, .int .i64 (wr (p1_2 - p0_3)))] (by kernel_rfl) ?_
 refine wS_end (by rfl) ?_
 refine eX_then ?_
 refine cW_prune [(4, .int .i64 (if (wr (p1_2 - p0_3)) > (if (wr (p0_2 - p1_3)) > (if (wr (p1_0 - p0_1)) > (if (wr (p0_0 - p1_1)) > 0 then (wr (p0_0 - p1_1)) else 0) then (wr (p1_0 - p0_1)) else (if (wr (p0_0 - p1_1)) > 0 then (wr (p0_0 - p1_1)) else 0)) then (wr (p0_2 - p1_3)) else (if (wr (p1_0 - p0_1)) > (if (wr (p0_0 - p1_1)) > 0 then (wr (p0_0 - p1_1)) else 0) then (wr (p1_0 - p0_1)) else (if (wr (p0_0 - p1_1)) > 0 then (wr (p0_0 - p1_1)) else 0))) then (wr (p1_2 - p0_3)) else (if (wr (p0_2 - p1_3)) > (if (wr (p1_0 - p0_1)) > (if (wr (p0_0 - p1_1)) > 0 then (wr (p0_0 - p1_1)) else 0) then (wr (p1_0 - p0_1)) else (if (wr (p0_0 - p1_1)) > 0 then (wr (p0_0 - p1_1)) else 0)) then (wr (p0_2 - p1_3)) else (if (wr (p1_0 - p0_1)) > (if (wr (p0_0 - p1_1)) > 0 then (wr (p0_0 - p1_1)) else 0) then (wr (p1_0 - p0_1)) else (if (wr (p0_0 - p1_1)) > 0 then (wr (p0_0 - p1_1)) else 0)))))] (by kernel_rfl) (by kernel_rfl) (fun a1 => ?_)
 refine cW_ret ?_
 have hq : (some (if (wr (p1_2 - p0_3)) > (if (wr (p0_2 - p1_3)) > (if (wr (p1_0 - p0_1)) > (if (wr (p0_0 - p1_1)) > 0 then (wr (p0_0 - p1_1)) else 0) then (wr (p1_0 - p0_1)) else (if (wr (p0_0 - p1_1)) > 0 then (wr (p0_0 - p1_1)) else 0)) then (wr (p0_2 - p1_3)) else (if (wr (p1_0 - p0_1)) > (if (wr (p0_0 - p1_1)) > 0 then (wr (p0_0 - p1_1)) else 0) then (wr (p1_0 - p0_1)) else (if (wr (p0_0 - p1_1)) > 0 then (wr (p0_0 - p1_1)) else 0))) then (wr (p1_2 - p0_3)) else (if (wr (p0_2 - p1_3)) > (if (wr (p1_0 - p0_1)) > (if (wr (p0_0 - p1_1)) > 0 then (wr (p0_0 - p1_1)) else 0) then (wr (p1_0 - p0_1)) else (if (wr (p0_0 - p1_1)) > 0 then (wr (p0_0 - p1_1)) else 0)) then (wr (p0_2 - p1_3)) else (if (wr (p1_0 - p0_1)) > (if (wr (p0_0 - p1_1)) > 0 then (wr (p0_0 - p1_1)) else 0) then (wr (p1_0 - p0_1)) else (if (wr (p0_0 - p1_1)) > 0 then (wr (p0_0 - p1_1)) else 0)))) : Option ((Int))) = some _ := hm
 replace hq := someE hq
 subst hq
 refine eX_ret (vs := [.int .i64 (if (wr (p1_2 - p0_3)) > (if (wr (p0_2 - p1_3)) > (if (wr (p1_0 - p0_1)) > (if (wr (p0_0 - p1_1)) > 0 then (wr (p0_0 - p1_1)) else 0) then (wr (p1_0 - p0_1)) else (if (wr (p0_0 - p1_1)) > 0 then (wr (p0_0 - p1_1)) else 0)) then (wr (p0_2 - p1_3)) else (if (wr (p1_0 - p0_1)) > (if (wr (p0_0 - p1_1)) > 0 then (wr (p0_0 - p1_1)) else 0) then (wr (p1_0 - p0_1)) else (if (wr (p0_0 - p1_1)) > 0 then (wr (p0_0 - p1_1)) else 0))) then (wr (p1_2 - p0_3)) else (if (wr (p0_2 - p1_3)) > (if (wr (p1_0 - p0_1)) > (if (wr (p0_0 - p1_1)) > 0 then (wr (p0_0 - p1_1)) else 0) then (wr (p1_0 - p0_1)) else (if (wr (p0_0 - p1_1)) > 0 then (wr (p0_0 - p1_1)) else 0)) then (wr (p0_2 - p1_3)) else (if (wr (p1_0 - p0_1)) > (if (wr (p0_0 - p1_1)) > 0 then (wr (p0_0 - p1_1)) else 0) then (wr (p1_0 - p0_1)) else (if (wr (p0_0 - p1_1)) > 0 then (wr (p0_0 - p1_1)) else 0))))]) [.tmp 4] (by rfl) ⟨by (show lkE _ _ _ = _); kernel_rfl, trivial⟩ ?_
 exact ⟨rfl, hB⟩

set_option maxRecDepth 100000 in
/-- impl.size -/
theorem c_impl_size {w0 : World} {p0 : Int} {r : (Int)} (hm : m_impl_size p0 = some r)  :
  Calls Try.prog 46 #[.int .i64 (p0)] w0 fun e w' => e = .returned (.int .i64 (r)) ∧ Chg [] w0 w' := by
 have hB : Chg [] w0 w0 := Chg.refl _ _
 have hZ := Nat.le_refl w0.heap.size
 unfold m_impl_size at hm
 refine enterE (N := 7) Try.func46 (by rfl) Try.ntmps46 (by simp) [(0, .int .i64 (p0))] (by rfl) (by kernel_rfl) (fun a => ?_)
 refine cW_seq ?_
 refine cW_region ?_
 refine wS_pure 1 [(2, .int .i64 (0))] (by kernel_rfl) ?_
 refine wS_end (by rfl) ?_
 refine eX_then ?_
 refine cW_seq ?_
 refine cW_region ?_
 refine wS_pure 5 [(2, .int .i64 (if (wr (0 - p0)) > p0 then (wr (0 - p0)) else p0)), (6, .int .i64 (if (wr (0 - p0)) > p0 then (wr (0 - p0)) else p0)), (5, .int .i64 (wr (0 - p0))), (4, .int .i64 (p0)), (3, .int .i64 (p0))] (by kernel_rfl) ?_
 refine wS_end (by rfl) ?_
 refine eX_then ?_
 refine cW_ret ?_
 have hq : (some (if (wr (0 - p0)) > p0 then (wr (0 - p0)) else p0) : Option ((Int))) = some _ := hm
 replace hq := someE hq
 subst hq
 refine eX_ret (vs := [.int .i64 (if (wr (0 - p0)) > p0 then (wr (0 - p0)) else p0)]) [.tmp 2] (by rfl) ⟨by (show lkE _ _ _ = _); kernel_rfl, trivial⟩ ?_
 exact ⟨rfl, hB⟩

set_option maxRecDepth 100000 in
/-- impl.Region).grown -/
theorem c_impl_Region_grown {w0 : World} {p0_0 : Int} {p0_1 : Int} {p0_2 : Int} {p0_3 : Int} {p1 : Int} {r : (Int × Int × Int × Int)} (hm : m_impl_Region_grown p0_0 p0_1 p0_2 p0_3 p1 = some r)  :
  Calls Try.prog 47 #[.agg #[.int .i64 (p0_0), .int .i64 (p0_1), .int .i64 (p0_2), .int .i64 (p0_3)], .int .i64 (p1)] w0 fun e w' => e = .returned (.agg #[.int .i64 (r.1), .int .i64 (r.2.1), .int .i64 (r.2.2.1), .int .i64 (r.2.2.2)]) ∧ Chg [] w0 w' := by
 have hB : Chg [] w0 w0 := Chg.refl _ _
 have hZ := Nat.le_refl w0.heap.size
 unfold m_impl_Region_grown at hm
 refine enterE (N := 22) Try.func47 (by rfl) Try.ntmps47 (by simp) [(0, .agg #[.int .i64 (p0_0), .int .i64 (p0_1), .int .i64 (p0_2), .int .i64 (p0_3)]), (1, .int .i64 (p1))] (by rfl) (by kernel_rfl) (fun a => ?_)
 refine cW_seq ?_
 refine cW_region ?_
 refine wS_box (d := 2) (T := 55) (x := .agg #[.int .i64 (p0_0), .int .i64 (p0_1), .int .i64 (p0_2), .int .i64 (p0_3)]) (by kernel_rfl) ?_
 intro b1 w1 G1 F1 hc1
 replace F1 : Cl w1 b1 55 [.int .i64 (p0_0), .int .i64 (p0_1), .int .i64 (p0_2), .int .i64 (p0_3)] := F1
 replace hB := hB.inS hc1 inNil
 replace G1 := Nat.le_trans hZ G1
 replace hZ := Nat.le_trans hZ hc1.size
 refine wS_alloc (d := 4) (T := 55) (z := .agg #[.int .i64 (0), .int .i64 (0), .int .i64 (0), .int .i64 (0)]) (by kernel_rfl) (by kernel_rfl) ?_
 intro b2 w2 G2 F2 hc2
 replace F2 : Cl w2 b2 55 [.int .i64 (0), .int .i64 (0), .int .i64 (0), .int .i64 (0)] := F2
 have D1 : Dj [b1] [b2] := Dj.of (lt1 F1.lt) (low1 G2)
 replace F1 := F1.chg hc2 notNil
 replace hB := hB.inS hc2 inNil
 replace G2 := Nat.le_trans hZ G2
 replace hZ := Nat.le_trans hZ hc2.size
 refine wS_end (by rfl) ?_
 refine eX_then ?_
 refine cW_seq ?_
 refine cW_region ?_
 refine wS_pure 1 [(5, .pointer (some ⟨b1, 0, none⟩))] (by kernel_rfl) ?_
 refine wS_load1 (d := 6) (T := 2) (ad := ⟨b1, 0, none⟩) (v := .int .i64 (p0_0)) (by kernel_rfl) vt2 ((F1).cell 0) ?_
 refine wS_pure 3 [(9, .pointer (some ⟨b1, 1, none⟩)), (8, .int .i64 (wr (p0_0 - p1))), (7, .int .i64 (p1))] (by kernel_rfl) ?_
 refine wS_load1 (d := 10) (T := 2) (ad := ⟨b1, 1, none⟩) (v := .int .i64 (p0_1)) (by kernel_rfl) vt2 ((F1).cell 1) ?_
 refine wS_pure 3 [(13, .pointer (some ⟨b1, 2, none⟩)), (12, .int .i64 (wr (p0_1 + p1))), (11, .int .i64 (p1))] (by kernel_rfl) ?_
 refine wS_load1 (d := 14) (T := 2) (ad := ⟨b1, 2, none⟩) (v := .int .i64 (p0_2)) (by kernel_rfl) vt2 ((F1).cell 2) ?_
 refine wS_pure 3 [(17, .pointer (some ⟨b1, 3, none⟩)), (16, .int .i64 (wr (p0_2 - p1))), (15, .int .i64 (p1))] (by kernel_rfl) ?_
 refine wS_load1 (d := 18) (T := 2) (ad := ⟨b1, 3, none⟩) (v := .int .i64 (p0_3)) (by kernel_rfl) vt2 ((F1).cell 3) ?_
 refine wS_pure 3 [(21, .agg #[.int .i64 (wr (p0_0 - p1)), .int .i64 (wr (p0_1 + p1)), .int .i64 (wr (p0_2 - p1)), .int .i64 (wr (p0_3 + p1))]), (20, .int .i64 (wr (p0_3 + p1))), (19, .int .i64 (p1))] (by kernel_rfl) ?_
 refine wS_store (T := 55) (g := b2) (o := 0) (ad := ⟨b2, 0, none⟩) (v := .agg #[.int .i64 (wr (p0_0 - p1)), .int .i64 (wr (p0_1 + p1)), .int .i64 (wr (p0_2 - p1)), .int .i64 (wr (p0_3 + p1))]) (vs := [.int .i64 (wr (p0_0 - p1)), .int .i64 (wr (p0_1 + p1)), .int .i64 (wr (p0_2 - p1)), .int .i64 (wr (p0_3 + p1))]) (by kernel_rfl) (by rfl) sz55 (by rfl) (by rfl) F2 (by simp only [List.length_cons, List.length_nil]; omega) ?_
 intro w3 F3 hc3
 replace F1 := F1.chg hc3 (dj1 D1)
 replace hB := hB.inS hc3 (inLow (low1 G2))
 replace hZ := Nat.le_trans hZ hc3.size
 replace F3 : Cl w3 b2 55 [.int .i64 (wr (p0_0 - p1)), .int .i64 (wr (p0_1 + p1)), .int .i64 (wr (p0_2 - p1)), .int .i64 (wr (p0_3 + p1))] := F3
 clear F2
 refine wS_end (by rfl) ?_
 refine eX_then ?_
 refine cW_ret ?_
 have hq : (some ((wr (p0_0 - p1), wr (p0_1 + p1), wr (p0_2 - p1), wr (p0_3 + p1))) : Option ((Int × Int × Int × Int))) = some _ := hm
 replace hq := someE hq
 subst hq
 refine eX_ret (vs := [.agg #[.int .i64 (wr (p0_0 - p1)), .int .i64 (wr (p0_1 + p1)), .int .i64 (wr (p0_2 - p1)), .int .i64 (wr (p0_3 + p1))]]) [.cell 4 55] (by rfl) ⟨⟨⟨b2, 0, none⟩, by kernel_rfl, run_loadVarA (vs := [.int .i64 (wr (p0_0 - p1)), .int .i64 (wr (p0_1 + p1)), .int .i64 (wr (p0_2 - p1)), .int .i64 (wr (p0_3 + p1))]) vt55 (fun i u hu => by exact box_cells F3 0 hu (by rfl))⟩, trivial⟩ ?_
 exact ⟨rfl, hB⟩

set_option maxRecDepth 100000 in
/-- impl.Region).meet -/
theorem c_impl_Region_meet {w0 : World} {p0_0 : Int} {p0_1 : Int} {p0_2 : Int} {p0_3 : Int} {p1_0 : Int} {p1_1 : Int} {p1_2 : Int} {p1_3 : Int} {r : (Int × Int × Int × Int) × (Bool)} (hm : m_impl_Region_meet p0_0 p0_1 p0_2 p0_3 p1_0 p1_1 p1_2 p1_3 = some r)  :
  Calls Try.prog 48 #[.agg #[.int .i64 (p0_0), .int .i64 (p0_1), .int .i64 (p0_2), .int .i64 (p0_3)], .agg #[.int .i64 (p1_0), .int .i64 (p1_1), .int .i64 (p1_2), .int .i64 (p1_3)]] w0 fun e w' => e = .returned (.tuple #[.agg #[.int .i64 (r.1.1), .int .i64 (r.1.2.1), .int .i64 (r.1.2.2.1), .int .i64 (r.1.2.2.2)], .bool (r.2)]) ∧ Chg [] w0 w' := by
 have hB : Chg [] w0 w0 := Chg.refl _ _
 have hZ := Nat.le_refl w0.heap.size
 unfold m_impl_Region_meet at hm
 refine enterE (N := 41) Try.func48 (by rfl) Try.ntmps48 (by simp) [(0, .agg #[.int .i64 (p0_0), .int .i64 (p0_1), .int .i64 (p0_2), .int .i64 (p0_3)]), (1, .agg #[.int .i64 (p1_0), .int .i64 (p1_1), .int .i64 (p1_2), .int .i64 (p1_3)])] (by rfl) (by kernel_rfl) (fun a => ?_)
 refine cW_seq ?_
 refine cW_region ?_
 refine wS_box (d := 2) (T := 55) (x := .agg #[.int .i64 (p0_0), .int .i64 (p0_1), .int .i64 (p0_2), .int .i64 (p0_3)]) (by kernel_rfl) ?_
 intro b1 w1 G1 F1 hc1
 replace F1 : Cl w1 b1 55 [.int .i64 (p0_0), .int .i64 (p0_1), .int .i64 (p0_2), .int .i64 (p0_3)] := F1
 replace hB := hB.inS hc1 inNil
 replace G1 := Nat.le_trans hZ G1
 replace hZ := Nat.le_trans hZ hc1.size
 refine wS_box (d := 3) (T := 55) (x := .agg #[.int .i64 (p1_0), .int .i64 (p1_1), .int .i64 (p1_2), .int .i64 (p1_3)]) (by kernel_rfl) ?_
 intro b2 w2 G2 F2 hc2
 replace F2 : Cl w2 b2 55 [.int .i64 (p1_0), .int .i64 (p1_1), .int .i64 (p1_2), .int .i64 (p1_3)] := F2
 have D1 : Dj [b1] [b2] := Dj.of (lt1 F1.lt) (low1 G2)
 replace F1 := F1.chg hc2 notNil
 replace hB := hB.inS hc2 inNil
 replace G2 := Nat.le_trans hZ G2
 replace hZ := Nat.le_trans hZ hc2.size
 refine wS_alloc (d := 4) (T := 55) (z := .agg #[.int .i64 (0), .int .i64 (0), .int .i64 (0), .int .i64 (0)]) (by kernel_rfl) (by kernel_rfl) ?_
 intro b3 w3 G3 F3 hc3
 replace F3 : Cl w3 b3 55 [.int .i64 (0), .int .i64 (0), .int .i64 (0), .int .i64 (0)] := F3
 have D2 : Dj [b1] [b3] := Dj.of (lt1 F1.lt) (low1 G3)
 have D3 : Dj [b2] [b3] := Dj.of (lt1 F2.lt) (low1 G3)
 replace F1 := F1.chg hc3 notNil
 replace F2 := F2.chg hc3 notNil
 replace hB := hB.inS hc3 inNil
 replace G3 := Nat.le_trans hZ G3
 replace hZ := Nat.le_trans hZ hc3.size
 refine wS_pure 1 [(5, .bool (false))] (by kernel_rfl) ?_
 refine wS_end (by rfl) ?_
 refine eX_then ?_
 refine cW_seq ?_
 refine cW_region ?_
 refine wS_pure 1 [(7, .pointer (some ⟨b1, 0, none⟩))] (by kernel_rfl) ?_
 refine wS_load1 (d := 8) (T := 2) (ad := ⟨b1, 0, none⟩) (v := .int .i64 (p0_0)) (by kernel_rfl) vt2 ((F1).cell 0) ?_
 refine wS_pure 1 [(9, .pointer (some ⟨b2, 0, none⟩))] (by kernel_rfl) ?_
 refine wS_load1 (d := 10) (T := 2) (ad := ⟨b2, 0, none⟩) (v := .int .i64 (p1_0)) (by kernel_rfl) vt2 ((F2).cell 0) ?_
 refine wS_pure 2 [(12, .pointer (some ⟨b1, 1, none⟩)), (11, .int .i64 (if p1_0 > p0_0 then p1_0 else p0_0))] (by kernel_rfl) ?_
 refine wS_load1 (d := 13) (T := 2) (ad := ⟨b1, 1, none⟩) (v := .int .i64 (p0_1)) (by kernel_rfl) vt2 ((F1).cell 1) ?_
 refine wS_pure 1 [(14, .pointer (some ⟨b2, 1, none⟩))] (by kernel_rfl) ?_
 refine wS_load1 (d := 15) (T := 2) (ad := ⟨b2, 1, none⟩) (v := .int .i64 (p1_1)) (by kernel_rfl) vt2 ((F2).cell 1) ?_
 refine wS_pure 2 [(17, .pointer (some ⟨b1, 2, none⟩)), (16, .int .i64 (if p1_1 < p0_1 then p1_1 else p0_1))] (by kernel_rfl) ?_
 refine wS_load1 (d := 18) (T := 2) (ad := ⟨b1, 2, none⟩) (v := .int .i64 (p0_2)) (by kernel_rfl) vt2 ((F1).cell 2) ?_
 refine wS_pure 1 [(19, .pointer (some ⟨b2, 2, none⟩))] (by kernel_rfl) ?_
 refine wS_load1 (d := 20) (T := 2) (ad := ⟨b2, 2, none⟩) (v := .int .i64 (p1_2)) (by kernel_rfl) vt2 ((F2).cell 2) ?_
 refine wS_pure 2 [(22, .pointer (some ⟨b1, 3, none⟩)), (21, .int .i64 (if p1_2 > p0_2 then p1_2 else p0_2))] (by kernel_rfl) ?_
 refine wS_load1 (d := 23) (T := 2) (ad := ⟨b1, 3, none⟩) (v := .int .i64 (p0_3)) (by kernel_rfl) vt2 ((F1).cell 3) ?_
 refine wS_pure 1 [(24, .pointer (some ⟨b2, 3, none⟩))] (by kernel_rfl) ?_
 refine wS_load1 (d := 25) (T := 2) (ad := ⟨b2, 3, none⟩) (v := .int .i64 (p1_3)) (by kernel_rfl) vt2 ((F2).cell 3) ?_
 refine wS_pure 2 [(27, .agg #[.int .i64 (if p1_0 > p0_0 then p1_0 else p0_0), .int .i64 (if p1_1 < p0_1 then p1_1 else p0_1), .int .i64 (if p1_2 > p0_2 then p1_2 else p0_2), .int .i64 (if p1_3 < p0_3 then p1_3 else p0_3)]), (26, .int .i64 (if p1_3 < p0_3 then p1_3 else p0_3))] (by kernel_rfl) ?_
 refine wS_alloc (d := 6) (T := 55) (z := .agg #[.int .i64 (0), .int .i64 (0), .int .i64 (0), .int .i64 (0)]) (by kernel_rfl) (by kernel_rfl) ?_
 intro b4 w4 G4 F4 hc4
 replace F4 : Cl w4 b4 55 [.int .i64 (0), .int .i64 (0), .int .i64 (0), .int .i64 (0)] := F4
 have D4 : Dj [b1] [b4] := Dj.of (lt1 F1.lt) (low1 G4)
 have D5 : Dj [b2] [b4] := Dj.of (lt1 F2.lt) (low1 G4)
 have D6 : Dj [b3] [b4] := Dj.of (lt1 F3.lt) (low1 G4)
 replace F1 := F1.chg hc4 notNil
 replace F2 := F2.chg hc4 notNil
 replace F3 := F3.chg hc4 notNil
 replace hB := hB.inS hc4 inNil
 replace G4 := Nat.le_trans hZ G4
 replace hZ := Nat.le_trans hZ hc4.size
 refine wS_store (T := 55) (g := b4) (o := 0) (ad := ⟨b4, 0, none⟩) (v := .agg #[.int .i64 (if p1_0 > p0_0 then p1_0 else p0_0), .int .i64 (if p1_1 < p0_1 then p1_1 else p0_1), .int .i64 (if p1_2 > p0_2 then p1_2 else p0_2), .int .i64 (if p1_3 < p0_3 then p1_3 else p0_3)]) (vs := [.int .i64 (if p1_0 > p0_0 then p1_0 else p0_0), .int .i64 (if p1_1 < p0_1 then p1_1 else p0_1), .int .i64 (if p1_2 > p0_2 then p1_2 else p0_2), .int .i64 (if p1_3 < p0_3 then p1_3 else p0_3)]) (by kernel_rfl) (by rfl) sz55 (by rfl) (by rfl) F4 (by simp only [List.length_cons, List.length_nil]; omega) ?_
 intro w5 F5 hc5
 replace F1 := F1.chg hc5 (dj1 D4)
 replace F2 := F2.chg hc5 (dj1 D5)
 replace F3 := F3.chg hc5 (dj1 D6)
 replace hB := hB.inS hc5 (inLow (low1 G4))
 replace hZ := Nat.le_trans hZ hc5.size
 replace F5 : Cl w5 b4 55 [.int .i64 (if p1_0 > p0_0 then p1_0 else p0_0), .int .i64 (if p1_1 < p0_1 then p1_1 else p0_1), .int .i64 (if p1_2 > p0_2 then p1_2 else p0_2), .int .i64 (if p1_3 < p0_3 then p1_3 else p0_3)] := F5
 clear F4
 refine wS_end (by rfl) ?_
 refine eX_then ?_
 refine cW_prune [(4, .pointer (some ⟨b3, 0, none⟩)), (6, .pointer (some ⟨b4, 0, none⟩))] (by kernel_rfl) (by kernel_rfl) (fun a1 => ?_)
 refine cW_seq ?_
 refine cW_drawnTail [b3] 14 (by kernel_rfl) (by kernel_rfl) (fun w6 hc6 => ?_)
 replace F1 := F1.chg hc6 notNil
 replace F2 := F2.chg hc6 notNil
 replace F3 := F3.chg hc6 notNil
 replace F5 := F5.chg hc6 notNil
 replace hB := hB.inS hc6 inNil
 replace hZ := Nat.le_trans hZ hc6.size
 have hS := Chg.refl [b3] w6
 have Z1 := F1
 have Z2 := F2
 have Z3 := F3
 have Z4 := F5
 refine wH_loadA (i := 0) (d := 28) (T := 55) (ad := ⟨b4, 0, none⟩) (vs := [.int .i64 (if p1_0 > p0_0 then p1_0 else p0_0), .int .i64 (if p1_1 < p0_1 then p1_1 else p0_1), .int .i64 (if p1_2 > p0_2 then p1_2 else p0_2), .int .i64 (if p1_3 < p0_3 then p1_3 else p0_3)]) (by kernel_rfl) (qT (qT qZ)) (by kernel_rfl) (by kernel_rfl) vt55 (fun W hW i u hu => box_cells (Z4.chg hW (dj1 (D6).symm)) 0 hu (by rfl)) ?_
 refine wH_take [1] [1, 0] [(29, .pointer (some ⟨b4, 0, none⟩))] (by kernel_rfl) (qT (qT qZ)) (by kernel_rfl) ?_
 refine wH_load1 (i := 2) (d := 30) (T := 2) (ad := ⟨b4, 0, none⟩) (v := .int .i64 (if p1_0 > p0_0 then p1_0 else p0_0)) (by kernel_rfl) (qT (qT qZ)) (by kernel_rfl) (by kernel_rfl) vt2 (fun W hW => (Z4.chg hW (dj1 (D6).symm)).cell 0) ?_
 refine wH_take [3] [3, 2, 1, 0] [(31, .pointer (some ⟨b4, 1, none⟩))] (by kernel_rfl) (qT (qT qZ)) (by kernel_rfl) ?_
 refine wH_load1 (i := 4) (d := 32) (T := 2) (ad := ⟨b4, 1, none⟩) (v := .int .i64 (if p1_1 < p0_1 then p1_1 else p0_1)) (by kernel_rfl) (qT (qT qZ)) (by kernel_rfl) (by kernel_rfl) vt2 (fun W hW => (Z4.chg hW (dj1 (D6).symm)).cell 1) ?_
 refine wH_take [5, 6] [6, 5, 4, 3, 2, 1, 0] [(34, .bool (decide ((if p1_0 > p0_0 then p1_0 else p0_0) ≤ (if p1_1 < p0_1 then p1_1 else p0_1)))), (33, .bool (decide ((if p1_0 > p0_0 then p1_0 else p0_0) ≤ (if p1_1 < p0_1 then p1_1 else p0_1))))] (by kernel_rfl) (qT (qT qZ)) (by kernel_rfl) ?_
 refine wH_bool (decide ((if p1_0 > p0_0 then p1_0 else p0_0) ≤ (if p1_1 < p0_1 then p1_1 else p0_1))) (fun hb1 => ?_) (fun hb1 => ?_)
 ·have hm := condT hb1 hm
  rewrite [hb1]
  refine wH_take [7] [7, 6, 5, 4, 3, 2, 1, 0] [(35, .pointer (some ⟨b4, 2, none⟩))] (by kernel_rfl) (qT (qT qZ)) (by kernel_rfl) ?_
  refine wH_load1 (i := 8) (d := 36) (T := 2) (ad := ⟨b4, 2, none⟩) (v := .int .i64 (if p1_2 > p0_2 then p1_2 else p0_2)) (by kernel_rfl) (qT (qT qZ)) (by kernel_rfl) (by kernel_rfl) vt2 (fun W hW => (Z4.chg hW (dj1 (D6).symm)).cell 2) ?_
  refine wH_take [9] [9, 8, 7, 6, 5, 4, 3, 2, 1, 0] [(37, .pointer (some ⟨b4, 3, none⟩))] (by kernel_rfl) (qT (qT qZ)) (by kernel_rfl) ?_
  refine wH_load1 (i := 10) (d := 38) (T := 2) (ad := ⟨b4, 3, none⟩) (v := .int .i64 (if p1_3 < p0_3 then p1_3 else p0_3)) (by kernel_rfl) (qT (qT qZ)) (by kernel_rfl) (by kernel_rfl) vt2 (fun W hW => (Z4.chg hW (dj1 (D6).symm)).cell 3) ?_
  refine wH_take [11, 12] [12, 11, 10, 9, 8, 7, 6, 5, 4, 3, 2, 1, 0] [(40, .bool (decide ((if p1_2 > p0_2 then p1_2 else p0_2) ≤ (if p1_3 < p0_3 then p1_3 else p0_3)))), (39, .bool (decide ((if p1_2 > p0_2 then p1_2 else p0_2) ≤ (if p1_3 < p0_3 then p1_3 else p0_3))))] (by kernel_rfl) (qT (qT qZ)) (by kernel_rfl) ?_
  refine wH_all [13] (by rfl) (by kernel_rfl) (by simp) ⟨⟨by kernel_rfl, ?_⟩, trivial⟩
  refine wS_store (T := 55) (g := b3) (o := 0) (ad := ⟨b3, 0, none⟩) (v := .agg #[.int .i64 (if p1_0 > p0_0 then p1_0 else p0_0), .int .i64 (if p1_1 < p0_1 then p1_1 else p0_1), .int .i64 (if p1_2 > p0_2 then p1_2 else p0_2), .int .i64 (if p1_3 < p0_3 then p1_3 else p0_3)]) (vs := [.int .i64 (if p1_0 > p0_0 then p1_0 else p0_0), .int .i64 (if p1_1 < p0_1 then p1_1 else p0_1), .int .i64 (if p1_2 > p0_2 then p1_2 else p0_2), .int .i64 (if p1_3 < p0_3 then p1_3 else p0_3)]) (by kernel_rfl) (by rfl) sz55 (by rfl) (by rfl) F3 (by simp only [List.length_cons, List.length_nil]; omega) ?_
  intro w7 F6 hc7
  replace F1 := F1.chg hc7 (dj1 D2)
  replace F2 := F2.chg hc7 (dj1 D3)
  replace F5 := F5.chg hc7 (dj1 (D6).symm)
  replace hB := hB.inS hc7 (inLow (low1 G3))
  have hSz := hS
  replace hS := hS.trans hc7
  replace hZ := Nat.le_trans hZ hc7.size
  replace F6 : Cl w7 b3 55 [.int .i64 (if p1_0 > p0_0 then p1_0 else p0_0), .int .i64 (if p1_1 < p0_1 then p1_1 else p0_1), .int .i64 (if p1_2 > p0_2 then p1_2 else p0_2), .int .i64 (if p1_3 < p0_3 then p1_3 else p0_3)] := F6
  clear F3
  refine wS_end (by kernel_rfl) ?_
  refine eX_KH hS ?_
  refine wH_done (by kernel_rfl) ?_
  refine eX_tail ?_
  refine wS_pure 1 [(5, .bool (decide ((if p1_2 > p0_2 then p1_2 else p0_2) ≤ (if p1_3 < p0_3 then p1_3 else p0_3))))] (by kernel_rfl) ?_
  refine wS_end (by rfl) ?_
  refine eX_then ?_
  refine cW_ret ?_
  have hq : (some (((if p1_0 > p0_0 then p1_0 else p0_0, if p1_1 < p0_1 then p1_1 else p0_1, if p1_2 > p0_2 then p1_2 else p0_2, if p1_3 < p0_3 then p1_3 else p0_3), decide ((if p1_2 > p0_2 then p1_2 else p0_2) ≤ (if p1_3 < p0_3 then p1_3 else p0_3)))) : Option ((Int × Int × Int × Int) × (Bool))) = some _ := hm
  replace hq := someE hq
  subst hq
  refine eX_ret (vs := [.agg #[.int .i64 (if p1_0 > p0_0 then p1_0 else p0_0), .int .i64 (if p1_1 < p0_1 then p1_1 else p0_1), .int .i64 (if p1_2 > p0_2 then p1_2 else p0_2), .int .i64 (if p1_3 < p0_3 then p1_3 else p0_3)], .bool (decide ((if p1_2 > p0_2 then p1_2 else p0_2) ≤ (if p1_3 < p0_3 then p1_3 else p0_3)))]) [.cell 4 55, .tmp 5] (by rfl) ⟨⟨⟨b3, 0, none⟩, by kernel_rfl, run_loadVarA (vs := [.int .i64 (if p1_0 > p0_0 then p1_0 else p0_0), .int .i64 (if p1_1 < p0_1 then p1_1 else p0_1), .int .i64 (if p1_2 > p0_2 then p1_2 else p0_2), .int .i64 (if p1_3 < p0_3 then p1_3 else p0_3)]) vt55 (fun i u hu => by exact box_cells F6 0 hu (by rfl))⟩, ⟨by (show lkE _ _ _ = _); kernel_rfl, trivial⟩⟩ ?_
  exact ⟨rfl, hB⟩
 ·have hm := condF hb1 hm
  rewrite [hb1]
  refine wH_take [7, 8, 9, 10, 11, 12] [12, 11, 10, 9, 8, 7, 6, 5, 4, 3, 2, 1, 0] [(40, .bool (false)), (39, undef), (38, undef), (37, undef), (36, undef), (35, undef)] (by kernel_rfl) (qT (qT qZ)) (by kernel_rfl) ?_
  refine wH_all [13] (by rfl) (by kernel_rfl) (by simp) ⟨⟨by kernel_rfl, ?_⟩, trivial⟩
  refine wS_store (T := 55) (g := b3) (o := 0) (ad := ⟨b3, 0, none⟩) (v := .agg #[.int .i64 (if p1_0 > p0_0 then p1_0 else p0_0), .int .i64 (if p1_1 < p0_1 then p1_1 else p0_1), .int .i64 (if p1_2 > p0_2 then p1_2 else p0_2), .int .i64 (if p1_3 < p0_3 then p1_3 else p0_3)]) (vs := [.int .i64 (if p1_0 > p0_0 then p1_0 else p0_0), .int .i64 (if p1_1 < p0_1 then p1_1 else p0_1), .int .i64 (if p1_2 > p0_2 then p1_2 else p0_2), .int .i64 (if p1_3 < p0_3 then p1_3 else p0_3)]) (by kernel_rfl) (by rfl) sz55 (by rfl) (by rfl) F3 (by simp only [List.length_cons, List.length_nil]; omega) ?_
  intro w8 F7 hc8
  replace F1 := F1.chg hc8 (dj1 D2)
  replace F2 := F2.chg hc8 (dj1 D3)
  replace F5 := F5.chg hc8 (dj1 (D6).symm)
  replace hB := hB.inS hc8 (inLow (low1 G3))
  have hSz := hS
  replace hS := hS.trans hc8
  replace hZ := Nat.le_trans hZ hc8.size
  replace F7 : Cl w8 b3 55 [.int .i64 (if p1_0 > p0_0 then p1_0 else p0_0), .int .i64 (if p1_1 < p0_1 then p1_1 else p0_1), .int .i64 (if p1_2 > p0_2 then p1_2 else p0_2), .int .i64 (if p1_3 < p0_3 then p1_3 else p0_3)] := F7
  clear F3
  refine wS_end (by kernel_rfl) ?_
  refine eX_KH hS ?_
  refine wH_done (by kernel_rfl) ?_
  refine eX_tail ?_
  refine wS_pure 1 [(5, .bool (false))] (by kernel_rfl) ?_
  refine wS_end (by rfl) ?_
  refine eX_then ?_
  refine cW_ret ?_
  have hq : (some (((if p1_0 > p0_0 then p1_0 else p0_0, if p1_1 < p0_1 then p1_1 else p0_1, if p1_2 > p0_2 then p1_2 else p0_2, if p1_3 < p0_3 then p1_3 else p0_3), false)) : Option ((Int × Int × Int × Int) × (Bool))) = some _ := hm
  replace hq := someE hq
  subst hq
  refine eX_ret (vs := [.agg #[.int .i64 (if p1_0 > p0_0 then p1_0 else p0_0), .int .i64 (if p1_1 < p0_1 then p1_1 else p0_1), .int .i64 (if p1_2 > p0_2 then p1_2 else p0_2), .int .i64 (if p1_3 < p0_3 then p1_3 else p0_3)], .bool (false)]) [.cell 4 55, .tmp 5] (by rfl) ⟨⟨⟨b3, 0, none⟩, by kernel_rfl, run_loadVarA (vs := [.int .i64 (if p1_0 > p0_0 then p1_0 else p0_0), .int .i64 (if p1_1 < p0_1 then p1_1 else p0_1), .int .i64 (if p1_2 > p0_2 then p1_2 else p0_2), .int .i64 (if p1_3 < p0_3 then p1_3 else p0_3)]) vt55 (fun i u hu => by exact box_cells F7 0 hu (by rfl))⟩, ⟨by (show lkE _ _ _ = _); kernel_rfl, trivial⟩⟩ ?_
  exact ⟨rfl, hB⟩

set_option maxRecDepth 100000 in
/-- impl.ValidRegion -/
theorem c_impl_ValidRegion {w0 : World} {p0_0 : Int} {p0_1 : Int} {p0_2 : Int} {p0_3 : Int} {r : (Bool)} (hm : m_impl_ValidRegion p0_0 p0_1 p0_2 p0_3 = some r)  :
  Calls Try.prog 58 #[.agg #[.int .i64 (p0_0), .int .i64 (p0_1), .int .i64 (p0_2), .int .i64 (p0_3)]] w0 fun e w' => e = .returned (.bool (r)) ∧ Chg [] w0 w' := by
 have hB : Chg [] w0 w0 := Chg.refl _ _
 have hZ := Nat.le_refl w0.heap.size
 unfold m_impl_ValidRegion at hm
 refine enterE (N := 25) Try.func58 (by rfl) Try.ntmps58 (by simp) [(0, .agg #[.int .i64 (p0_0), .int .i64 (p0_1), .int .i64 (p0_2), .int .i64 (p0_3)])] (by rfl) (by kernel_rfl) (fun a => ?_)
 refine cW_seq ?_
 refine cW_region ?_
 refine wS_box (d := 1) (T := 55) (x := .agg #[.int .i64 (p0_0), .int .i64 (p0_1), .int .i64 (p0_2), .int .i64 (p0_3)]) (by kernel_rfl) ?_
 intro b1 w1 G1 F1 hc1
 replace F1 : Cl w1 b1 55 [.int .i64 (p0_0), .int .i64 (p0_1), .int .i64 (p0_2), .int .i64 (p0_3)] := F1
 replace hB := hB.inS hc1 inNil
 replace G1 := Nat.le_trans hZ G1
 replace hZ := Nat.le_trans hZ hc1.size
 refine wS_pure 1 [(2, .bool (false))] (by kernel_rfl) ?_
 refine wS_end (by rfl) ?_
 refine eX_then ?_
 refine cW_seq ?_
 refine cW_region ?_
 refine wS_pure 1 [(3, .pointer (some ⟨b1, 0, none⟩))] (by kernel_rfl) ?_
 refine wS_load1 (d := 4) (T := 2) (ad := ⟨b1, 0, none⟩) (v := .int .i64 (p0_0)) (by kernel_rfl) vt2 ((F1).cell 0) ?_
 refine wS_pure 1 [(5, .pointer (some ⟨b1, 1, none⟩))] (by kernel_rfl) ?_
 refine wS_load1 (d := 6) (T := 2) (ad := ⟨b1, 1, none⟩) (v := .int .i64 (p0_1)) (by kernel_rfl) vt2 ((F1).cell 1) ?_
 obtain ⟨y1, hy1, hm⟩ := bindE hm
 refine wS_calls (d := 7) (f := 31) (vs := [.int .i64 (p0_0), .int .i64 ((-1000000000)), .int .i64 (p0_1)]) (by kernel_rfl) ent31 (c_impl_in hy1) ?_
 rintro _ w2 ⟨rfl, hc2⟩
 replace F1 := F1.chg hc2 notNil
 replace hB := hB.inS hc2 inNil
 replace hZ := Nat.le_trans hZ hc2.size
 refine ⟨.bool (y1), rfl, ?_⟩
 refine wS_pure 1 [(8, .bool (y1))] (by kernel_rfl) ?_
 refine wS_bool y1 (fun hb1 => ?_) (fun hb1 => ?_)
 ·have hm := condT hb1 hm
  rewrite [hb1]
  refine wS_pure 1 [(9, .pointer (some ⟨b1, 2, none⟩))] (by kernel_rfl) ?_
  refine wS_load1 (d := 10) (T := 2) (ad := ⟨b1, 2, none⟩) (v := .int .i64 (p0_2)) (by kernel_rfl) vt2 ((F1).cell 2) ?_
  refine wS_pure 1 [(11, .pointer (some ⟨b1, 3, none⟩))] (by kernel_rfl) ?_
  refine wS_load1 (d := 12) (T := 2) (ad := ⟨b1, 3, none⟩) (v := .int .i64 (p0_3)) (by kernel_rfl) vt2 ((F1).cell 3) ?_
  obtain ⟨y2, hy2, hm⟩ := bindE hm
  refine wS_calls (d := 13) (f := 31) (vs := [.int .i64 (p0_2), .int .i64 ((-1000000000)), .int .i64 (p0_3)]) (by kernel_rfl) ent31 (c_impl_in hy2) ?_
  rintro _ w3 ⟨rfl, hc3⟩
  replace F1 := F1.chg hc3 notNil
  replace hB := hB.inS hc3 inNil
  replace hZ := Nat.le_trans hZ hc3.size
  refine ⟨.bool (y2), rfl, ?_⟩
  refine wS_pure 2 [(15, .bool (y2)), (14, .bool (y2))] (by kernel_rfl) ?_
  refine wS_bool y2 (fun hb2 => ?_) (fun hb2 => ?_)
  ·have hm := condT hb2 hm
   rewrite [hb2]
   refine wS_pure 1 [(16, .pointer (some ⟨b1, 1, none⟩))] (by kernel_rfl) ?_
   refine wS_load1 (d := 17) (T := 2) (ad := ⟨b1, 1, none⟩) (v := .int .i64 (p0_1)) (by kernel_rfl) vt2 ((F1).cell 1) ?_
   refine wS_pure 3 [(20, .bool (decide (p0_1 ≤ 1000000000))), (19, .bool (decide (p0_1 ≤ 1000000000))), (18, .bool (decide (p0_1 ≤ 1000000000)))] (by kernel_rfl) ?_
   refine wS_bool (decide (p0_1 ≤ 1000000000)) (fun hb3 => ?_) (fun hb3 => ?_)
   ·have hm := condT hb3 hm
    rewrite [hb3]
    refine wS_pure 1 [(21, .pointer (some ⟨b1, 3, none⟩))] (by kernel_rfl) ?_
    refine wS_load1 (d := 22) (T := 2) (ad := ⟨b1, 3, none⟩) (v := .int .i64 (p0_3)) (by kernel_rfl) vt2 ((F1).cell 3) ?_
    refine wS_pure 3 [(2, .bool (decide (p0_3 ≤ 1000000000))), (24, .bool (decide (p0_3 ≤ 1000000000))), (23, .bool (decide (p0_3 ≤ 1000000000)))] (by kernel_rfl) ?_
    refine wS_end (by rfl) ?_
    refine eX_then ?_
    refine cW_prune [(2, .bool (decide (p0_3 ≤ 1000000000)))] (by kernel_rfl) (by kernel_rfl) (fun a1 => ?_)
    refine cW_ret ?_
    have hq : (some (decide (p0_3 ≤ 1000000000)) : Option ((Bool))) = some _ := hm
    replace hq := someE hq
    subst hq
    refine eX_ret (vs := [.bool (decide (p0_3 ≤ 1000000000))]) [.tmp 2] (by rfl) ⟨by (show lkE _ _ _ = _); kernel_rfl, trivial⟩ ?_
    exact ⟨rfl, hB⟩
   ·have hm := condF hb3 hm
    rewrite [hb3]
    refine wS_pure 5 [(2, .bool (false)), (24, .bool (false)), (23, undef), (22, undef), (21, undef)] (by kernel_rfl) ?_
    refine wS_end (by rfl) ?_
    refine eX_then ?_
    refine cW_prune [(2, .bool (false))] (by kernel_rfl) (by kernel_rfl) (fun a2 => ?_)
    refine cW_ret ?_
    have hq : (some false : Option ((Bool))) = some _ := hm
    replace hq := someE hq
    subst hq
    refine eX_ret (vs := [.bool (false)]) [.tmp 2] (by rfl) ⟨by (show lkE _ _ _ = _); kernel_rfl, trivial⟩ ?_
    exact ⟨rfl, hB⟩
  ·have hm := condF hb2 hm
   rewrite [hb2]
   refine wS_pure 10 [(2, .bool (false)), (24, .bool (false)), (23, undef), (22, undef), (21, undef), (20, .bool (false)), (19, .bool (false)), (18, undef), (17, undef), (16, undef)] (by kernel_rfl) ?_
   refine wS_end (by rfl) ?_
   refine eX_then ?_
   refine cW_prune [(2, .bool (false))] (by kernel_rfl) (by kernel_rfl) (fun a3 => ?_)
   refine cW_ret ?_
   have hq : (some false : Option ((Bool))) = some _ := hm
   replace hq := someE hq
   subst hq
   refine eX_ret (vs := [.bool (false)]) [.tmp 2] (by rfl) ⟨by (show lkE _ _ _ = _); kernel_rfl, trivial⟩ ?_
   exact ⟨rfl, hB⟩
 ·have hm := condF hb1 hm
  rewrite [hb1]
  refine wS_pure 17 [(2, .bool (false)), (24, .bool (false)), (23, undef), (22, undef), (21, undef), (20, .bool (false)), (19, .bool (false)), (18, undef), (17, undef), (16, undef), (15, .bool (false)), (14, .bool (false)), (13, undef), (12, undef), (11, undef), (10, undef), (9, undef)] (by kernel_rfl) ?_
  refine wS_end (by rfl) ?_
  refine eX_then ?_
  refine cW_prune [(2, .bool (false))] (by kernel_rfl) (by kernel_rfl) (fun a4 => ?_)
  refine cW_ret ?_
  have hq : (some false : Option ((Bool))) = some _ := hm
  replace hq := someE hq
  subst hq
  refine eX_ret (vs := [.bool (false)]) [.tmp 2] (by rfl) ⟨by (show lkE _ _ _ = _); kernel_rfl, trivial⟩ ?_
  exact ⟨rfl, hB⟩

set_option maxRecDepth 100000 in
/-- impl.mergeOk -/
theorem c_impl_mergeOk {w0 : World} {p0_0 : Int} {p0_1 : Int} {p0_2 : Int} {p0_3 : Int} {p0_4 : Int} {r : (Bool)} (hm : m_impl_mergeOk p0_0 p0_1 p0_2 p0_3 p0_4 = some r)  :
  Calls Try.prog 49 #[.agg #[.int .i64 (p0_0), .int .i64 (p0_1), .int .i64 (p0_2), .int .i64 (p0_3), .int .i64 (p0_4)]] w0 fun e w' => e = .returned (.bool (r)) ∧ Chg [] w0 w' := by
 have hB : Chg [] w0 w0 := Chg.refl _ _
 have hZ := Nat.le_refl w0.heap.size
 unfold m_impl_mergeOk at hm
 refine enterE (N := 11) Try.func49 (by rfl) Try.ntmps49 (by simp) [(0, .agg #[.int .i64 (p0_0), .int .i64 (p0_1), .int .i64 (p0_2), .int .i64 (p0_3), .int .i64 (p0_4)])] (by rfl) (by kernel_rfl) (fun a => ?_)
 refine cW_seq ?_
 refine cW_region ?_
 refine wS_box (d := 1) (T := 58) (x := .agg #[.int .i64 (p0_0), .int .i64 (p0_1), .int .i64 (p0_2), .int .i64 (p0_3), .int .i64 (p0_4)]) (by kernel_rfl) ?_
 intro b1 w1 G1 F1 hc1
 replace F1 : Cl w1 b1 58 [.int .i64 (p0_0), .int .i64 (p0_1), .int .i64 (p0_2), .int .i64 (p0_3), .int .i64 (p0_4)] := F1
 replace hB := hB.inS hc1 inNil
 replace G1 := Nat.le_trans hZ G1
 replace hZ := Nat.le_trans hZ hc1.size
 refine wS_pure 1 [(2, .bool (false))] (by kernel_rfl) ?_
 refine wS_end (by rfl) ?_
 refine eX_then ?_
 refine cW_seq ?_
 refine cW_region ?_
 refine wS_pure 1 [(3, .pointer (some ⟨b1, 0, none⟩))] (by kernel_rfl) ?_
 refine wS_loadA (d := 4) (T := 55) (ad := ⟨b1, 0, none⟩) (vs := [.int .i64 (p0_0), .int .i64 (p0_1), .int .i64 (p0_2), .int .i64 (p0_3)]) (by kernel_rfl) vt55 (fun i u hu => box_cells F1 0 hu (by rfl)) ?_
 obtain ⟨y1, hy1, hm⟩ := bindE hm
 refine wS_calls (d := 5) (f := 58) (vs := [.agg #[.int .i64 (p0_0), .int .i64 (p0_1), .int .i64 (p0_2), .int .i64 (p0_3)]]) (by kernel_rfl) ent58 (c_impl_ValidRegion hy1) ?_
 rintro _ w2 ⟨rfl, hc2⟩
 replace F1 := F1.chg hc2 notNil
 replace hB := hB.inS hc2 inNil
 replace hZ := Nat.le_trans hZ hc2.size
 refine ⟨.bool (y1), rfl, ?_⟩
 refine wS_pure 1 [(6, .bool (y1))] (by kernel_rfl) ?_
 refine wS_bool y1 (fun hb1 => ?_) (fun hb1 => ?_)
 ·have hm := condT hb1 hm
  rewrite [hb1]
  refine wS_pure 1 [(7, .pointer (some ⟨b1, 4, none⟩))] (by kernel_rfl) ?_
  refine wS_load1 (d := 8) (T := 2) (ad := ⟨b1, 4, none⟩) (v := .int .i64 (p0_4)) (by kernel_rfl) vt2 ((F1).cell 4) ?_
  obtain ⟨y2, hy2, hm⟩ := bindE hm
  refine wS_calls (d := 9) (f := 31) (vs := [.int .i64 (p0_4), .int .i64 (0), .int .i64 (1000000000)]) (by kernel_rfl) ent31 (c_impl_in hy2) ?_
  rintro _ w3 ⟨rfl, hc3⟩
  replace F1 := F1.chg hc3 notNil
  replace hB := hB.inS hc3 inNil
  replace hZ := Nat.le_trans hZ hc3.size
  refine ⟨.bool (y2), rfl, ?_⟩
  refine wS_pure 2 [(2, .bool (y2)), (10, .bool (y2))] (by kernel_rfl) ?_
  refine wS_end (by rfl) ?_
  refine eX_then ?_
  refine cW_ret ?_
  have hq : (some y2 : Option ((Bool))) = some _ := hm
  replace hq := someE hq
  subst hq
  refine eX_ret (vs := [.bool (y2)]) [.tmp 2] (by rfl) ⟨by (show lkE _ _ _ = _); kernel_rfl, trivial⟩ ?_
  exact ⟨rfl, hB⟩
 ·have hm := condF hb1 hm
  rewrite [hb1]
  refine wS_pure 5 [(2, .bool (false)), (10, .bool (false)), (9, undef), (8, undef), (7, undef)] (by kernel_rfl) ?_
  refine wS_end (by rfl) ?_
  refine eX_then ?_
  refine cW_ret ?_
  have hq : (some false : Option ((Bool))) = some _ := hm
  replace hq := someE hq
  subst hq
  refine eX_ret (vs := [.bool (false)]) [.tmp 2] (by rfl) ⟨by (show lkE _ _ _ = _); kernel_rfl, trivial⟩ ?_
  exact ⟨rfl, hB⟩

set_option maxRecDepth 100000 in
/-- impl.merge -/
theorem c_impl_merge {w0 : World} {p0_0 : Int} {p0_1 : Int} {p0_2 : Int} {p0_3 : Int} {p0_4 : Int} {p1_0 : Int} {p1_1 : Int} {p1_2 : Int} {p1_3 : Int} {p1_4 : Int} {r : (Int × Int × Int × Int × Int) × (Int) × (Int) × (Bool)} (hm : m_impl_merge p0_0 p0_1 p0_2 p0_3 p0_4 p1_0 p1_1 p1_2 p1_3 p1_4 = some r)  :
  Calls Try.prog 27 #[.agg #[.int .i64 (p0_0), .int .i64 (p0_1), .int .i64 (p0_2), .int .i64 (p0_3), .int .i64 (p0_4)], .agg #[.int .i64 (p1_0), .int .i64 (p1_1), .int .i64 (p1_2), .int .i64 (p1_3), .int .i64 (p1_4)]] w0 fun e w' => e = .returned (.tuple #[.agg #[.int .i64 (r.1.1), .int .i64 (r.1.2.1), .int .i64 (r.1.2.2.1), .int .i64 (r.1.2.2.2.1), .int .i64 (r.1.2.2.2.2)], .int .i64 (r.2.1), .int .i64 (r.2.2.1), .bool (r.2.2.2)]) ∧ Chg [] w0 w' := by
 have hB : Chg [] w0 w0 := Chg.refl _ _
 have hZ := Nat.le_refl w0.heap.size
 unfold m_impl_merge at hm
 refine enterE (N := 86) Try.func27 (by rfl) Try.ntmps27 (by simp) [(0, .agg #[.int .i64 (p0_0), .int .i64 (p0_1), .int .i64 (p0_2), .int .i64 (p0_3), .int .i64 (p0_4)]), (1, .agg #[.int .i64 (p1_0), .int .i64 (p1_1), .int .i64 (p1_2), .int .i64 (p1_3), .int .i64 (p1_4)])] (by rfl) (by kernel_rfl) (fun a => ?_)
 refine cW_seq ?_
 refine cW_region ?_
 refine wS_box (d := 2) (T := 58) (x := .agg #[.int .i64 (p0_0), .int .i64 (p0_1), .int .i64 (p0_2), .int .i64 (p0_3), .int .i64 (p0_4)]) (by kernel_rfl) ?_
 intro b1 w1 G1 F1 hc1
 replace F1 : Cl w1 b1 58 [.int .i64 (p0_0), .int .i64 (p0_1), .int .i64 (p0_2), .int .i64 (p0_3), .int .i64 (p0_4)] := F1
 replace hB := hB.inS hc1 inNil
 replace G1 := Nat.le_trans hZ G1
 replace hZ := Nat.le_trans hZ hc1.size
 refine wS_box (d := 3) (T := 58) (x := .agg #[.int .i64 (p1_0), .int .i64 (p1_1), .int .i64 (p1_2), .int .i64 (p1_3), .int .i64 (p1_4)]) (by kernel_rfl) ?_
 intro b2 w2 G2 F2 hc2
 replace F2 : Cl w2 b2 58 [.int .i64 (p1_0), .int .i64 (p1_1), .int .i64 (p1_2), .int .i64 (p1_3), .int .i64 (p1_4)] := F2
 have D1 : Dj [b1] [b2] := Dj.of (lt1 F1.lt) (low1 G2)
 replace F1 := F1.chg hc2 notNil
 replace hB := hB.inS hc2 inNil
 replace G2 := Nat.le_trans hZ G2
 replace hZ := Nat.le_trans hZ hc2.size
 refine wS_alloc (d := 4) (T := 58) (z := .agg #[.int .i64 (0), .int .i64 (0), .int .i64 (0), .int .i64 (0), .int .i64 (0)]) (by kernel_rfl) (by kernel_rfl) ?_
 intro b3 w3 G3 F3 hc3
 replace F3 : Cl w3 b3 58 [.int .i64 (0), .int .i64 (0), .int .i64 (0), .int .i64 (0), .int .i64 (0)] := F3
 have D2 : Dj [b1] [b3] := Dj.of (lt1 F1.lt) (low1 G3)
 have D3 : Dj [b2] [b3] := Dj.of (lt1 F2.lt) (low1 G3)
 replace F1 := F1.chg hc3 notNil
 replace F2 := F2.chg hc3 notNil
 replace hB := hB.inS hc3 inNil
 replace G3 := Nat.le_trans hZ G3
 replace hZ := Nat.le_trans hZ hc3.size
 refine wS_pure 3 [(7, .bool (false)), (6, .int .i64 (0)), (5, .int .i64 (0))] (by kernel_rfl) ?_
 refine wS_end (by rfl) ?_
 refine eX_then ?_
 refine cW_seq ?_
 refine cW_region ?_
 refine wS_pure 1 [(15, .pointer (some ⟨b1, 0, none⟩))] (by kernel_rfl) ?_
 refine wS_loadA (d := 16) (T := 55) (ad := ⟨b1, 0, none⟩) (vs := [.int .i64 (p0_0), .int .i64 (p0_1), .int .i64 (p0_2), .int .i64 (p0_3)]) (by kernel_rfl) vt55 (fun i u hu => box_cells F1 0 hu (by rfl)) ?_
 refine wS_pure 1 [(17, .pointer (some ⟨b2, 0, none⟩))] (by kernel_rfl) ?_
 refine wS_loadA (d := 18) (T := 55) (ad := ⟨b2, 0, none⟩) (vs := [.int .i64 (p1_0), .int .i64 (p1_1), .int .i64 (p1_2), .int .i64 (p1_3)]) (by kernel_rfl) vt55 (fun i u hu => box_cells F2 0 hu (by rfl)) ?_
 obtain ⟨y1, hy1, hm⟩ := bindE hm
 refine wS_calls (d := 19) (f := 26) (vs := [.agg #[.int .i64 (p0_0), .int .i64 (p0_1), .int .i64 (p0_2), .int .i64 (p0_3)], .agg #[.int .i64 (p1_0), .int .i64 (p1_1), .int .i64 (p1_2), .int .i64 (p1_3)]]) (by kernel_rfl) ent26 (c_impl_Region_far hy1) ?_
 rintro _ w4 ⟨rfl, hc4⟩
 replace F1 := F1.chg hc4 notNil
 replace F2 := F2.chg hc4 notNil
 replace F3 := F3.chg hc4 notNil
 replace hB := hB.inS hc4 inNil
 replace hZ := Nat.le_trans hZ hc4.size
 refine ⟨.int .i64 (y1), rfl, ?_⟩
 refine wS_pure 1 [(8, .int .i64 (y1))] (by kernel_rfl) ?_
 refine wS_end (by rfl) ?_
 refine eX_then ?_
 refine cW_seq ?_
 refine cW_drawnTail [] 13 (by kernel_rfl) (by kernel_rfl) (fun w5 hc5 => ?_)
 replace F1 := F1.chg hc5 notNil
 replace F2 := F2.chg hc5 notNil
 replace F3 := F3.chg hc5 notNil
 replace hB := hB.inS hc5 inNil
 replace hZ := Nat.le_trans hZ hc5.size
 have hS := Chg.refl [] w5
 have Z1 := F1
 have Z2 := F2
 have Z3 := F3
 refine wH_take [0] [0] [(20, .pointer (some ⟨b2, 4, none⟩))] (by kernel_rfl) (qT (qT qZ)) (by kernel_rfl) ?_
 refine wH_load1 (i := 1) (d := 21) (T := 2) (ad := ⟨b2, 4, none⟩) (v := .int .i64 (p1_4)) (by kernel_rfl) (qT (qT qZ)) (by kernel_rfl) (by kernel_rfl) vt2 (fun W hW => (Z2.chg hW notNil).cell 4) ?_
 refine wH_take [2] [2, 1, 0] [(22, .pointer (some ⟨b1, 4, none⟩))] (by kernel_rfl) (qT (qT qZ)) (by kernel_rfl) ?_
 refine wH_load1 (i := 3) (d := 23) (T := 2) (ad := ⟨b1, 4, none⟩) (v := .int .i64 (p0_4)) (by kernel_rfl) (qT (qT qZ)) (by kernel_rfl) (by kernel_rfl) vt2 (fun W hW => (Z1.chg hW notNil).cell 4) ?_
 refine wH_take [4, 5, 6] [6, 5, 4, 3, 2, 1, 0] [(26, .pointer (some ⟨b1, 4, none⟩)), (25, .int .i64 (if 0 > (wr (p1_4 - p0_4)) then 0 else (wr (p1_4 - p0_4)))), (24, .int .i64 (wr (p1_4 - p0_4)))] (by kernel_rfl) (qT (qT qZ)) (by kernel_rfl) ?_
 refine wH_load1 (i := 7) (d := 27) (T := 2) (ad := ⟨b1, 4, none⟩) (v := .int .i64 (p0_4)) (by kernel_rfl) (qT (qT qZ)) (by kernel_rfl) (by kernel_rfl) vt2 (fun W hW => (Z1.chg hW notNil).cell 4) ?_
 refine wH_take [8] [8, 7, 6, 5, 4, 3, 2, 1, 0] [(28, .pointer (some ⟨b2, 4, none⟩))] (by kernel_rfl) (qT (qT qZ)) (by kernel_rfl) ?_
 refine wH_load1 (i := 9) (d := 29) (T := 2) (ad := ⟨b2, 4, none⟩) (v := .int .i64 (p1_4)) (by kernel_rfl) (qT (qT qZ)) (by kernel_rfl) (by kernel_rfl) vt2 (fun W hW => (Z2.chg hW notNil).cell 4) ?_
 refine wH_take [10, 11, 12] [12, 11, 10, 9, 8, 7, 6, 5, 4, 3, 2, 1, 0] [(9, .int .i64 (if 0 > (wr (p1_4 - p0_4)) then 0 else (wr (p1_4 - p0_4)))), (31, .int .i64 (if 0 > (wr (p0_4 - p1_4)) then 0 else (wr (p0_4 - p1_4)))), (30, .int .i64 (wr (p0_4 - p1_4)))] (by kernel_rfl) (qT (qT qZ)) (by kernel_rfl) ?_
 refine wH_done (by kernel_rfl) ?_
 refine eX_tail ?_
 refine wS_pure 1 [(10, .int .i64 (if 0 > (wr (p0_4 - p1_4)) then 0 else (wr (p0_4 - p1_4))))] (by kernel_rfl) ?_
 refine wS_end (by rfl) ?_
 refine eX_then ?_
 refine cW_prune [(2, .pointer (some ⟨b1, 0, none⟩)), (3, .pointer (some ⟨b2, 0, none⟩)), (4, .pointer (some ⟨b3, 0, none⟩)), (8, .int .i64 (y1)), (9, .int .i64 (if 0 > (wr (p1_4 - p0_4)) then 0 else (wr (p1_4 - p0_4)))), (10, .int .i64 (if 0 > (wr (p0_4 - p1_4)) then 0 else (wr (p0_4 - p1_4))))] (by kernel_rfl) (by kernel_rfl) (fun a1 => ?_)
 refine cW_seq ?_
 refine cW_seq ?_
 refine cW_region ?_
 refine wS_pure 1 [(32, .pointer (some ⟨b1, 4, none⟩))] (by kernel_rfl) ?_
 refine wS_load1 (d := 33) (T := 2) (ad := ⟨b1, 4, none⟩) (v := .int .i64 (p0_4)) (by kernel_rfl) vt2 ((F1).cell 4) ?_
 refine wS_pure 1 [(34, .pointer (some ⟨b2, 4, none⟩))] (by kernel_rfl) ?_
 refine wS_load1 (d := 35) (T := 2) (ad := ⟨b2, 4, none⟩) (v := .int .i64 (p1_4)) (by kernel_rfl) vt2 ((F2).cell 4) ?_
 refine wS_pure 1 [(36, .int .i64 (wr (p0_4 - p1_4)))] (by kernel_rfl) ?_
 obtain ⟨y2, hy2, hm⟩ := bindE hm
 refine wS_calls (d := 37) (f := 46) (vs := [.int .i64 (wr (p0_4 - p1_4))]) (by kernel_rfl) ent46 (c_impl_size hy2) ?_
 rintro _ w6 ⟨rfl, hc6⟩
 replace F1 := F1.chg hc6 notNil
 replace F2 := F2.chg hc6 notNil
 replace F3 := F3.chg hc6 notNil
 replace hB := hB.inS hc6 inNil
 replace hZ := Nat.le_trans hZ hc6.size
 refine ⟨.int .i64 (y2), rfl, ?_⟩
 refine wS_pure 2 [(39, .bool (decide (y2 ≤ y1))), (38, .int .i64 (y1))] (by kernel_rfl) ?_
 refine wS_end (by rfl) ?_
 refine eX_then ?_
 refine cW_cond (t := decide (y2 ≤ y1)) (by kernel_rfl) (fun hb1 => ?_) (fun hb1 => ?_)
 ·have hm := condT hb1 hm
  refine cW_seq ?_
  refine cW_region ?_
  refine wS_pure 2 [(41, .pointer (some ⟨b2, 4, none⟩)), (40, .int .i64 (y1))] (by kernel_rfl) ?_
  refine wS_load1 (d := 42) (T := 2) (ad := ⟨b2, 4, none⟩) (v := .int .i64 (p1_4)) (by kernel_rfl) vt2 ((F2).cell 4) ?_
  refine wS_pure 2 [(44, .pointer (some ⟨b1, 4, none⟩)), (43, .int .i64 (wr (y1 + p1_4)))] (by kernel_rfl) ?_
  refine wS_load1 (d := 45) (T := 2) (ad := ⟨b1, 4, none⟩) (v := .int .i64 (p0_4)) (by kernel_rfl) vt2 ((F1).cell 4) ?_
  refine wS_pure 2 [(11, .int .i64 (wr ((wr (y1 + p1_4)) - p0_4))), (46, .int .i64 (wr ((wr (y1 + p1_4)) - p0_4)))] (by kernel_rfl) ?_
  refine wS_end (by rfl) ?_
  refine eX_then ?_
  refine cW_seq ?_
  refine cW_seq ?_
  refine cW_region ?_
  refine wS_pure 3 [(49, .bool ((Int.tmod (wr ((wr (y1 + p1_4)) - p0_4)) 2) != 0)), (48, .int .i64 (Int.tmod (wr ((wr (y1 + p1_4)) - p0_4)) 2)), (47, .int .i64 (wr ((wr (y1 + p1_4)) - p0_4)))] (by kernel_rfl) ?_
  refine wS_end (by rfl) ?_
  refine eX_then ?_
  refine cW_prune [(2, .pointer (some ⟨b1, 0, none⟩)), (3, .pointer (some ⟨b2, 0, none⟩)), (4, .pointer (some ⟨b3, 0, none⟩)), (8, .int .i64 (y1)), (11, .int .i64 (wr ((wr (y1 + p1_4)) - p0_4))), (49, .bool ((Int.tmod (wr ((wr (y1 + p1_4)) - p0_4)) 2) != 0))] (by kernel_rfl) (by kernel_rfl) (fun a2 => ?_)
  refine cW_cond (t := (Int.tmod (wr ((wr (y1 + p1_4)) - p0_4)) 2) != 0) (by kernel_rfl) (fun hb2 => ?_) (fun hb2 => ?_)
  ·have hm := condT hb2 hm
   refine cW_seq ?_
   refine cW_region ?_
   refine wS_pure 1 [(50, .agg #[.int .i64 (0), .int .i64 (0), .int .i64 (0), .int .i64 (0), .int .i64 (0)])] (by kernel_rfl) ?_
   refine wS_store (T := 58) (g := b3) (o := 0) (ad := ⟨b3, 0, none⟩) (v := .agg #[.int .i64 (0), .int .i64 (0), .int .i64 (0), .int .i64 (0), .int .i64 (0)]) (vs := [.int .i64 (0), .int .i64 (0), .int .i64 (0), .int .i64 (0), .int .i64 (0)]) (by kernel_rfl) (by rfl) sz58 (by rfl) (by rfl) F3 (by simp only [List.length_cons, List.length_nil]; omega) ?_
   intro w7 F4 hc7
   replace F1 := F1.chg hc7 (dj1 D2)
   replace F2 := F2.chg hc7 (dj1 D3)
   replace hB := hB.inS hc7 (inLow (low1 G3))
   replace hZ := Nat.le_trans hZ hc7.size
   replace F4 : Cl w7 b3 58 [.int .i64 (0), .int .i64 (0), .int .i64 (0), .int .i64 (0), .int .i64 (0)] := F4
   clear F3
   refine wS_pure 3 [(7, .bool (false)), (6, .int .i64 (0)), (5, .int .i64 (0))] (by kernel_rfl) ?_
   refine wS_end (by rfl) ?_
   refine eX_then ?_
   refine cW_ret ?_
   refine eX_then_ret ?_
   refine eX_then_ret ?_
   have hq : (some (((0, 0, 0, 0, 0), 0, 0, false)) : Option ((Int × Int × Int × Int × Int) × (Int) × (Int) × (Bool))) = some _ := hm
   replace hq := someE hq
   subst hq
   refine eX_ret (vs := [.agg #[.int .i64 (0), .int .i64 (0), .int .i64 (0), .int .i64 (0), .int .i64 (0)], .int .i64 (0), .int .i64 (0), .bool (false)]) [.cell 4 58, .tmp 5, .tmp 6, .tmp 7] (by rfl) ⟨⟨⟨b3, 0, none⟩, by kernel_rfl, run_loadVarA (vs := [.int .i64 (0), .int .i64 (0), .int .i64 (0), .int .i64 (0), .int .i64 (0)]) vt58 (fun i u hu => by exact box_cells F4 0 hu (by rfl))⟩, ⟨by (show lkE _ _ _ = _); kernel_rfl, ⟨by (show lkE _ _ _ = _); kernel_rfl, ⟨by (show lkE _ _ _ = _); kernel_rfl, trivial⟩⟩⟩⟩ ?_
   exact ⟨rfl, hB⟩
  ·have hm := condF hb2 hm
   refine cW_skip ?_
   refine eX_then ?_
   refine cW_region ?_
   refine wS_pure 8 [(10, .int .i64 (wr (y1 - (wr (Int.tdiv (wr ((wr (y1 + p1_4)) - p0_4)) 2))))), (9, .int .i64 (wr (Int.tdiv (wr ((wr (y1 + p1_4)) - p0_4)) 2))), (56, .int .i64 (wr (y1 - (wr (Int.tdiv (wr ((wr (y1 + p1_4)) - p0_4)) 2))))), (55, .int .i64 (wr (Int.tdiv (wr ((wr (y1 + p1_4)) - p0_4)) 2))), (54, .int .i64 (wr ((wr (y1 + p1_4)) - p0_4))), (53, .int .i64 (y1)), (52, .int .i64 (wr (Int.tdiv (wr ((wr (y1 + p1_4)) - p0_4)) 2))), (51, .int .i64 (wr ((wr (y1 + p1_4)) - p0_4)))] (by kernel_rfl) ?_
   refine wS_end (by rfl) ?_
   refine eX_then ?_
   refine cW_seq ?_
   obtain ⟨s1, hs1, hm⟩ := bindE hm
   refine cW_cut (fun a' w' => ∃ b4 : Nat, ∃ x1 : Int, ∃ x2 : Int, ∃ x3 : Int, ∃ x4 : Int, ∃ x5 : Bool, (x1, x2, x3, x4, x5) = s1 ∧ Fr 86 [(2, .pointer (some ⟨b1, 0, none⟩)), (4, .pointer (some ⟨b3, 0, none⟩)), (9, .int .i64 (wr (Int.tdiv (wr ((wr (y1 + p1_4)) - p0_4)) 2))), (10, .int .i64 (wr (y1 - (wr (Int.tdiv (wr ((wr (y1 + p1_4)) - p0_4)) 2))))), (12, .pointer (some ⟨b4, 0, none⟩)), (13, .bool (x5))] a' ∧ Cl w' b1 58 [.int .i64 (p0_0), .int .i64 (p0_1), .int .i64 (p0_2), .int .i64 (p0_3), .int .i64 (p0_4)] ∧ Cl w' b3 58 [.int .i64 (0), .int .i64 (0), .int .i64 (0), .int .i64 (0), .int .i64 (0)] ∧ Cl w' b4 55 [.int .i64 (x1), .int .i64 (x2), .int .i64 (x3), .int .i64 (x4)] ∧ w0.heap.size ≤ b4 ∧ Dj [b1] [b4] ∧ Dj [b3] [b4] ∧ Chg [] w0 w' ∧ w0.heap.size ≤ w'.heap.size) ?_ ?_
   ·have hm := hs1
    refine cW_drawnTail [] 14 (by kernel_rfl) (by kernel_rfl) (fun w8 hc8 => ?_)
    replace F1 := F1.chg hc8 notNil
    replace F2 := F2.chg hc8 notNil
    replace F3 := F3.chg hc8 notNil
    replace hB := hB.inS hc8 inNil
    replace hZ := Nat.le_trans hZ hc8.size
    have hS := Chg.refl [] w8
    have Z4 := F1
    have Z5 := F2
    have Z6 := F3
    refine wH_take [0] [0] [(58, .pointer (some ⟨b1, 0, none⟩))] (by kernel_rfl) (qT (qT (qT qZ))) (by kernel_rfl) ?_
    refine wH_loadA (i := 1) (d := 59) (T := 55) (ad := ⟨b1, 0, none⟩) (vs := [.int .i64 (p0_0), .int .i64 (p0_1), .int .i64 (p0_2), .int .i64 (p0_3)]) (by kernel_rfl) (qT (qT (qT qZ))) (by kernel_rfl) (by kernel_rfl) vt55 (fun W hW i u hu => box_cells (Z4.chg hW notNil) 0 hu (by rfl)) ?_
    refine wH_take [2, 4] [4, 2, 1, 0] [(62, .pointer (some ⟨b2, 0, none⟩)), (60, .int .i64 (wr (Int.tdiv (wr ((wr (y1 + p1_4)) - p0_4)) 2)))] (by kernel_rfl) (qT (qT (qT qZ))) (by kernel_rfl) ?_
    refine wH_loadA (i := 5) (d := 63) (T := 55) (ad := ⟨b2, 0, none⟩) (vs := [.int .i64 (p1_0), .int .i64 (p1_1), .int .i64 (p1_2), .int .i64 (p1_3)]) (by kernel_rfl) (qT (qT (qT qZ))) (by kernel_rfl) (by kernel_rfl) vt55 (fun W hW i u hu => box_cells (Z5.chg hW notNil) 0 hu (by rfl)) ?_
    refine wH_take [6] [6, 5, 4, 2, 1, 0] [(64, .int .i64 (wr (y1 - (wr (Int.tdiv (wr ((wr (y1 + p1_4)) - p0_4)) 2)))))] (by kernel_rfl) (qT (qT (qT qZ))) (by kernel_rfl) ?_
    refine wH_all [3, 12] (by rfl) (by kernel_rfl) (by simp) ⟨⟨by kernel_rfl, ?_⟩, ⟨by kernel_rfl, ?_⟩, trivial⟩
    ·skip
     obtain ⟨y3, hy3, hm⟩ := bindE hm
     refine wS_calls (d := 61) (f := 47) (vs := [.agg #[.int .i64 (p0_0), .int .i64 (p0_1), .int .i64 (p0_2), .int .i64 (p0_3)], .int .i64 (wr (Int.tdiv (wr ((wr (y1 + p1_4)) - p0_4)) 2))]) (by kernel_rfl) ent47 (c_impl_Region_grown hy3) ?_
     rintro _ w9 ⟨rfl, hc9⟩
     replace F1 := F1.chg hc9 notNil
     replace F2 := F2.chg hc9 notNil
     replace F3 := F3.chg hc9 notNil
     replace hB := hB.inS hc9 inNil
     have hSz := hS
     replace hS := hS.inS hc9 inNil
     replace hZ := Nat.le_trans hZ hc9.size
     refine ⟨.agg #[.int .i64 (y3.1), .int .i64 (y3.2.1), .int .i64 (y3.2.2.1), .int .i64 (y3.2.2.2)], rfl, ?_⟩
     refine wS_end (by kernel_rfl) ?_
     refine eX_KH hS ?_
     refine wH_all [7, 12] (by rfl) (by kernel_rfl) (by simp) ⟨⟨by kernel_rfl, ?_⟩, ⟨by kernel_rfl, ?_⟩, trivial⟩
     ·skip
      obtain ⟨y4, hy4, hm⟩ := bindE hm
      refine wS_calls (d := 65) (f := 47) (vs := [.agg #[.int .i64 (p1_0), .int .i64 (p1_1), .int .i64 (p1_2), .int .i64 (p1_3)], .int .i64 (wr (y1 - (wr (Int.tdiv (wr ((wr (y1 + p1_4)) - p0_4)) 2))))]) (by kernel_rfl) ent47 (c_impl_Region_grown hy4) ?_
      rintro _ w10 ⟨rfl, hc10⟩
      replace F1 := F1.chg hc10 notNil
      replace F2 := F2.chg hc10 notNil
      replace F3 := F3.chg hc10 notNil
      replace hB := hB.inS hc10 inNil
      have hSz := hS
      replace hS := hS.inS hc10 inNil
      replace hZ := Nat.le_trans hZ hc10.size
      refine ⟨.agg #[.int .i64 (y4.1), .int .i64 (y4.2.1), .int .i64 (y4.2.2.1), .int .i64 (y4.2.2.2)], rfl, ?_⟩
      refine wS_end (by kernel_rfl) ?_
      refine eX_KH hS ?_
      refine wH_all [8, 12] (by rfl) (by kernel_rfl) (by simp) ⟨⟨by kernel_rfl, ?_⟩, ⟨by kernel_rfl, ?_⟩, trivial⟩
      ·skip
       obtain ⟨y5, hy5, hm⟩ := bindE hm
       refine wS_calls (d := 66) (f := 48) (vs := [.agg #[.int .i64 (y3.1), .int .i64 (y3.2.1), .int .i64 (y3.2.2.1), .int .i64 (y3.2.2.2)], .agg #[.int .i64 (y4.1), .int .i64 (y4.2.1), .int .i64 (y4.2.2.1), .int .i64 (y4.2.2.2)]]) (by kernel_rfl) ent48 (c_impl_Region_meet hy5) ?_
       rintro _ w11 ⟨rfl, hc11⟩
       replace F1 := F1.chg hc11 notNil
       replace F2 := F2.chg hc11 notNil
       replace F3 := F3.chg hc11 notNil
       replace hB := hB.inS hc11 inNil
       have hSz := hS
       replace hS := hS.inS hc11 inNil
       replace hZ := Nat.le_trans hZ hc11.size
       refine ⟨.tuple #[.agg #[.int .i64 (y5.1.1), .int .i64 (y5.1.2.1), .int .i64 (y5.1.2.2.1), .int .i64 (y5.1.2.2.2)], .bool (y5.2)], rfl, ?_⟩
       refine wS_end (by kernel_rfl) ?_
       refine eX_KH hS ?_
       refine wH_take [9, 10, 11] [11, 10, 9, 8, 7, 3, 6, 5, 4, 2, 1, 0] [(68, .bool (y5.2)), (67, .agg #[.int .i64 (y5.1.1), .int .i64 (y5.1.2.1), .int .i64 (y5.1.2.2.1), .int .i64 (y5.1.2.2.2)]), (57, .tuple #[.agg #[.int .i64 (y5.1.1), .int .i64 (y5.1.2.1), .int .i64 (y5.1.2.2.1), .int .i64 (y5.1.2.2.2)], .bool (y5.2)])] (by kernel_rfl) (qT (qT (qT qZ))) (by kernel_rfl) ?_
       refine wH_all [12] (by rfl) (by kernel_rfl) (by simp) ⟨⟨by kernel_rfl, ?_⟩, trivial⟩
       refine wS_alloc (d := 12) (T := 55) (z := .agg #[.int .i64 (0), .int .i64 (0), .int .i64 (0), .int .i64 (0)]) (by kernel_rfl) (by kernel_rfl) ?_
       intro b5 w12 G4 F5 hc12
       replace F5 : Cl w12 b5 55 [.int .i64 (0), .int .i64 (0), .int .i64 (0), .int .i64 (0)] := F5
       have D4 : Dj [b1] [b5] := Dj.of (lt1 F1.lt) (low1 G4)
       have D5 : Dj [b2] [b5] := Dj.of (lt1 F2.lt) (low1 G4)
       have D6 : Dj [b3] [b5] := Dj.of (lt1 F3.lt) (low1 G4)
       replace F1 := F1.chg hc12 notNil
       replace F2 := F2.chg hc12 notNil
       replace F3 := F3.chg hc12 notNil
       replace hB := hB.inS hc12 inNil
       have hSz := hS
       replace hS := hS.inS hc12 inNil
       have Gz1 := low1 (Nat.le_trans hSz.size G4)
       replace G4 := Nat.le_trans hZ G4
       replace hZ := Nat.le_trans hZ hc12.size
       refine wS_end (by kernel_rfl) ?_
       refine eX_KH hS ?_
       refine wH_all [13] (by rfl) (by kernel_rfl) (by simp) ⟨⟨by kernel_rfl, ?_⟩, trivial⟩
       refine wS_store (T := 55) (g := b5) (o := 0) (ad := ⟨b5, 0, none⟩) (v := .agg #[.int .i64 (y5.1.1), .int .i64 (y5.1.2.1), .int .i64 (y5.1.2.2.1), .int .i64 (y5.1.2.2.2)]) (vs := [.int .i64 (y5.1.1), .int .i64 (y5.1.2.1), .int .i64 (y5.1.2.2.1), .int .i64 (y5.1.2.2.2)]) (by kernel_rfl) (by rfl) sz55 (by rfl) (by rfl) F5 (by simp only [List.length_cons, List.length_nil]; omega) ?_
       intro w13 F6 hc13
       replace F1 := F1.chg hc13 (dj1 D4)
       replace F2 := F2.chg hc13 (dj1 D5)
       replace F3 := F3.chg hc13 (dj1 D6)
       replace hB := hB.inS hc13 (inLow (low1 G4))
       have hSz := hS
       replace hS := hS.inS hc13 (inLow Gz1)
       replace hZ := Nat.le_trans hZ hc13.size
       replace F6 : Cl w13 b5 55 [.int .i64 (y5.1.1), .int .i64 (y5.1.2.1), .int .i64 (y5.1.2.2.1), .int .i64 (y5.1.2.2.2)] := F6
       clear F5
       refine wS_end (by kernel_rfl) ?_
       refine eX_KH hS ?_
       refine wH_done (by kernel_rfl) ?_
       refine eX_tail ?_
       refine wS_pure 1 [(13, .bool (y5.2))] (by kernel_rfl) ?_
       refine wS_end (by rfl) ?_
       have hq : (some ((y5.1.1, y5.1.2.1, y5.1.2.2.1, y5.1.2.2.2, y5.2)) : Option (Int × Int × Int × Int × Bool)) = some _ := hm
       replace hq := someE hq
       subst hq
       exact eX_J (fun hst => ⟨b5, y5.1.1, y5.1.2.1, y5.1.2.2.1, y5.1.2.2.2, y5.2, rfl, Fr.of hst (by kernel_rfl), F1, F3, F6, G4, D4, D6, hB, hZ⟩)
      ·skip
       refine wS_alloc (d := 12) (T := 55) (z := .agg #[.int .i64 (0), .int .i64 (0), .int .i64 (0), .int .i64 (0)]) (by kernel_rfl) (by kernel_rfl) ?_
       intro b6 w14 G5 F7 hc14
       replace F7 : Cl w14 b6 55 [.int .i64 (0), .int .i64 (0), .int .i64 (0), .int .i64 (0)] := F7
       have D7 : Dj [b1] [b6] := Dj.of (lt1 F1.lt) (low1 G5)
       have D8 : Dj [b2] [b6] := Dj.of (lt1 F2.lt) (low1 G5)
       have D9 : Dj [b3] [b6] := Dj.of (lt1 F3.lt) (low1 G5)
       replace F1 := F1.chg hc14 notNil
       replace F2 := F2.chg hc14 notNil
       replace F3 := F3.chg hc14 notNil
       replace hB := hB.inS hc14 inNil
       have hSz := hS
       replace hS := hS.inS hc14 inNil
       have Gz2 := low1 (Nat.le_trans hSz.size G5)
       replace G5 := Nat.le_trans hZ G5
       replace hZ := Nat.le_trans hZ hc14.size
       refine wS_end (by kernel_rfl) ?_
       refine eX_KH hS ?_
       refine wH_all [8] (by rfl) (by kernel_rfl) (by simp) ⟨⟨by kernel_rfl, ?_⟩, trivial⟩
       obtain ⟨y6, hy6, hm⟩ := bindE hm
       refine wS_calls (d := 66) (f := 48) (vs := [.agg #[.int .i64 (y3.1), .int .i64 (y3.2.1), .int .i64 (y3.2.2.1), .int .i64 (y3.2.2.2)], .agg #[.int .i64 (y4.1), .int .i64 (y4.2.1), .int .i64 (y4.2.2.1), .int .i64 (y4.2.2.2)]]) (by kernel_rfl) ent48 (c_impl_Region_meet hy6) ?_
       rintro _ w15 ⟨rfl, hc15⟩
       replace F1 := F1.chg hc15 notNil
       replace F2 := F2.chg hc15 notNil
       replace F3 := F3.chg hc15 notNil
       replace F7 := F7.chg hc15 notNil
       replace hB := hB.inS hc15 inNil
       have hSz := hS
       replace hS := hS.inS hc15 inNil
       replace hZ := Nat.le_trans hZ hc15.size
       refine ⟨.tuple #[.agg #[.int .i64 (y6.1.1), .int .i64 (y6.1.2.1), .int .i64 (y6.1.2.2.1), .int .i64 (y6.1.2.2.2)], .bool (y6.2)], rfl, ?_⟩
       refine wS_end (by kernel_rfl) ?_
       refine eX_KH hS ?_
       refine wH_take [9, 10, 11] [11, 10, 9, 8, 12, 7, 3, 6, 5, 4, 2, 1, 0] [(68, .bool (y6.2)), (67, .agg #[.int .i64 (y6.1.1), .int .i64 (y6.1.2.1), .int .i64 (y6.1.2.2.1), .int .i64 (y6.1.2.2.2)]), (57, .tuple #[.agg #[.int .i64 (y6.1.1), .int .i64 (y6.1.2.1), .int .i64 (y6.1.2.2.1), .int .i64 (y6.1.2.2.2)], .bool (y6.2)])] (by kernel_rfl) (qT (qT (qT qZ))) (by kernel_rfl) ?_
       refine wH_all [13] (by rfl) (by kernel_rfl) (by simp) ⟨⟨by kernel_rfl, ?_⟩, trivial⟩
       refine wS_store (T := 55) (g := b6) (o := 0) (ad := ⟨b6, 0, none⟩) (v := .agg #[.int .i64 (y6.1.1), .int .i64 (y6.1.2.1), .int .i64 (y6.1.2.2.1), .int .i64 (y6.1.2.2.2)]) (vs := [.int .i64 (y6.1.1), .int .i64 (y6.1.2.1), .int .i64 (y6.1.2.2.1), .int .i64 (y6.1.2.2.2)]) (by kernel_rfl) (by rfl) sz55 (by rfl) (by rfl) F7 (by simp only [List.length_cons, List.length_nil]; omega) ?_
       intro w16 F8 hc16
       replace F1 := F1.chg hc16 (dj1 D7)
       replace F2 := F2.chg hc16 (dj1 D8)
       replace F3 := F3.chg hc16 (dj1 D9)
       replace hB := hB.inS hc16 (inLow (low1 G5))
       have hSz := hS
       replace hS := hS.inS hc16 (inLow Gz2)
       replace hZ := Nat.le_trans hZ hc16.size
       replace F8 : Cl w16 b6 55 [.int .i64 (y6.1.1), .int .i64 (y6.1.2.1), .int .i64 (y6.1.2.2.1), .int .i64 (y6.1.2.2.2)] := F8
       clear F7
       refine wS_end (by kernel_rfl) ?_
       refine eX_KH hS ?_
       refine wH_done (by kernel_rfl) ?_
       refine eX_tail ?_
       refine wS_pure 1 [(13, .bool (y6.2))] (by kernel_rfl) ?_
       refine wS_end (by rfl) ?_
       have hq : (some ((y6.1.1, y6.1.2.1, y6.1.2.2.1, y6.1.2.2.2, y6.2)) : Option (Int × Int × Int × Int × Bool)) = some _ := hm
       replace hq := someE hq
       subst hq
       exact eX_J (fun hst => ⟨b6, y6.1.1, y6.1.2.1, y6.1.2.2.1, y6.1.2.2.2, y6.2, rfl, Fr.of hst (by kernel_rfl), F1, F3, F8, G5, D7, D9, hB, hZ⟩)
     ·skip
      refine wS_alloc (d := 12) (T := 55) (z := .agg #[.int .i64 (0), .int .i64 (0), .int .i64 (0), .int .i64 (0)]) (by kernel_rfl) (by kernel_rfl) ?_
      intro b7 w17 G6 F9 hc17
      replace F9 : Cl w17 b7 55 [.int .i64 (0), .int .i64 (0), .int .i64 (0), .int .i64 (0)] := F9
      have D10 : Dj [b1] [b7] := Dj.of (lt1 F1.lt) (low1 G6)
      have D11 : Dj [b2] [b7] := Dj.of (lt1 F2.lt) (low1 G6)
      have D12 : Dj [b3] [b7] := Dj.of (lt1 F3.lt) (low1 G6)
      replace F1 := F1.chg hc17 notNil
      replace F2 := F2.chg hc17 notNil
      replace F3 := F3.chg hc17 notNil
      replace hB := hB.inS hc17 inNil
      have hSz := hS
      replace hS := hS.inS hc17 inNil
      have Gz3 := low1 (Nat.le_trans hSz.size G6)
      replace G6 := Nat.le_trans hZ G6
      replace hZ := Nat.le_trans hZ hc17.size
      refine wS_end (by kernel_rfl) ?_
      refine eX_KH hS ?_
      refine wH_all [7] (by rfl) (by kernel_rfl) (by simp) ⟨⟨by kernel_rfl, ?_⟩, trivial⟩
      obtain ⟨y7, hy7, hm⟩ := bindE hm
      refine wS_calls (d := 65) (f := 47) (vs := [.agg #[.int .i64 (p1_0), .int .i64 (p1_1), .int .i64 (p1_2), .int .i64 (p1_3)], .int .i64 (wr (y1 - (wr (Int.tdiv (wr ((wr (y1 + p1_4)) - p0_4)) 2))))]) (by kernel_rfl) ent47 (c_impl_Region_grown hy7) ?_
      rintro _ w18 ⟨rfl, hc18⟩
      replace F1 := F1.chg hc18 notNil
      replace F2 := F2.chg hc18 notNil
      replace F3 := F3.chg hc18 notNil
      replace F9 := F9.chg hc18 notNil
      replace hB := hB.inS hc18 inNil
      have hSz := hS
      replace hS := hS.inS hc18 inNil
      replace hZ := Nat.le_trans hZ hc18.size
      refine ⟨.agg #[.int .i64 (y7.1), .int .i64 (y7.2.1), .int .i64 (y7.2.2.1), .int .i64 (y7.2.2.2)], rfl, ?_⟩
      refine wS_end (by kernel_rfl) ?_
      refine eX_KH hS ?_
      refine wH_all [8] (by rfl) (by kernel_rfl) (by simp) ⟨⟨by kernel_rfl, ?_⟩, trivial⟩
      obtain ⟨y8, hy8, hm⟩ := bindE hm
      refine wS_calls (d := 66) (f := 48) (vs := [.agg #[.int .i64 (y3.1), .int .i64 (y3.2.1), .int .i64 (y3.2.2.1), .int .i64 (y3.2.2.2)], .agg #[.int .i64 (y7.1), .int .i64 (y7.2.1), .int .i64 (y7.2.2.1), .int .i64 (y7.2.2.2)]]) (by kernel_rfl) ent48 (c_impl_Region_meet hy8) ?_
      rintro _ w19 ⟨rfl, hc19⟩
      replace F1 := F1.chg hc19 notNil
      replace F2 := F2.chg hc19 notNil
      replace F3 := F3.chg hc19 notNil
      replace F9 := F9.chg hc19 notNil
      replace hB := hB.inS hc19 inNil
      have hSz := hS
      replace hS := hS.inS hc19 inNil
      replace hZ := Nat.le_trans hZ hc19.size
      refine ⟨.tuple #[.agg #[.int .i64 (y8.1.1), .int .i64 (y8.1.2.1), .int .i64 (y8.1.2.2.1), .int .i64 (y8.1.2.2.2)], .bool (y8.2)], rfl, ?_⟩
      refine wS_end (by kernel_rfl) ?_
      refine eX_KH hS ?_
      refine wH_take [9, 10, 11] [11, 10, 9, 8, 7, 12, 3, 6, 5, 4, 2, 1, 0] [(68, .bool (y8.2)), (67, .agg #[.int .i64 (y8.1.1), .int .i64 (y8.1.2.1), .int .i64 (y8.1.2.2.1), .int .i64 (y8.1.2.2.2)]), (57, .tuple #[.agg #[.int .i64 (y8.1.1), .int .i64 (y8.1.2.1), .int .i64 (y8.1.2.2.1), .int .i64 (y8.1.2.2.2)], .bool (y8.2)])] (by kernel_rfl) (qT (qT (qT qZ))) (by kernel_rfl) ?_
      refine wH_all [13] (by rfl) (by kernel_rfl) (by simp) ⟨⟨by kernel_rfl, ?_⟩, trivial⟩
      refine wS_store (T := 55) (g := b7) (o := 0) (ad := ⟨b7, 0, none⟩) (v := .agg #[.int .i64 (y8.1.1), .int .i64 (y8.1.2.1), .int .i64 (y8.1.2.2.1), .int .i64 (y8.1.2.2.2)]) (vs := [.int .i64 (y8.1.1), .int .i64 (y8.1.2.1), .int .i64 (y8.1.2.2.1), .int .i64 (y8.1.2.2.2)]) (by kernel_rfl) (by rfl) sz55 (by rfl) (by rfl) F9 (by simp only [List.length_cons, List.length_nil]; omega) ?_
      intro w20 F10 hc20
      replace F1 := F1.chg hc20 (dj1 D10)
      replace F2 := F2.chg hc20 (dj1 D11)
      replace F3 := F3.chg hc20 (dj1 D12)
      replace hB := hB.inS hc20 (inLow (low1 G6))
      have hSz := hS
      replace hS := hS.inS hc20 (inLow Gz3)
      replace hZ := Nat.le_trans hZ hc20.size
      replace F10 : Cl w20 b7 55 [.int .i64 (y8.1.1), .int .i64 (y8.1.2.1), .int .i64 (y8.1.2.2.1), .int .i64 (y8.1.2.2.2)] := F10
      clear F9
      refine wS_end (by kernel_rfl) ?_
      refine eX_KH hS ?_
      refine wH_done (by kernel_rfl) ?_
      refine eX_tail ?_
      refine wS_pure 1 [(13, .bool (y8.2))] (by kernel_rfl) ?_
      refine wS_end (by rfl) ?_
      have hq : (some ((y8.1.1, y8.1.2.1, y8.1.2.2.1, y8.1.2.2.2, y8.2)) : Option (Int × Int × Int × Int × Bool)) = some _ := hm
      replace hq := someE hq
      subst hq
      exact eX_J (fun hst => ⟨b7, y8.1.1, y8.1.2.1, y8.1.2.2.1, y8.1.2.2.2, y8.2, rfl, Fr.of hst (by kernel_rfl), F1, F3, F10, G6, D10, D12, hB, hZ⟩)
    ·skip
     refine wS_alloc (d := 12) (T := 55) (z := .agg #[.int .i64 (0), .int .i64 (0), .int .i64 (0), .int .i64 (0)]) (by kernel_rfl) (by kernel_rfl) ?_
     intro b8 w21 G7 F11 hc21
     replace F11 : Cl w21 b8 55 [.int .i64 (0), .int .i64 (0), .int .i64 (0), .int .i64 (0)] := F11
     have D13 : Dj [b1] [b8] := Dj.of (lt1 F1.lt) (low1 G7)
     have D14 : Dj [b2] [b8] := Dj.of (lt1 F2.lt) (low1 G7)
     have D15 : Dj [b3] [b8] := Dj.of (lt1 F3.lt) (low1 G7)
     replace F1 := F1.chg hc21 notNil
     replace F2 := F2.chg hc21 notNil
     replace F3 := F3.chg hc21 notNil
     replace hB := hB.inS hc21 inNil
     have hSz := hS
     replace hS := hS.inS hc21 inNil
     have Gz4 := low1 (Nat.le_trans hSz.size G7)
     replace G7 := Nat.le_trans hZ G7
     replace hZ := Nat.le_trans hZ hc21.size
     refine wS_end (by kernel_rfl) ?_
     refine eX_KH hS ?_
     refine wH_all [3] (by rfl) (by kernel_rfl) (by simp) ⟨⟨by kernel_rfl, ?_⟩, trivial⟩
     obtain ⟨y9, hy9, hm⟩ := bindE hm
     refine wS_calls (d := 61) (f := 47) (vs := [.agg #[.int .i64 (p0_0), .int .i64 (p0_1), .int .i64 (p0_2), .int .i64 (p0_3)], .int .i64 (wr (Int.tdiv (wr ((wr (y1 + p1_4)) - p0_4)) 2))]) (by kernel_rfl) ent47 (c_impl_Region_grown hy9) ?_
     rintro _ w22 ⟨rfl, hc22⟩
     replace F1 := F1.chg hc22 notNil
     replace F2 := F2.chg hc22 notNil
     replace F3 := F3.chg hc22 notNil
     replace F11 := F11.chg hc22 notNil
     replace hB := hB.inS hc22 inNil
     have hSz := hS
     replace hS := hS.inS hc22 inNil
     replace hZ := Nat.le_trans hZ hc22.size
     refine ⟨.agg #[.int .i64 (y9.1), .int .i64 (y9.2.1), .int .i64 (y9.2.2.1), .int .i64 (y9.2.2.2)], rfl, ?_⟩
     refine wS_end (by kernel_rfl) ?_
     refine eX_KH hS ?_
     refine wH_all [7] (by rfl) (by kernel_rfl) (by simp) ⟨⟨by kernel_rfl, ?_⟩, trivial⟩
     obtain ⟨y10, hy10, hm⟩ := bindE hm
     refine wS_calls (d := 65) (f := 47) (vs := [.agg #[.int .i64 (p1_0), .int .i64 (p1_1), .int .i64 (p1_2), .int .i64 (p1_3)], .int .i64 (wr (y1 - (wr (Int.tdiv (wr ((wr (y1 + p1_4)) - p0_4)) 2))))]) (by kernel_rfl) ent47 (c_impl_Region_grown hy10) ?_
     rintro _ w23 ⟨rfl, hc23⟩
     replace F1 := F1.chg hc23 notNil
     replace F2 := F2.chg hc23 notNil
     replace F3 := F3.chg hc23 notNil
     replace F11 := F11.chg hc23 notNil
     replace hB := hB.inS hc23 inNil
     have hSz := hS
     replace hS := hS.inS hc23 inNil
     replace hZ := Nat.le_trans hZ hc23.size
     refine ⟨.agg #[.int .i64 (y10.1), .int .i64 (y10.2.1), .int .i64 (y10.2.2.1), .int .i64 (y10.2.2.2)], rfl, ?_⟩
     refine wS_end (by kernel_rfl) ?_
     refine eX_KH hS ?_
     refine wH_all [8] (by rfl) (by kernel_rfl) (by simp) ⟨⟨by kernel_rfl, ?_⟩, trivial⟩
     obtain ⟨y11, hy11, hm⟩ := bindE hm
     refine wS_calls (d := 66) (f := 48) (vs := [.agg #[.int .i64 (y9.1), .int .i64 (y9.2.1), .int .i64 (y9.2.2.1), .int .i64 (y9.2.2.2)], .agg #[.int .i64 (y10.1), .int .i64 (y10.2.1), .int .i64 (y10.2.2.1), .int .i64 (y10.2.2.2)]]) (by kernel_rfl) ent48 (c_impl_Region_meet hy11) ?_
     rintro _ w24 ⟨rfl, hc24⟩
     replace F1 := F1.chg hc24 notNil
     replace F2 := F2.chg hc24 notNil
     replace F3 := F3.chg hc24 notNil
     replace F11 := F11.chg hc24 notNil
     replace hB := hB.inS hc24 inNil
     have hSz := hS
     replace hS := hS.inS hc24 inNil
     replace hZ := Nat.le_trans hZ hc24.size
     refine ⟨.tuple #[.agg #[.int .i64 (y11.1.1), .int .i64 (y11.1.2.1), .int .i64 (y11.1.2.2.1), .int .i64 (y11.1.2.2.2)], .bool (y11.2)], rfl, ?_⟩
     refine wS_end (by kernel_rfl) ?_
     refine eX_KH hS ?_
     refine wH_take [9, 10, 11] [11, 10, 9, 8, 7, 3, 12, 6, 5, 4, 2, 1, 0] [(68, .bool (y11.2)), (67, .agg #[.int .i64 (y11.1.1), .int .i64 (y11.1.2.1), .int .i64 (y11.1.2.2.1), .int .i64 (y11.1.2.2.2)]), (57, .tuple #[.agg #[.int .i64 (y11.1.1), .int .i64 (y11.1.2.1), .int .i64 (y11.1.2.2.1), .int .i64 (y11.1.2.2.2)], .bool (y11.2)])] (by kernel_rfl) (qT (qT (qT qZ))) (by kernel_rfl) ?_
     refine wH_all [13] (by rfl) (by kernel_rfl) (by simp) ⟨⟨by kernel_rfl, ?_⟩, trivial⟩
     refine wS_store (T := 55) (g := b8) (o := 0) (ad := ⟨b8, 0, none⟩) (v := .agg #[.int .i64 (y11.1.1), .int .i64 (y11.1.2.1), .int .i64 (y11.1.2.2.1), .int .i64 (y11.1.2.2.2)]) (vs := [.int .i64 (y11.1.1), .int .i64 (y11.1.2.1), .int .i64 (y11.1.2.2.1), .int .i64 (y11.1.2.2.2)]) (by kernel_rfl) (by rfl) sz55 (by rfl) (by rfl) F11 (by simp only [List.length_cons, List.length_nil]; omega) ?_
     intro w25 F12 hc25
     replace F1 := F1.chg hc25 (dj1 D13)
     replace F2 := F2.chg hc25 (dj1 D14)
     replace F3 := F3.chg hc25 (dj1 D15)
     replace hB := hB.inS hc25 (inLow (low1 G7))
     have hSz := hS
     replace hS := hS.inS hc25 (inLow Gz4)
     replace hZ := Nat.le_trans hZ hc25.size
     replace F12 : Cl w25 b8 55 [.int .i64 (y11.1.1), .int .i64 (y11.1.2.1), .int .i64 (y11.1.2.2.1), .int .i64 (y11.1.2.2.2)] := F12
     clear F11
     refine wS_end (by kernel_rfl) ?_
     refine eX_KH hS ?_
     refine wH_done (by kernel_rfl) ?_
     refine eX_tail ?_
     refine wS_pure 1 [(13, .bool (y11.2))] (by kernel_rfl) ?_
     refine wS_end (by rfl) ?_
     have hq : (some ((y11.1.1, y11.1.2.1, y11.1.2.2.1, y11.1.2.2.2, y11.2)) : Option (Int × Int × Int × Int × Bool)) = some _ := hm
     replace hq := someE hq
     subst hq
     exact eX_J (fun hst => ⟨b8, y11.1.1, y11.1.2.1, y11.1.2.2.1, y11.1.2.2.2, y11.2, rfl, Fr.of hst (by kernel_rfl), F1, F3, F12, G7, D13, D15, hB, hZ⟩)
   ·rintro a' w26 ⟨b4, x1, x2, x3, x4, x5, hJ, hF1, F13, F14, F15, G8, D16, D17, hB, hZ⟩
    subst hJ
    refine Fr.goX hF1 (by kernel_rfl) ?_
    refine eX_then ?_
    refine cW_seq ?_
    refine cW_region ?_
    refine wS_loadA (d := 69) (T := 55) (ad := ⟨b4, 0, none⟩) (vs := [.int .i64 (x1), .int .i64 (x2), .int .i64 (x3), .int .i64 (x4)]) (by kernel_rfl) vt55 (fun i u hu => box_cells F15 0 hu (by rfl)) ?_
    refine wS_pure 1 [(70, .pointer (some ⟨b1, 4, none⟩))] (by kernel_rfl) ?_
    refine wS_load1 (d := 71) (T := 2) (ad := ⟨b1, 4, none⟩) (v := .int .i64 (p0_4)) (by kernel_rfl) vt2 ((F13).cell 4) ?_
    refine wS_pure 3 [(74, .agg #[.int .i64 (x1), .int .i64 (x2), .int .i64 (x3), .int .i64 (x4), .int .i64 (wr (p0_4 + (wr (Int.tdiv (wr ((wr (y1 + p1_4)) - p0_4)) 2))))]), (73, .int .i64 (wr (p0_4 + (wr (Int.tdiv (wr ((wr (y1 + p1_4)) - p0_4)) 2))))), (72, .int .i64 (wr (Int.tdiv (wr ((wr (y1 + p1_4)) - p0_4)) 2)))] (by kernel_rfl) ?_
    refine wS_alloc (d := 14) (T := 58) (z := .agg #[.int .i64 (0), .int .i64 (0), .int .i64 (0), .int .i64 (0), .int .i64 (0)]) (by kernel_rfl) (by kernel_rfl) ?_
    intro b9 w27 G9 F16 hc26
    replace F16 : Cl w27 b9 58 [.int .i64 (0), .int .i64 (0), .int .i64 (0), .int .i64 (0), .int .i64 (0)] := F16
    have D18 : Dj [b1] [b9] := Dj.of (lt1 F13.lt) (low1 G9)
    have D19 : Dj [b3] [b9] := Dj.of (lt1 F14.lt) (low1 G9)
    have D20 : Dj [b4] [b9] := Dj.of (lt1 F15.lt) (low1 G9)
    replace F13 := F13.chg hc26 notNil
    replace F14 := F14.chg hc26 notNil
    replace F15 := F15.chg hc26 notNil
    replace hB := hB.inS hc26 inNil
    replace G9 := Nat.le_trans hZ G9
    replace hZ := Nat.le_trans hZ hc26.size
    refine wS_store (T := 58) (g := b9) (o := 0) (ad := ⟨b9, 0, none⟩) (v := .agg #[.int .i64 (x1), .int .i64 (x2), .int .i64 (x3), .int .i64 (x4), .int .i64 (wr (p0_4 + (wr (Int.tdiv (wr ((wr (y1 + p1_4)) - p0_4)) 2))))]) (vs := [.int .i64 (x1), .int .i64 (x2), .int .i64 (x3), .int .i64 (x4), .int .i64 (wr (p0_4 + (wr (Int.tdiv (wr ((wr (y1 + p1_4)) - p0_4)) 2))))]) (by kernel_rfl) (by rfl) sz58 (by rfl) (by rfl) F16 (by simp only [List.length_cons, List.length_nil]; omega) ?_
    intro w28 F17 hc27
    replace F13 := F13.chg hc27 (dj1 D18)
    replace F14 := F14.chg hc27 (dj1 D19)
    replace F15 := F15.chg hc27 (dj1 D20)
    replace hB := hB.inS hc27 (inLow (low1 G9))
    replace hZ := Nat.le_trans hZ hc27.size
    replace F17 : Cl w28 b9 58 [.int .i64 (x1), .int .i64 (x2), .int .i64 (x3), .int .i64 (x4), .int .i64 (wr (p0_4 + (wr (Int.tdiv (wr ((wr (y1 + p1_4)) - p0_4)) 2))))] := F17
    clear F16
    refine wS_end (by rfl) ?_
    refine eX_then ?_
    refine cW_seq ?_
    refine cW_seq ?_
    refine cW_region ?_
    refine wS_pure 3 [(77, .bool (!x5)), (76, .bool (!x5)), (75, .bool (x5))] (by kernel_rfl) ?_
    refine wS_bool (!x5) (fun hb3 => ?_) (fun hb3 => ?_)
    ·have hm := condT hb3 hm
     rewrite [hb3]
     refine wS_pure 4 [(81, .bool (true)), (80, undef), (79, undef), (78, undef)] (by kernel_rfl) ?_
     refine wS_end (by rfl) ?_
     refine eX_then ?_
     refine cW_cond_t (by kernel_rfl) ?_
     refine cW_seq ?_
     refine cW_region ?_
     refine wS_pure 1 [(82, .agg #[.int .i64 (0), .int .i64 (0), .int .i64 (0), .int .i64 (0), .int .i64 (0)])] (by kernel_rfl) ?_
     refine wS_store (T := 58) (g := b3) (o := 0) (ad := ⟨b3, 0, none⟩) (v := .agg #[.int .i64 (0), .int .i64 (0), .int .i64 (0), .int .i64 (0), .int .i64 (0)]) (vs := [.int .i64 (0), .int .i64 (0), .int .i64 (0), .int .i64 (0), .int .i64 (0)]) (by kernel_rfl) (by rfl) sz58 (by rfl) (by rfl) F14 (by simp only [List.length_cons, List.length_nil]; omega) ?_
     intro w29 F18 hc28
     replace F13 := F13.chg hc28 (dj1 D2)
     replace F15 := F15.chg hc28 (dj1 (D17).symm)
     replace F17 := F17.chg hc28 (dj1 (D19).symm)
     replace hB := hB.inS hc28 (inLow (low1 G3))
     replace hZ := Nat.le_trans hZ hc28.size
     replace F18 : Cl w29 b3 58 [.int .i64 (0), .int .i64 (0), .int .i64 (0), .int .i64 (0), .int .i64 (0)] := F18
     clear F14
     refine wS_pure 3 [(7, .bool (false)), (6, .int .i64 (0)), (5, .int .i64 (0))] (by kernel_rfl) ?_
     refine wS_end (by rfl) ?_
     refine eX_then ?_
     refine cW_prune [(4, .pointer (some ⟨b3, 0, none⟩)), (5, .int .i64 (0)), (6, .int .i64 (0)), (7, .bool (false))] (by kernel_rfl) (by kernel_rfl) (fun a3 => ?_)
     refine cW_ret ?_
     refine eX_then_ret ?_
     have hq : (some (((0, 0, 0, 0, 0), 0, 0, false)) : Option ((Int × Int × Int × Int × Int) × (Int) × (Int) × (Bool))) = some _ := hm
     replace hq := someE hq
     subst hq
     refine eX_ret (vs := [.agg #[.int .i64 (0), .int .i64 (0), .int .i64 (0), .int .i64 (0), .int .i64 (0)], .int .i64 (0), .int .i64 (0), .bool (false)]) [.cell 4 58, .tmp 5, .tmp 6, .tmp 7] (by rfl) ⟨⟨⟨b3, 0, none⟩, by kernel_rfl, run_loadVarA (vs := [.int .i64 (0), .int .i64 (0), .int .i64 (0), .int .i64 (0), .int .i64 (0)]) vt58 (fun i u hu => by exact box_cells F18 0 hu (by rfl))⟩, ⟨by (show lkE _ _ _ = _); kernel_rfl, ⟨by (show lkE _ _ _ = _); kernel_rfl, ⟨by (show lkE _ _ _ = _); kernel_rfl, trivial⟩⟩⟩⟩ ?_
     exact ⟨rfl, hB⟩
    ·have hm := condF hb3 hm
     rewrite [hb3]
     refine wS_loadA (d := 78) (T := 58) (ad := ⟨b9, 0, none⟩) (vs := [.int .i64 (x1), .int .i64 (x2), .int .i64 (x3), .int .i64 (x4), .int .i64 (wr (p0_4 + (wr (Int.tdiv (wr ((wr (y1 + p1_4)) - p0_4)) 2))))]) (by kernel_rfl) vt58 (fun i u hu => box_cells F17 0 hu (by rfl)) ?_
     obtain ⟨y12, hy12, hm⟩ := bindE hm
     refine wS_calls (d := 79) (f := 49) (vs := [.agg #[.int .i64 (x1), .int .i64 (x2), .int .i64 (x3), .int .i64 (x4), .int .i64 (wr (p0_4 + (wr (Int.tdiv (wr ((wr (y1 + p1_4)) - p0_4)) 2))))]]) (by kernel_rfl) ent49 (c_impl_mergeOk hy12) ?_
     rintro _ w30 ⟨rfl, hc29⟩
     replace F13 := F13.chg hc29 notNil
     replace F14 := F14.chg hc29 notNil
     replace F15 := F15.chg hc29 notNil
     replace F17 := F17.chg hc29 notNil
     replace hB := hB.inS hc29 inNil
     replace hZ := Nat.le_trans hZ hc29.size
     refine ⟨.bool (y12), rfl, ?_⟩
     refine wS_pure 2 [(81, .bool (!y12)), (80, .bool (!y12))] (by kernel_rfl) ?_
     refine wS_end (by rfl) ?_
     refine eX_then ?_
     refine cW_cond (t := !y12) (by kernel_rfl) (fun hb4 => ?_) (fun hb4 => ?_)
     ·have hm := condT hb4 hm
      refine cW_seq ?_
      refine cW_region ?_
      refine wS_pure 1 [(82, .agg #[.int .i64 (0), .int .i64 (0), .int .i64 (0), .int .i64 (0), .int .i64 (0)])] (by kernel_rfl) ?_
      refine wS_store (T := 58) (g := b3) (o := 0) (ad := ⟨b3, 0, none⟩) (v := .agg #[.int .i64 (0), .int .i64 (0), .int .i64 (0), .int .i64 (0), .int .i64 (0)]) (vs := [.int .i64 (0), .int .i64 (0), .int .i64 (0), .int .i64 (0), .int .i64 (0)]) (by kernel_rfl) (by rfl) sz58 (by rfl) (by rfl) F14 (by simp only [List.length_cons, List.length_nil]; omega) ?_
      intro w31 F19 hc30
      replace F13 := F13.chg hc30 (dj1 D2)
      replace F15 := F15.chg hc30 (dj1 (D17).symm)
      replace F17 := F17.chg hc30 (dj1 (D19).symm)
      replace hB := hB.inS hc30 (inLow (low1 G3))
      replace hZ := Nat.le_trans hZ hc30.size
      replace F19 : Cl w31 b3 58 [.int .i64 (0), .int .i64 (0), .int .i64 (0), .int .i64 (0), .int .i64 (0)] := F19
      clear F14
      refine wS_pure 3 [(7, .bool (false)), (6, .int .i64 (0)), (5, .int .i64 (0))] (by kernel_rfl) ?_
      refine wS_end (by rfl) ?_
      refine eX_then ?_
      refine cW_prune [(4, .pointer (some ⟨b3, 0, none⟩)), (5, .int .i64 (0)), (6, .int .i64 (0)), (7, .bool (false))] (by kernel_rfl) (by kernel_rfl) (fun a4 => ?_)
      refine cW_ret ?_
      refine eX_then_ret ?_
      have hq : (some (((0, 0, 0, 0, 0), 0, 0, false)) : Option ((Int × Int × Int × Int × Int) × (Int) × (Int) × (Bool))) = some _ := hm
      replace hq := someE hq
      subst hq
      refine eX_ret (vs := [.agg #[.int .i64 (0), .int .i64 (0), .int .i64 (0), .int .i64 (0), .int .i64 (0)], .int .i64 (0), .int .i64 (0), .bool (false)]) [.cell 4 58, .tmp 5, .tmp 6, .tmp 7] (by rfl) ⟨⟨⟨b3, 0, none⟩, by kernel_rfl, run_loadVarA (vs := [.int .i64 (0), .int .i64 (0), .int .i64 (0), .int .i64 (0), .int .i64 (0)]) vt58 (fun i u hu => by exact box_cells F19 0 hu (by rfl))⟩, ⟨by (show lkE _ _ _ = _); kernel_rfl, ⟨by (show lkE _ _ _ = _); kernel_rfl, ⟨by (show lkE _ _ _ = _); kernel_rfl, trivial⟩⟩⟩⟩ ?_
      exact ⟨rfl, hB⟩
     ·have hm := condF hb4 hm
      refine cW_skip ?_
      refine eX_then ?_
      refine cW_seq ?_
      refine cW_region ?_
      refine wS_loadA (d := 83) (T := 58) (ad := ⟨b9, 0, none⟩) (vs := [.int .i64 (x1), .int .i64 (x2), .int .i64 (x3), .int .i64 (x4), .int .i64 (wr (p0_4 + (wr (Int.tdiv (wr ((wr (y1 + p1_4)) - p0_4)) 2))))]) (by kernel_rfl) vt58 (fun i u hu => box_cells F17 0 hu (by rfl)) ?_
      refine wS_pure 2 [(85, .int .i64 (wr (y1 - (wr (Int.tdiv (wr ((wr (y1 + p1_4)) - p0_4)) 2))))), (84, .int .i64 (wr (Int.tdiv (wr ((wr (y1 + p1_4)) - p0_4)) 2)))] (by kernel_rfl) ?_
      refine wS_store (T := 58) (g := b3) (o := 0) (ad := ⟨b3, 0, none⟩) (v := .agg #[.int .i64 (x1), .int .i64 (x2), .int .i64 (x3), .int .i64 (x4), .int .i64 (wr (p0_4 + (wr (Int.tdiv (wr ((wr (y1 + p1_4)) - p0_4)) 2))))]) (vs := [.int .i64 (x1), .int .i64 (x2), .int .i64 (x3), .int .i64 (x4), .int .i64 (wr (p0_4 + (wr (Int.tdiv (wr ((wr (y1 + p1_4)) - p0_4)) 2))))]) (by kernel_rfl) (by rfl) sz58 (by rfl) (by rfl) F14 (by simp only [List.length_cons, List.length_nil]; omega) ?_
      intro w32 F20 hc31
      replace F13 := F13.chg hc31 (dj1 D2)
      replace F15 := F15.chg hc31 (dj1 (D17).symm)
      replace F17 := F17.chg hc31 (dj1 (D19).symm)
      replace hB := hB.inS hc31 (inLow (low1 G3))
      replace hZ := Nat.le_trans hZ hc31.size
      replace F20 : Cl w32 b3 58 [.int .i64 (x1), .int .i64 (x2), .int .i64 (x3), .int .i64 (x4), .int .i64 (wr (p0_4 + (wr (Int.tdiv (wr ((wr (y1 + p1_4)) - p0_4)) 2))))] := F20
      clear F14
      refine wS_pure 3 [(7, .bool (true)), (6, .int .i64 (wr (y1 - (wr (Int.tdiv (wr ((wr (y1 + p1_4)) - p0_4)) 2))))), (5, .int .i64 (wr (Int.tdiv (wr ((wr (y1 + p1_4)) - p0_4)) 2)))] (by kernel_rfl) ?_
      refine wS_end (by rfl) ?_
      refine eX_then ?_
      refine cW_prune [(4, .pointer (some ⟨b3, 0, none⟩)), (5, .int .i64 (wr (Int.tdiv (wr ((wr (y1 + p1_4)) - p0_4)) 2))), (6, .int .i64 (wr (y1 - (wr (Int.tdiv (wr ((wr (y1 + p1_4)) - p0_4)) 2))))), (7, .bool (true))] (by kernel_rfl) (by kernel_rfl) (fun a5 => ?_)
      refine cW_ret ?_
      have hq : (some (((x1, x2, x3, x4, wr (p0_4 + (wr (Int.tdiv (wr ((wr (y1 + p1_4)) - p0_4)) 2)))), wr (Int.tdiv (wr ((wr (y1 + p1_4)) - p0_4)) 2), wr (y1 - (wr (Int.tdiv (wr ((wr (y1 + p1_4)) - p0_4)) 2))), true)) : Option ((Int × Int × Int × Int × Int) × (Int) × (Int) × (Bool))) = some _ := hm
      replace hq := someE hq
      subst hq
      refine eX_ret (vs := [.agg #[.int .i64 (x1), .int .i64 (x2), .int .i64 (x3), .int .i64 (x4), .int .i64 (wr (p0_4 + (wr (Int.tdiv (wr ((wr (y1 + p1_4)) - p0_4)) 2))))], .int .i64 (wr (Int.tdiv (wr ((wr (y1 + p1_4)) - p0_4)) 2)), .int .i64 (wr (y1 - (wr (Int.tdiv (wr ((wr (y1 + p1_4)) - p0_4)) 2)))), .bool (true)]) [.cell 4 58, .tmp 5, .tmp 6, .tmp 7] (by rfl) ⟨⟨⟨b3, 0, none⟩, by kernel_rfl, run_loadVarA (vs := [.int .i64 (x1), .int .i64 (x2), .int .i64 (x3), .int .i64 (x4), .int .i64 (wr (p0_4 + (wr (Int.tdiv (wr ((wr (y1 + p1_4)) - p0_4)) 2))))]) vt58 (fun i u hu => by exact box_cells F20 0 hu (by rfl))⟩, ⟨by (show lkE _ _ _ = _); kernel_rfl, ⟨by (show lkE _ _ _ = _); kernel_rfl, ⟨by (show lkE _ _ _ = _); kernel_rfl, trivial⟩⟩⟩⟩ ?_
      exact ⟨rfl, hB⟩
 ·have hm := condF hb1 hm
  refine cW_skip ?_
  refine eX_then ?_
  refine cW_seq ?_
  obtain ⟨s2, hs2, hm⟩ := bindE hm
  refine cW_cut (fun a' w' => ∃ b10 : Nat, ∃ x6 : Int, ∃ x7 : Int, ∃ x8 : Int, ∃ x9 : Int, ∃ x10 : Bool, (x6, x7, x8, x9, x10) = s2 ∧ Fr 86 [(2, .pointer (some ⟨b1, 0, none⟩)), (4, .pointer (some ⟨b3, 0, none⟩)), (9, .int .i64 (if 0 > (wr (p1_4 - p0_4)) then 0 else (wr (p1_4 - p0_4)))), (10, .int .i64 (if 0 > (wr (p0_4 - p1_4)) then 0 else (wr (p0_4 - p1_4)))), (12, .pointer (some ⟨b10, 0, none⟩)), (13, .bool (x10))] a' ∧ Cl w' b1 58 [.int .i64 (p0_0), .int .i64 (p0_1), .int .i64 (p0_2), .int .i64 (p0_3), .int .i64 (p0_4)] ∧ Cl w' b3 58 [.int .i64 (0), .int .i64 (0), .int .i64 (0), .int .i64 (0), .int .i64 (0)] ∧ Cl w' b10 55 [.int .i64 (x6), .int .i64 (x7), .int .i64 (x8), .int .i64 (x9)] ∧ w0.heap.size ≤ b10 ∧ Dj [b1] [b10] ∧ Dj [b3] [b10] ∧ Chg [] w0 w' ∧ w0.heap.size ≤ w'.heap.size) ?_ ?_
  ·have hm := hs2
   refine cW_drawnTail [] 14 (by kernel_rfl) (by kernel_rfl) (fun w33 hc32 => ?_)
   replace F1 := F1.chg hc32 notNil
   replace F2 := F2.chg hc32 notNil
   replace F3 := F3.chg hc32 notNil
   replace hB := hB.inS hc32 inNil
   replace hZ := Nat.le_trans hZ hc32.size
   have hS := Chg.refl [] w33
   have Z7 := F1
   have Z8 := F2
   have Z9 := F3
   refine wH_take [0] [0] [(58, .pointer (some ⟨b1, 0, none⟩))] (by kernel_rfl) (qT (qT (qT qZ))) (by kernel_rfl) ?_
   refine wH_loadA (i := 1) (d := 59) (T := 55) (ad := ⟨b1, 0, none⟩) (vs := [.int .i64 (p0_0), .int .i64 (p0_1), .int .i64 (p0_2), .int .i64 (p0_3)]) (by kernel_rfl) (qT (qT (qT qZ))) (by kernel_rfl) (by kernel_rfl) vt55 (fun W hW i u hu => box_cells (Z7.chg hW notNil) 0 hu (by rfl)) ?_
   refine wH_take [2, 4] [4, 2, 1, 0] [(62, .pointer (some ⟨b2, 0, none⟩)), (60, .int .i64 (if 0 > (wr (p1_4 - p0_4)) then 0 else (wr (p1_4 - p0_4))))] (by kernel_rfl) (qT (qT (qT qZ))) (by kernel_rfl) ?_
   refine wH_loadA (i := 5) (d := 63) (T := 55) (ad := ⟨b2, 0, none⟩) (vs := [.int .i64 (p1_0), .int .i64 (p1_1), .int .i64 (p1_2), .int .i64 (p1_3)]) (by kernel_rfl) (qT (qT (qT qZ))) (by kernel_rfl) (by kernel_rfl) vt55 (fun W hW i u hu => box_cells (Z8.chg hW notNil) 0 hu (by rfl)) ?_
   refine wH_take [6] [6, 5, 4, 2, 1, 0] [(64, .int .i64 (if 0 > (wr (p0_4 - p1_4)) then 0 else (wr (p0_4 - p1_4))))] (by kernel_rfl) (qT (qT (qT qZ))) (by kernel_rfl) ?_
   refine wH_all [3, 12] (by rfl) (by kernel_rfl) (by simp) ⟨⟨by kernel_rfl, ?_⟩, ⟨by kernel_rfl, ?_⟩, trivial⟩
   ·skip
    obtain ⟨y13, hy13, hm⟩ := bindE hm
    refine wS_calls (d := 61) (f := 47) (vs := [.agg #[.int .i64 (p0_0), .int .i64 (p0_1), .int .i64 (p0_2), .int .i64 (p0_3)], .int .i64 (if 0 > (wr (p1_4 - p0_4)) then 0 else (wr (p1_4 - p0_4)))]) (by kernel_rfl) ent47 (c_impl_Region_grown hy13) ?_
    rintro _ w34 ⟨rfl, hc33⟩
    replace F1 := F1.chg hc33 notNil
    replace F2 := F2.chg hc33 notNil
    replace F3 := F3.chg hc33 notNil
    replace hB := hB.inS hc33 inNil
    have hSz := hS
    replace hS := hS.inS hc33 inNil
    replace hZ := Nat.le_trans hZ hc33.size
    refine ⟨.agg #[.int .i64 (y13.1), .int .i64 (y13.2.1), .int .i64 (y13.2.2.1), .int .i64 (y13.2.2.2)], rfl, ?_⟩
    refine wS_end (by kernel_rfl) ?_
    refine eX_KH hS ?_
    refine wH_all [7, 12] (by rfl) (by kernel_rfl) (by simp) ⟨⟨by kernel_rfl, ?_⟩, ⟨by kernel_rfl, ?_⟩, trivial⟩
    ·skip
     obtain ⟨y14, hy14, hm⟩ := bindE hm
     refine wS_calls (d := 65) (f := 47) (vs := [.agg #[.int .i64 (p1_0), .int .i64 (p1_1), .int .i64 (p1_2), .int .i64 (p1_3)], .int .i64 (if 0 > (wr (p0_4 - p1_4)) then 0 else (wr (p0_4 - p1_4)))]) (by kernel_rfl) ent47 (c_impl_Region_grown hy14) ?_
     rintro _ w35 ⟨rfl, hc34⟩
     replace F1 := F1.chg hc34 notNil
     replace F2 := F2.chg hc34 notNil
     replace F3 := F3.chg hc34 notNil
     replace hB := hB.inS hc34 inNil
     have hSz := hS
     replace hS := hS.inS hc34 inNil
     replace hZ := Nat.le_trans hZ hc34.size
     refine ⟨.agg #[.int .i64 (y14.1), .int .i64 (y14.2.1), .int .i64 (y14.2.2.1), .int .i64 (y14.2.2.2)], rfl, ?_⟩
     refine wS_end (by kernel_rfl) ?_
     refine eX_KH hS ?_
     refine wH_all [8, 12] (by rfl) (by kernel_rfl) (by simp) ⟨⟨by kernel_rfl, ?_⟩, ⟨by kernel_rfl, ?_⟩, trivial⟩
     ·skip
      obtain ⟨y15, hy15, hm⟩ := bindE hm
      refine wS_calls (d := 66) (f := 48) (vs := [.agg #[.int .i64 (y13.1), .int .i64 (y13.2.1), .int .i64 (y13.2.2.1), .int .i64 (y13.2.2.2)], .agg #[.int .i64 (y14.1), .int .i64 (y14.2.1), .int .i64 (y14.2.2.1), .int .i64 (y14.2.2.2)]]) (by kernel_rfl) ent48 (c_impl_Region_meet hy15) ?_
      rintro _ w36 ⟨rfl, hc35⟩
      replace F1 := F1.chg hc35 notNil
      replace F2 := F2.chg hc35 notNil
      replace F3 := F3.chg hc35 notNil
      replace hB := hB.inS hc35 inNil
      have hSz := hS
      replace hS := hS.inS hc35 inNil
      replace hZ := Nat.le_trans hZ hc35.size
      refine ⟨.tuple #[.agg #[.int .i64 (y15.1.1), .int .i64 (y15.1.2.1), .int .i64 (y15.1.2.2.1), .int .i64 (y15.1.2.2.2)], .bool (y15.2)], rfl, ?_⟩
      refine wS_end (by kernel_rfl) ?_
      refine eX_KH hS ?_
      refine wH_take [9, 10, 11] [11, 10, 9, 8, 7, 3, 6, 5, 4, 2, 1, 0] [(68, .bool (y15.2)), (67, .agg #[.int .i64 (y15.1.1), .int .i64 (y15.1.2.1), .int .i64 (y15.1.2.2.1), .int .i64 (y15.1.2.2.2)]), (57, .tuple #[.agg #[.int .i64 (y15.1.1), .int .i64 (y15.1.2.1), .int .i64 (y15.1.2.2.1), .int .i64 (y15.1.2.2.2)], .bool (y15.2)])] (by kernel_rfl) (qT (qT (qT qZ))) (by kernel_rfl) ?_
      refine wH_all [12] (by rfl) (by kernel_rfl) (by simp) ⟨⟨by kernel_rfl, ?_⟩, trivial⟩
      refine wS_alloc (d := 12) (T := 55) (z := .agg #[.int .i64 (0), .int .i64 (0), .int .i64 (0), .int .i64 (0)]) (by kernel_rfl) (by kernel_rfl) ?_
      intro b11 w37 G10 F21 hc36
      replace F21 : Cl w37 b11 55 [.int .i64 (0), .int .i64 (0), .int .i64 (0), .int .i64 (0)] := F21
      have D21 : Dj [b1] [b11] := Dj.of (lt1 F1.lt) (low1 G10)
      have D22 : Dj [b2] [b11] := Dj.of (lt1 F2.lt) (low1 G10)
      have D23 : Dj [b3] [b11] := Dj.of (lt1 F3.lt) (low1 G10)
      replace F1 := F1.chg hc36 notNil
      replace F2 := F2.chg hc36 notNil
      replace F3 := F3.chg hc36 notNil
      replace hB := hB.inS hc36 inNil
      have hSz := hS
      replace hS := hS.inS hc36 inNil
      have Gz5 := low1 (Nat.le_trans hSz.size G10)
      replace G10 := Nat.le_trans hZ G10
      replace hZ := Nat.le_trans hZ hc36.size
      refine wS_end (by kernel_rfl) ?_
      refine eX_KH hS ?_
      refine wH_all [13] (by rfl) (by kernel_rfl) (by simp) ⟨⟨by kernel_rfl, ?_⟩, trivial⟩
      refine wS_store (T := 55) (g := b11) (o := 0) (ad := ⟨b11, 0, none⟩) (v := .agg #[.int .i64 (y15.1.1), .int .i64 (y15.1.2.1), .int .i64 (y15.1.2.2.1), .int .i64 (y15.1.2.2.2)]) (vs := [.int .i64 (y15.1.1), .int .i64 (y15.1.2.1), .int .i64 (y15.1.2.2.1), .int .i64 (y15.1.2.2.2)]) (by kernel_rfl) (by rfl) sz55 (by rfl) (by rfl) F21 (by simp only [List.length_cons, List.length_nil]; omega) ?_
      intro w38 F22 hc37
      replace F1 := F1.chg hc37 (dj1 D21)
      replace F2 := F2.chg hc37 (dj1 D22)
      replace F3 := F3.chg hc37 (dj1 D23)
      replace hB := hB.inS hc37 (inLow (low1 G10))
      have hSz := hS
      replace hS := hS.inS hc37 (inLow Gz5)
      replace hZ := Nat.le_trans hZ hc37.size
      replace F22 : Cl w38 b11 55 [.int .i64 (y15.1.1), .int .i64 (y15.1.2.1), .int .i64 (y15.1.2.2.1), .int .i64 (y15.1.2.2.2)] := F22
      clear F21
      refine wS_end (by kernel_rfl) ?_
      refine eX_KH hS ?_
      refine wH_done (by kernel_rfl) ?_
      refine eX_tail ?_
      refine wS_pure 1 [(13, .bool (y15.2))] (by kernel_rfl) ?_
      refine wS_end (by rfl) ?_
      have hq : (some ((y15.1.1, y15.1.2.1, y15.1.2.2.1, y15.1.2.2.2, y15.2)) : Option (Int × Int × Int × Int × Bool)) = some _ := hm
      replace hq := someE hq
      subst hq
      exact eX_J (fun hst => ⟨b11, y15.1.1, y15.1.2.1, y15.1.2.2.1, y15.1.2.2.2, y15.2, rfl, Fr.of hst (by kernel_rfl), F1, F3, F22, G10, D21, D23, hB, hZ⟩)
     ·skip
      refine wS_alloc (d := 12) (T := 55) (z := .agg #[.int .i64 (0), .int .i64 (0), .int .i64 (0), .int .i64 (0)]) (by kernel_rfl) (by kernel_rfl) ?_
      intro b12 w39 G11 F23 hc38
      replace F23 : Cl w39 b12 55 [.int .i64 (0), .int .i64 (0), .int .i64 (0), .int .i64 (0)] := F23
      have D24 : Dj [b1] [b12] := Dj.of (lt1 F1.lt) (low1 G11)
      have D25 : Dj [b2] [b12] := Dj.of (lt1 F2.lt) (low1 G11)
      have D26 : Dj [b3] [b12] := Dj.of (lt1 F3.lt) (low1 G11)
      replace F1 := F1.chg hc38 notNil
      replace F2 := F2.chg hc38 notNil
      replace F3 := F3.chg hc38 notNil
      replace hB := hB.inS hc38 inNil
      have hSz := hS
      replace hS := hS.inS hc38 inNil
      have Gz6 := low1 (Nat.le_trans hSz.size G11)
      replace G11 := Nat.le_trans hZ G11
      replace hZ := Nat.le_trans hZ hc38.size
      refine wS_end (by kernel_rfl) ?_
      refine eX_KH hS ?_
      refine wH_all [8] (by rfl) (by kernel_rfl) (by simp) ⟨⟨by kernel_rfl, ?_⟩, trivial⟩
      obtain ⟨y16, hy16, hm⟩ := bindE hm
      refine wS_calls (d := 66) (f := 48) (vs := [.agg #[.int .i64 (y13.1), .int .i64 (y13.2.1), .int .i64 (y13.2.2.1), .int .i64 (y13.2.2.2)], .agg #[.int .i64 (y14.1), .int .i64 (y14.2.1), .int .i64 (y14.2.2.1), .int .i64 (y14.2.2.2)]]) (by kernel_rfl) ent48 (c_impl_Region_meet hy16) ?_
      rintro _ w40 ⟨rfl, hc39⟩
      replace F1 := F1.chg hc39 notNil
      replace F2 := F2.chg hc39 notNil
      replace F3 := F3.chg hc39 notNil
      replace F23 := F23.chg hc39 notNil
      replace hB := hB.inS hc39 inNil
      have hSz := hS
      replace hS := hS.inS hc39 inNil
      replace hZ := Nat.le_trans hZ hc39.size
      refine ⟨.tuple #[.agg #[.int .i64 (y16.1.1), .int .i64 (y16.1.2.1), .int .i64 (y16.1.2.2.1), .int .i64 (y16.1.2.2.2)], .bool (y16.2)], rfl, ?_⟩
      refine wS_end (by kernel_rfl) ?_
      refine eX_KH hS ?_
      refine wH_take [9, 10, 11] [11, 10, 9, 8, 12, 7, 3, 6, 5, 4, 2, 1, 0] [(68, .bool (y16.2)), (67, .agg #[.int .i64 (y16.1.1), .int .i64 (y16.1.2.1), .int .i64 (y16.1.2.2.1), .int .i64 (y16.1.2.2.2)]), (57, .tuple #[.agg #[.int .i64 (y16.1.1), .int .i64 (y16.1.2.1), .int .i64 (y16.1.2.2.1), .int .i64 (y16.1.2.2.2)], .bool (y16.2)])] (by kernel_rfl) (qT (qT (qT qZ))) (by kernel_rfl) ?_
      refine wH_all [13] (by rfl) (by kernel_rfl) (by simp) ⟨⟨by kernel_rfl, ?_⟩, trivial⟩
      refine wS_store (T := 55) (g := b12) (o := 0) (ad := ⟨b12, 0, none⟩) (v := .agg #[.int .i64 (y16.1.1), .int .i64 (y16.1.2.1), .int .i64 (y16.1.2.2.1), .int .i64 (y16.1.2.2.2)]) (vs := [.int .i64 (y16.1.1), .int .i64 (y16.1.2.1), .int .i64 (y16.1.2.2.1), .int .i64 (y16.1.2.2.2)]) (by kernel_rfl) (by rfl) sz55 (by rfl) (by rfl) F23 (by simp only [List.length_cons, List.length_nil]; omega) ?_
      intro w41 F24 hc40
      replace F1 := F1.chg hc40 (dj1 D24)
      replace F2 := F2.chg hc40 (dj1 D25)
      replace F3 := F3.chg hc40 (dj1 D26)
      replace hB := hB.inS hc40 (inLow (low1 G11))
      have hSz := hS
      replace hS := hS.inS hc40 (inLow Gz6)
      replace hZ := Nat.le_trans hZ hc40.size
      replace F24 : Cl w41 b12 55 [.int .i64 (y16.1.1), .int .i64 (y16.1.2.1), .int .i64 (y16.1.2.2.1), .int .i64 (y16.1.2.2.2)] := F24
      clear F23
      refine wS_end (by kernel_rfl) ?_
      refine eX_KH hS ?_
      refine wH_done (by kernel_rfl) ?_
      refine eX_tail ?_
      refine wS_pure 1 [(13, .bool (y16.2))] (by kernel_rfl) ?_
      refine wS_end (by rfl) ?_
      have hq : (some ((y16.1.1, y16.1.2.1, y16.1.2.2.1, y16.1.2.2.2, y16.2)) : Option (Int × Int × Int × Int × Bool)) = some _ := hm
      replace hq := someE hq
      subst hq
      exact eX_J (fun hst => ⟨b12, y16.1.1, y16.1.2.1, y16.1.2.2.1, y16.1.2.2.2, y16.2, rfl, Fr.of hst (by kernel_rfl), F1, F3, F24, G11, D24, D26, hB, hZ⟩)
    ·skip
     refine wS_alloc (d := 12) (T := 55) (z := .agg #[.int .i64 (0), .int .i64 (0), .int .i64 (0), .int .i64 (0)]) (by kernel_rfl) (by kernel_rfl) ?_
     intro b13 w42 G12 F25 hc41
     replace F25 : Cl w42 b13 55 [.int .i64 (0), .int .i64 (0), .int .i64 (0), .int .i64 (0)] := F25
     have D27 : Dj [b1] [b13] := Dj.of (lt1 F1.lt) (low1 G12)
     have D28 : Dj [b2] [b13] := Dj.of (lt1 F2.lt) (low1 G12)
     have D29 : Dj [b3] [b13] := Dj.of (lt1 F3.lt) (low1 G12)
     replace F1 := F1.chg hc41 notNil
     replace F2 := F2.chg hc41 notNil
     replace F3 := F3.chg hc41 notNil
     replace hB := hB.inS hc41 inNil
     have hSz := hS
     replace hS := hS.inS hc41 inNil
     have Gz7 := low1 (Nat.le_trans hSz.size G12)
     replace G12 := Nat.le_trans hZ G12
     replace hZ := Nat.le_trans hZ hc41.size
     refine wS_end (by kernel_rfl) ?_
     refine eX_KH hS ?_
     refine wH_all [7] (by rfl) (by kernel_rfl) (by simp) ⟨⟨by kernel_rfl, ?_⟩, trivial⟩
     obtain ⟨y17, hy17, hm⟩ := bindE hm
     refine wS_calls (d := 65) (f := 47) (vs := [.agg #[.int .i64 (p1_0), .int .i64 (p1_1), .int .i64 (p1_2), .int .i64 (p1_3)], .int .i64 (if 0 > (wr (p0_4 - p1_4)) then 0 else (wr (p0_4 - p1_4)))]) (by kernel_rfl) ent47 (c_impl_Region_grown hy17) ?_
     rintro _ w43 ⟨rfl, hc42⟩
     replace F1 := F1.chg hc42 notNil
     replace F2 := F2.chg hc42 notNil
     replace F3 := F3.chg hc42 notNil
     replace F25 := F25.chg hc42 notNil
     replace hB := hB.inS hc42 inNil
     have hSz := hS
     replace hS := hS.inS hc42 inNil
     replace hZ := Nat.le_trans hZ hc42.size
     refine ⟨.agg #[.int .i64 (y17.1), .int .i64 (y17.2.1), .int .i64 (y17.2.2.1), .int .i64 (y17.2.2.2)], rfl, ?_⟩
     refine wS_end (by kernel_rfl) ?_
     refine eX_KH hS ?_
     refine wH_all [8] (by rfl) (by kernel_rfl) (by simp) ⟨⟨by kernel_rfl, ?_⟩, trivial⟩
     obtain ⟨y18, hy18, hm⟩ := bindE hm
     refine wS_calls (d := 66) (f := 48) (vs := [.agg #[.int .i64 (y13.1), .int .i64 (y13.2.1), .int .i64 (y13.2.2.1), .int .i64 (y13.2.2.2)], .agg #[.int .i64 (y17.1), .int .i64 (y17.2.1), .int .i64 (y17.2.2.1), .int .i64 (y17.2.2.2)]]) (by kernel_rfl) ent48 (c_impl_Region_meet hy18) ?_
     rintro _ w44 ⟨rfl, hc43⟩
     replace F1 := F1.chg hc43 notNil
     replace F2 := F2.chg hc43 notNil
     replace F3 := F3.chg hc43 notNil
     replace F25 := F25.chg hc43 notNil
     replace hB := hB.inS hc43 inNil
     have hSz := hS
     replace hS := hS.inS hc43 inNil
     replace hZ := Nat.le_trans hZ hc43.size
     refine ⟨.tuple #[.agg #[.int .i64 (y18.1.1), .int .i64 (y18.1.2.1), .int .i64 (y18.1.2.2.1), .int .i64 (y18.1.2.2.2)], .bool (y18.2)], rfl, ?_⟩
     refine wS_end (by kernel_rfl) ?_
     refine eX_KH hS ?_
     refine wH_take [9, 10, 11] [11, 10, 9, 8, 7, 12, 3, 6, 5, 4, 2, 1, 0] [(68, .bool (y18.2)), (67, .agg #[.int .i64 (y18.1.1), .int .i64 (y18.1.2.1), .int .i64 (y18.1.2.2.1), .int .i64 (y18.1.2.2.2)]), (57, .tuple #[.agg #[.int .i64 (y18.1.1), .int .i64 (y18.1.2.1), .int .i64 (y18.1.2.2.1), .int .i64 (y18.1.2.2.2)], .bool (y18.2)])] (by kernel_rfl) (qT (qT (qT qZ))) (by kernel_rfl) ?_
     refine wH_all [13] (by rfl) (by kernel_rfl) (by simp) ⟨⟨by kernel_rfl, ?_⟩, trivial⟩
     refine wS_store (T := 55) (g := b13) (o := 0) (ad := ⟨b13, 0, none⟩) (v := .agg #[.int .i64 (y18.1.1), .int .i64 (y18.1.2.1), .int .i64 (y18.1.2.2.1), .int .i64 (y18.1.2.2.2)]) (vs := [.int .i64 (y18.1.1), .int .i64 (y18.1.2.1), .int .i64 (y18.1.2.2.1), .int .i64 (y18.1.2.2.2)]) (by kernel_rfl) (by rfl) sz55 (by rfl) (by rfl) F25 (by simp only [List.length_cons, List.length_nil]; omega) ?_
     intro w45 F26 hc44
     replace F1 := F1.chg hc44 (dj1 D27)
     replace F2 := F2.chg hc44 (dj1 D28)
     replace F3 := F3.chg hc44 (dj1 D29)
     replace hB := hB.inS hc44 (inLow (low1 G12))
     have hSz := hS
     replace hS := hS.inS hc44 (inLow Gz7)
     replace hZ := Nat.le_trans hZ hc44.size
     replace F26 : Cl w45 b13 55 [.int .i64 (y18.1.1), .int .i64 (y18.1.2.1), .int .i64 (y18.1.2.2.1), .int .i64 (y18.1.2.2.2)] := F26
     clear F25
     refine wS_end (by kernel_rfl) ?_
     refine eX_KH hS ?_
     refine wH_done (by kernel_rfl) ?_
     refine eX_tail ?_
     refine wS_pure 1 [(13, .bool (y18.2))] (by kernel_rfl) ?_
     refine wS_end (by rfl) ?_
     have hq : (some ((y18.1.1, y18.1.2.1, y18.1.2.2.1, y18.1.2.2.2, y18.2)) : Option (Int × Int × Int × Int × Bool)) = some _ := hm
     replace hq := someE hq
     subst hq
     exact eX_J (fun hst => ⟨b13, y18.1.1, y18.1.2.1, y18.1.2.2.1, y18.1.2.2.2, y18.2, rfl, Fr.of hst (by kernel_rfl), F1, F3, F26, G12, D27, D29, hB, hZ⟩)
   ·skip
    refine wS_alloc (d := 12) (T := 55) (z := .agg #[.int .i64 (0), .int .i64 (0), .int .i64 (0), .int .i64 (0)]) (by kernel_rfl) (by kernel_rfl) ?_
    intro b14 w46 G13 F27 hc45
    replace F27 : Cl w46 b14 55 [.int .i64 (0), .int .i64 (0), .int .i64 (0), .int .i64 (0)] := F27
    have D30 : Dj [b1] [b14] := Dj.of (lt1 F1.lt) (low1 G13)
    have D31 : Dj [b2] [b14] := Dj.of (lt1 F2.lt) (low1 G13)
    have D32 : Dj [b3] [b14] := Dj.of (lt1 F3.lt) (low1 G13)
    replace F1 := F1.chg hc45 notNil
    replace F2 := F2.chg hc45 notNil
    replace F3 := F3.chg hc45 notNil
    replace hB := hB.inS hc45 inNil
    have hSz := hS
    replace hS := hS.inS hc45 inNil
    have Gz8 := low1 (Nat.le_trans hSz.size G13)
    replace G13 := Nat.le_trans hZ G13
    replace hZ := Nat.le_trans hZ hc45.size
    refine wS_end (by kernel_rfl) ?_
    refine eX_KH hS ?_
    refine wH_all [3] (by rfl) (by kernel_rfl) (by simp) ⟨⟨by kernel_rfl, ?_⟩, trivial⟩
    obtain ⟨y19, hy19, hm⟩ := bindE hm
    refine wS_calls (d := 61) (f := 47) (vs := [.agg #[.int .i64 (p0_0), .int .i64 (p0_1), .int .i64 (p0_2), .int .i64 (p0_3)], .int .i64 (if 0 > (wr (p1_4 - p0_4)) then 0 else (wr (p1_4 - p0_4)))]) (by kernel_rfl) ent47 (c_impl_Region_grown hy19) ?_
    rintro _ w47 ⟨rfl, hc46⟩
    replace F1 := F1.chg hc46 notNil
    replace F2 := F2.chg hc46 notNil
    replace F3 := F3.chg hc46 notNil
    replace F27 := F27.chg hc46 notNil
    replace hB := hB.inS hc46 inNil
    have hSz := hS
    replace hS := hS.inS hc46 inNil
    replace hZ := Nat.le_trans hZ hc46.size
    refine ⟨.agg #[.int .i64 (y19.1), .int .i64 (y19.2.1), .int .i64 (y19.2.2.1), .int .i64 (y19.2.2.2)], rfl, ?_⟩
    refine wS_end (by kernel_rfl) ?_
    refine eX_KH hS ?_
    refine wH_all [7] (by rfl) (by kernel_rfl) (by simp) ⟨⟨by kernel_rfl, ?_⟩, trivial⟩
    obtain ⟨y20, hy20, hm⟩ := bindE hm
    refine wS_calls (d := 65) (f := 47) (vs := [.agg #[.int .i64 (p1_0), .int .i64 (p1_1), .int .i64 (p1_2), .int .i64 (p1_3)], .int .i64 (if 0 > (wr (p0_4 - p1_4)) then 0 else (wr (p0_4 - p1_4)))]) (by kernel_rfl) ent47 (c_impl_Region_grown hy20) ?_
    rintro _ w48 ⟨rfl, hc47⟩
    replace F1 := F1.chg hc47 notNil
    replace F2 := F2.chg hc47 notNil
    replace F3 := F3.chg hc47 notNil
    replace F27 := F27.chg hc47 notNil
    replace hB := hB.inS hc47 inNil
    have hSz := hS
    replace hS := hS.inS hc47 inNil
    replace hZ := Nat.le_trans hZ hc47.size
    refine ⟨.agg #[.int .i64 (y20.1), .int .i64 (y20.2.1), .int .i64 (y20.2.2.1), .int .i64 (y20.2.2.2)], rfl, ?_⟩
    refine wS_end (by kernel_rfl) ?_
    refine eX_KH hS ?_
    refine wH_all [8] (by rfl) (by kernel_rfl) (by simp) ⟨⟨by kernel_rfl, ?_⟩, trivial⟩
    obtain ⟨y21, hy21, hm⟩ := bindE hm
    refine wS_calls (d := 66) (f := 48) (vs := [.agg #[.int .i64 (y19.1), .int .i64 (y19.2.1), .int .i64 (y19.2.2.1), .int .i64 (y19.2.2.2)], .agg #[.int .i64 (y20.1), .int .i64 (y20.2.1), .int .i64 (y20.2.2.1), .int .i64 (y20.2.2.2)]]) (by kernel_rfl) ent48 (c_impl_Region_meet hy21) ?_
    rintro _ w49 ⟨rfl, hc48⟩
    replace F1 := F1.chg hc48 notNil
    replace F2 := F2.chg hc48 notNil
    replace F3 := F3.chg hc48 notNil
    replace F27 := F27.chg hc48 notNil
    replace hB := hB.inS hc48 inNil
    have hSz := hS
    replace hS := hS.inS hc48 inNil
    replace hZ := Nat.le_trans hZ hc48.size
    refine ⟨.tuple #[.agg #[.int .i64 (y21.1.1), .int .i64 (y21.1.2.1), .int .i64 (y21.1.2.2.1), .int .i64 (y21.1.2.2.2)], .bool (y21.2)], rfl, ?_⟩
    refine wS_end (by kernel_rfl) ?_
    refine eX_KH hS ?_
    refine wH_take [9, 10, 11] [11, 10, 9, 8, 7, 3, 12, 6, 5, 4, 2, 1, 0] [(68, .bool (y21.2)), (67, .agg #[.int .i64 (y21.1.1), .int .i64 (y21.1.2.1), .int .i64 (y21.1.2.2.1), .int .i64 (y21.1.2.2.2)]), (57, .tuple #[.agg #[.int .i64 (y21.1.1), .int .i64 (y21.1.2.1), .int .i64 (y21.1.2.2.1), .int .i64 (y21.1.2.2.2)], .bool (y21.2)])] (by kernel_rfl) (qT (qT (qT qZ))) (by kernel_rfl) ?_
    refine wH_all [13] (by rfl) (by kernel_rfl) (by simp) ⟨⟨by kernel_rfl, ?_⟩, trivial⟩
    refine wS_store (T := 55) (g := b14) (o := 0) (ad := ⟨b14, 0, none⟩) (v := .agg #[.int .i64 (y21.1.1), .int .i64 (y21.1.2.1), .int .i64 (y21.1.2.2.1), .int .i64 (y21.1.2.2.2)]) (vs := [.int .i64 (y21.1.1), .int .i64 (y21.1.2.1), .int .i64 (y21.1.2.2.1), .int .i64 (y21.1.2.2.2)]) (by kernel_rfl) (by rfl) sz55 (by rfl) (by rfl) F27 (by simp only [List.length_cons, List.length_nil]; omega) ?_
    intro w50 F28 hc49
    replace F1 := F1.chg hc49 (dj1 D30)
    replace F2 := F2.chg hc49 (dj1 D31)
    replace F3 := F3.chg hc49 (dj1 D32)
    replace hB := hB.inS hc49 (inLow (low1 G13))
    have hSz := hS
    replace hS := hS.inS hc49 (inLow Gz8)
    replace hZ := Nat.le_trans hZ hc49.size
    replace F28 : Cl w50 b14 55 [.int .i64 (y21.1.1), .int .i64 (y21.1.2.1), .int .i64 (y21.1.2.2.1), .int .i64 (y21.1.2.2.2)] := F28
    clear F27
    refine wS_end (by kernel_rfl) ?_
    refine eX_KH hS ?_
    refine wH_done (by kernel_rfl) ?_
    refine eX_tail ?_
    refine wS_pure 1 [(13, .bool (y21.2))] (by kernel_rfl) ?_
    refine wS_end (by rfl) ?_
    have hq : (some ((y21.1.1, y21.1.2.1, y21.1.2.2.1, y21.1.2.2.2, y21.2)) : Option (Int × Int × Int × Int × Bool)) = some _ := hm
    replace hq := someE hq
    subst hq
    exact eX_J (fun hst => ⟨b14, y21.1.1, y21.1.2.1, y21.1.2.2.1, y21.1.2.2.2, y21.2, rfl, Fr.of hst (by kernel_rfl), F1, F3, F28, G13, D30, D32, hB, hZ⟩)
  ·rintro a' w51 ⟨b10, x6, x7, x8, x9, x10, hJ, hF2, F29, F30, F31, G14, D33, D34, hB, hZ⟩
   subst hJ
   refine Fr.goX hF2 (by kernel_rfl) ?_
   refine eX_then ?_
   refine cW_seq ?_
   refine cW_region ?_
   refine wS_loadA (d := 69) (T := 55) (ad := ⟨b10, 0, none⟩) (vs := [.int .i64 (x6), .int .i64 (x7), .int .i64 (x8), .int .i64 (x9)]) (by kernel_rfl) vt55 (fun i u hu => box_cells F31 0 hu (by rfl)) ?_
   refine wS_pure 1 [(70, .pointer (some ⟨b1, 4, none⟩))] (by kernel_rfl) ?_
   refine wS_load1 (d := 71) (T := 2) (ad := ⟨b1, 4, none⟩) (v := .int .i64 (p0_4)) (by kernel_rfl) vt2 ((F29).cell 4) ?_
   refine wS_pure 3 [(74, .agg #[.int .i64 (x6), .int .i64 (x7), .int .i64 (x8), .int .i64 (x9), .int .i64 (wr (p0_4 + (if 0 > (wr (p1_4 - p0_4)) then 0 else (wr (p1_4 - p0_4)))))]), (73, .int .i64 (wr (p0_4 + (if 0 > (wr (p1_4 - p0_4)) then 0 else (wr (p1_4 - p0_4)))))), (72, .int .i64 (if 0 > (wr (p1_4 - p0_4)) then 0 else (wr (p1_4 - p0_4))))] (by kernel_rfl) ?_
   refine wS_alloc (d := 14) (T := 58) (z := .agg #[.int .i64 (0), .int .i64 (0), .int .i64 (0), .int .i64 (0), .int .i64 (0)]) (by kernel_rfl) (by kernel_rfl) ?_
   intro b15 w52 G15 F32 hc50
   replace F32 : Cl w52 b15 58 [.int .i64 (0), .int .i64 (0), .int .i64 (0), .int .i64 (0), .int .i64 (0)] := F32
   have D35 : Dj [b1] [b15] := Dj.of (lt1 F29.lt) (low1 G15)
   have D36 : Dj [b3] [b15] := Dj.of (lt1 F30.lt) (low1 G15)
   have D37 : Dj [b10] [b15] := Dj.of (lt1 F31.lt) (low1 G15)
   replace F29 := F29.chg hc50 notNil
   replace F30 := F30.chg hc50 notNil
   replace F31 := F31.chg hc50 notNil
   replace hB := hB.inS hc50 inNil
   replace G15 := Nat.le_trans hZ G15
   replace hZ := Nat.le_trans hZ hc50.size
   refine wS_store (T := 58) (g := b15) (o := 0) (ad := ⟨b15, 0, none⟩) (v := .agg #[.int .i64 (x6), .int .i64 (x7), .int .i64 (x8), .int .i64 (x9), .int .i64 (wr (p0_4 + (if 0 > (wr (p1_4 - p0_4)) then 0 else (wr (p1_4 - p0_4)))))]) (vs := [.int .i64 (x6), .int .i64 (x7), .int .i64 (x8), .int .i64 (x9), .int .i64 (wr (p0_4 + (if 0 > (wr (p1_4 - p0_4)) then 0 else (wr (p1_4 - p0_4)))))]) (by kernel_rfl) (by rfl) sz58 (by rfl) (by rfl) F32 (by simp only [List.length_cons, List.length_nil]; omega) ?_
   intro w53 F33 hc51
   replace F29 := F29.chg hc51 (dj1 D35)
   replace F30 := F30.chg hc51 (dj1 D36)
   replace F31 := F31.chg hc51 (dj1 D37)
   replace hB := hB.inS hc51 (inLow (low1 G15))
   replace hZ := Nat.le_trans hZ hc51.size
   replace F33 : Cl w53 b15 58 [.int .i64 (x6), .int .i64 (x7), .int .i64 (x8), .int .i64 (x9), .int .i64 (wr (p0_4 + (if 0 > (wr (p1_4 - p0_4)) then 0 else (wr (p1_4 - p0_4)))))] := F33
   clear F32
   refine wS_end (by rfl) ?_
   refine eX_then ?_
   refine cW_seq ?_
   refine cW_seq ?_
   refine cW_region ?_
   refine wS_pure 3 [(77, .bool (!x10)), (76, .bool (!x10)), (75, .bool (x10))] (by kernel_rfl) ?_
   refine wS_bool (!x10) (fun hb5 => ?_) (fun hb5 => ?_)
   ·have hm := condT hb5 hm
    rewrite [hb5]
    refine wS_pure 4 [(81, .bool (true)), (80, undef), (79, undef), (78, undef)] (by kernel_rfl) ?_
    refine wS_end (by rfl) ?_
    refine eX_then ?_
    refine cW_cond_t (by kernel_rfl) ?_
    refine cW_seq ?_
    refine cW_region ?_
    refine wS_pure 1 [(82, .agg #[.int .i64 (0), .int .i64 (0), .int .i64 (0), .int .i64 (0), .int .i64 (0)])] (by kernel_rfl) ?_
    refine wS_store (T := 58) (g := b3) (o := 0) (ad := ⟨b3, 0, none⟩) (v := .agg #[.int .i64 (0), .int .i64 (0), .int .i64 (0), .int .i64 (0), .int .i64 (0)]) (vs := [.int .i64 (0), .int .i64 (0), .int .i64 (0), .int .i64 (0), .int .i64 (0)]) (by kernel_rfl) (by rfl) sz58 (by rfl) (by rfl) F30 (by simp only [List.length_cons, List.length_nil]; omega) ?_
    intro w54 F34 hc52
    replace F29 := F29.chg hc52 (dj1 D2)
    replace F31 := F31.chg hc52 (dj1 (D34).symm)
    replace F33 := F33.chg hc52 (dj1 (D36).symm)
    replace hB := hB.inS hc52 (inLow (low1 G3))
    replace hZ := Nat.le_trans hZ hc52.size
    replace F34 : Cl w54 b3 58 [.int .i64 (0), .int .i64 (0), .int .i64 (0), .int .i64 (0), .int .i64 (0)] := F34
    clear F30
    refine wS_pure 3 [(7, .bool (false)), (6, .int .i64 (0)), (5, .int .i64 (0))] (by kernel_rfl) ?_
    refine wS_end (by rfl) ?_
    refine eX_then ?_
    refine cW_prune [(4, .pointer (some ⟨b3, 0, none⟩)), (5, .int .i64 (0)), (6, .int .i64 (0)), (7, .bool (false))] (by kernel_rfl) (by kernel_rfl) (fun a6 => ?_)
    refine cW_ret ?_
    refine eX_then_ret ?_
    have hq : (some (((0, 0, 0, 0, 0), 0, 0, false)) : Option ((Int × Int × Int × Int × Int) × (Int) × (Int) × (Bool))) = some _ := hm
    replace hq := someE hq
    subst hq
    refine eX_ret (vs := [.agg #[.int .i64 (0), .int .i64 (0), .int .i64 (0), .int .i64 (0), .int .i64 (0)], .int .i64 (0), .int .i64 (0), .bool (false)]) [.cell 4 58, .tmp 5, .tmp 6, .tmp 7] (by rfl) ⟨⟨⟨b3, 0, none⟩, by kernel_rfl, run_loadVarA (vs := [.int .i64 (0), .int .i64 (0), .int .i64 (0), .int .i64 (0), .int .i64 (0)]) vt58 (fun i u hu => by exact box_cells F34 0 hu (by rfl))⟩, ⟨by (show lkE _ _ _ = _); kernel_rfl, ⟨by (show lkE _ _ _ = _); kernel_rfl, ⟨by (show lkE _ _ _ = _); kernel_rfl, trivial⟩⟩⟩⟩ ?_
    exact ⟨rfl, hB⟩
   ·have hm := condF hb5 hm
    rewrite [hb5]
    refine wS_loadA (d := 78) (T := 58) (ad := ⟨b15, 0, none⟩) (vs := [.int .i64 (x6), .int .i64 (x7), .int .i64 (x8), .int .i64 (x9), .int .i64 (wr (p0_4 + (if 0 > (wr (p1_4 - p0_4)) then 0 else (wr (p1_4 - p0_4)))))]) (by kernel_rfl) vt58 (fun i u hu => box_cells F33 0 hu (by rfl)) ?_
    obtain ⟨y22, hy22, hm⟩ := bindE hm
    refine wS_calls (d := 79) (f := 49) (vs := [.agg #[.int .i64 (x6), .int .i64 (x7), .int .i64 (x8), .int .i64 (x9), .int .i64 (wr (p0_4 + (if 0 > (wr (p1_4 - p0_4)) then 0 else (wr (p1_4 - p0_4)))))]]) (by kernel_rfl) ent49 (c_impl_mergeOk hy22) ?_
    rintro _ w55 ⟨rfl, hc53⟩
    replace F29 := F29.chg hc53 notNil
    replace F30 := F30.chg hc53 notNil
    replace F31 := F31.chg hc53 notNil
    replace F33 := F33.chg hc53 notNil
    replace hB := hB.inS hc53 inNil
    replace hZ := Nat.le_trans hZ hc53.size
    refine ⟨.bool (y22), rfl, ?_⟩
    refine wS_pure 2 [(81, .bool (!y22)), (80, .bool (!y22))] (by kernel_rfl) ?_
    refine wS_end (by rfl) ?_
    refine eX_then ?_
    refine cW_cond (t := !y22) (by kernel_rfl) (fun hb6 => ?_) (fun hb6 => ?_)
    ·have hm := condT hb6 hm
     refine cW_seq ?_
     refine cW_region ?_
     refine wS_pure 1 [(82, .agg #[.int .i64 (0), .int .i64 (0), .int .i64 (0), .int .i64 (0), .int .i64 (0)])] (by kernel_rfl) ?_
     refine wS_store (T := 58) (g := b3) (o := 0) (ad := ⟨b3, 0, none⟩) (v := .agg #[.int .i64 (0), .int .i64 (0), .int .i64 (0), .int .i64 (0), .int .i64 (0)]) (vs := [.int .i64 (0), .int .i64 (0), .int .i64 (0), .int .i64 (0), .int .i64 (0)]) (by kernel_rfl) (by rfl) sz58 (by rfl) (by rfl) F30 (by simp only [List.length_cons, List.length_nil]; omega) ?_
     intro w56 F35 hc54
     replace F29 := F29.chg hc54 (dj1 D2)
     replace F31 := F31.chg hc54 (dj1 (D34).symm)
     replace F33 := F33.chg hc54 (dj1 (D36).symm)
     replace hB := hB.inS hc54 (inLow (low1 G3))
     replace hZ := Nat.le_trans hZ hc54.size
     replace F35 : Cl w56 b3 58 [.int .i64 (0), .int .i64 (0), .int .i64 (0), .int .i64 (0), .int .i64 (0)] := F35
     clear F30
     refine wS_pure 3 [(7, .bool (false)), (6, .int .i64 (0)), (5, .int .i64 (0))] (by kernel_rfl) ?_
     refine wS_end (by rfl) ?_
     refine eX_then ?_
     refine cW_prune [(4, .pointer (some ⟨b3, 0, none⟩)), (5, .int .i64 (0)), (6, .int .i64 (0)), (7, .bool (false))] (by kernel_rfl) (by kernel_rfl) (fun a7 => ?_)
     refine cW_ret ?_
     refine eX_then_ret ?_
     have hq : (some (((0, 0, 0, 0, 0), 0, 0, false)) : Option ((Int × Int × Int × Int × Int) × (Int) × (Int) × (Bool))) = some _ := hm
     replace hq := someE hq
     subst hq
     refine eX_ret (vs := [.agg #[.int .i64 (0), .int .i64 (0), .int .i64 (0), .int .i64 (0), .int .i64 (0)], .int .i64 (0), .int .i64 (0), .bool (false)]) [.cell 4 58, .tmp 5, .tmp 6, .tmp 7] (by rfl) ⟨⟨⟨b3, 0, none⟩, by kernel_rfl, run_loadVarA (vs := [.int .i64 (0), .int .i64 (0), .int .i64 (0), .int .i64 (0), .int .i64 (0)]) vt58 (fun i u hu => by exact box_cells F35 0 hu (by rfl))⟩, ⟨by (show lkE _ _ _ = _); kernel_rfl, ⟨by (show lkE _ _ _ = _); kernel_rfl, ⟨by (show lkE _ _ _ = _); kernel_rfl, trivial⟩⟩⟩⟩ ?_
     exact ⟨rfl, hB⟩
    ·have hm := condF hb6 hm
     refine cW_skip ?_
     refine eX_then ?_
     refine cW_seq ?_
     refine cW_region ?_
     refine wS_loadA (d := 83) (T := 58) (ad := ⟨b15, 0, none⟩) (vs := [.int .i64 (x6), .int .i64 (x7), .int .i64 (x8), .int .i64 (x9), .int .i64 (wr (p0_4 + (if 0 > (wr (p1_4 - p0_4)) then 0 else (wr (p1_4 - p0_4)))))]) (by kernel_rfl) vt58 (fun i u hu => box_cells F33 0 hu (by rfl)) ?_
     refine wS_pure 2 [(85, .int .i64 (if 0 > (wr (p0_4 - p1_4)) then 0 else (wr (p0_4 - p1_4)))), (84, .int .i64 (if 0 > (wr (p1_4 - p0_4)) then 0 else (wr (p1_4 - p0_4))))] (by kernel_rfl) ?_
     refine wS_store (T := 58) (g := b3) (o := 0) (ad := ⟨b3, 0, none⟩) (v := .agg #[.int .i64 (x6), .int .i64 (x7), .int .i64 (x8), .int .i64 (x9), .int .i64 (wr (p0_4 + (if 0 > (wr (p1_4 - p0_4)) then 0 else (wr (p1_4 - p0_4)))))]) (vs := [.int .i64 (x6), .int .i64 (x7), .int .i64 (x8), .int .i64 (x9), .int .i64 (wr (p0_4 + (if 0 > (wr (p1_4 - p0_4)) then 0 else (wr (p1_4 - p0_4)))))]) (by kernel_rfl) (by rfl) sz58 (by rfl) (by rfl) F30 (by simp only [List.length_cons, List.length_nil]; omega) ?_
     intro w57 F36 hc55
     replace F29 := F29.chg hc55 (dj1 D2)
     replace F31 := F31.chg hc55 (dj1 (D34).symm)
     replace F33 := F33.chg hc55 (dj1 (D36).symm)
     replace hB := hB.inS hc55 (inLow (low1 G3))
     replace hZ := Nat.le_trans hZ hc55.size
     replace F36 : Cl w57 b3 58 [.int .i64 (x6), .int .i64 (x7), .int .i64 (x8), .int .i64 (x9), .int .i64 (wr (p0_4 + (if 0 > (wr (p1_4 - p0_4)) then 0 else (wr (p1_4 - p0_4)))))] := F36
     clear F30
     refine wS_pure 3 [(7, .bool (true)), (6, .int .i64 (if 0 > (wr (p0_4 - p1_4)) then 0 else (wr (p0_4 - p1_4)))), (5, .int .i64 (if 0 > (wr (p1_4 - p0_4)) then 0 else (wr (p1_4 - p0_4))))] (by kernel_rfl) ?_
     refine wS_end (by rfl) ?_
     refine eX_then ?_
     refine cW_prune [(4, .pointer (some ⟨b3, 0, none⟩)), (5, .int .i64 (if 0 > (wr (p1_4 - p0_4)) then 0 else (wr (p1_4 - p0_4)))), (6, .int .i64 (if 0 > (wr (p0_4 - p1_4)) then 0 else (wr (p0_4 - p1_4)))), (7, .bool (true))] (by kernel_rfl) (by kernel_rfl) (fun a8 => ?_)
     refine cW_ret ?_
     have hq : (some (((x6, x7, x8, x9, wr (p0_4 + (if 0 > (wr (p1_4 - p0_4)) then 0 else (wr (p1_4 - p0_4))))), if 0 > (wr (p1_4 - p0_4)) then 0 else (wr (p1_4 - p0_4)), if 0 > (wr (p0_4 - p1_4)) then 0 else (wr (p0_4 - p1_4)), true)) : Option ((Int × Int × Int × Int × Int) × (Int) × (Int) × (Bool))) = some _ := hm
     replace hq := someE hq
     subst hq
     refine eX_ret (vs := [.agg #[.int .i64 (x6), .int .i64 (x7), .int .i64 (x8), .int .i64 (x9), .int .i64 (wr (p0_4 + (if 0 > (wr (p1_4 - p0_4)) then 0 else (wr (p1_4 - p0_4)))))], .int .i64 (if 0 > (wr (p1_4 - p0_4)) then 0 else (wr (p1_4 - p0_4))), .int .i64 (if 0 > (wr (p0_4 - p1_4)) then 0 else (wr (p0_4 - p1_4))), .bool (true)]) [.cell 4 58, .tmp 5, .tmp 6, .tmp 7] (by rfl) ⟨⟨⟨b3, 0, none⟩, by kernel_rfl, run_loadVarA (vs := [.int .i64 (x6), .int .i64 (x7), .int .i64 (x8), .int .i64 (x9), .int .i64 (wr (p0_4 + (if 0 > (wr (p1_4 - p0_4)) then 0 else (wr (p1_4 - p0_4)))))]) vt58 (fun i u hu => by exact box_cells F36 0 hu (by rfl))⟩, ⟨by (show lkE _ _ _ = _); kernel_rfl, ⟨by (show lkE _ _ _ = _); kernel_rfl, ⟨by (show lkE _ _ _ = _); kernel_rfl, trivial⟩⟩⟩⟩ ?_
     exact ⟨rfl, hB⟩

set_option maxRecDepth 100000 in
/-- slices.Clone[[]int64,int64] -/
theorem c_slices_Clone_int64_int64 {w0 : World} {l0 : List (Int)} {A0 : Option Addr} {cap0 : Nat} {fp0 : List Nat} {r : (List (Int))} (hm : m_slices_Clone_int64_int64 l0 = some r) (F0 : Sl 1 encI w0 fp0 A0 l0) :
  Calls Try.prog 44 #[.slice A0 (l0).length cap0] w0 fun e w' => ∃ A100 cap100 fp100, e = .returned (.slice A100 (r).length cap100) ∧ Ow 1 encI 2 w' fp100 A100 cap100 r ∧ (∀ x ∈ fp100, w0.heap.size ≤ x) ∧ Chg [] w0 w' := by
 have L0 := F0.low
 have hB : Chg [] w0 w0 := Chg.refl _ _
 have hZ := Nat.le_refl w0.heap.size
 unfold m_slices_Clone_int64_int64 at hm
 refine enterE (N := 8) Try.func44 (by rfl) Try.ntmps44 (by simp) [(0, .slice A0 (l0).length cap0)] (by rfl) (by kernel_rfl) (fun a => ?_)
 refine cW_seq ?_
 refine cW_region ?_
 refine wS_pure 1 [(2, .slice none 0 0)] (by kernel_rfl) ?_
 refine wS_end (by rfl) ?_
 refine eX_then ?_
 refine cW_seq ?_
 refine cW_seq ?_
 refine cW_region ?_
 refine wS_pure 1 [(3, .slice A0 (l0).length cap0)] (by kernel_rfl) ?_
 rcases A0 with _ | ad1
 ·have hl1 := F0.none_nil
  subst hl1
  replace hm : (some ([])) = some _ := Eq.trans (by kernel_rfl) hm
  refine wS_pure 1 [(4, .bool (true))] (by kernel_rfl) ?_
  refine wS_end (by rfl) ?_
  refine eX_then ?_
  refine cW_cond_t (by kernel_rfl) ?_
  refine cW_seq ?_
  refine cW_region ?_
  refine wS_pure 1 [(2, .slice none 0 0)] (by kernel_rfl) ?_
  refine wS_end (by rfl) ?_
  refine eX_then ?_
  refine cW_ret ?_
  refine eX_then_ret ?_
  have hq : (some ([]) : Option ((List (Int)))) = some _ := hm
  replace hq := someE hq
  subst hq
  refine eX_ret (vs := [.slice none 0 0]) [.tmp 2] (by rfl) ⟨by (show lkE _ _ _ = _); kernel_rfl, trivial⟩ ?_
  exact ⟨none, 0, [], rfl, Ow.nil _, lowNil, hB⟩
 ·skip
  refine wS_pure 1 [(4, .bool (false))] (by kernel_rfl) ?_
  refine wS_end (by rfl) ?_
  refine eX_then ?_
  refine cW_cond_f (by kernel_rfl) ?_
  refine cW_skip ?_
  refine eX_then ?_
  refine cW_seq ?_
  refine cW_region ?_
  refine wS_bs0 (α := Int) (enc := encI) (d := 5) (t := 32) (T := 2) (by kernel_rfl) el32 ?_
  intro b1 w1 G1 F1 hc1
  replace F0 := F0.chg hc1 Dj.nil
  replace hB := hB.inS hc1 inNil
  replace G1 := Nat.le_trans hZ G1
  replace G1 := low1 G1
  replace hZ := Nat.le_trans hZ hc1.size
  refine wS_pure 1 [(6, .slice (some ad1) (l0).length cap0)] (by kernel_rfl) ?_
  obtain ⟨_, hk1, hm⟩ := bindE hm
  replace hk1 := apE hk1
  refine wS_appendAny (enc := encI) (l := (([] : List (Int)) : List (Int))) (l2 := (l0 : List (Int))) (d := 7) (t := 32) (T := 2) (A := (some ⟨b1, 0, none⟩)) (A2 := (some ad1)) (cap := 0) (cap2 := cap0) (by kernel_rfl) el32 encI_ok F1 F0 hk1 ?_
  intro w2 fp1 A1 cap1 F2 hc2 hp1
  have G2 := low_ap G1 hZ hp1
  replace F0 := F0.chg hc2 (Dj.of L0 G1)
  replace hB := hB.inS hc2 (inLow G1)
  replace hZ := Nat.le_trans hZ hc2.size
  refine wS_pure 1 [(2, .slice A1 ((([] : List (Int))) ++ l0).length cap1)] (by kernel_rfl) ?_
  refine wS_end (by rfl) ?_
  refine eX_then ?_
  refine cW_ret ?_
  have hq : (some ((([] : List (Int))) ++ l0) : Option ((List (Int)))) = some _ := hm
  replace hq := someE hq
  subst hq
  refine eX_ret (vs := [.slice A1 ((([] : List (Int))) ++ l0).length cap1]) [.tmp 2] (by rfl) ⟨by (show lkE _ _ _ = _); kernel_rfl, trivial⟩ ?_
  exact ⟨A1, cap1, fp1, rfl, F2, G2, hB⟩

set_option maxRecDepth 100000 in
/-- slices.Clone[[][]int64,[]int64] -/
theorem c_slices_Clone_H {w0 : World} {l0 : List (Hd)} {A0 : Option Addr} {cap0 : Nat} {fp0 : List Nat} {r : (List (Hd))} (hm : m_slices_Clone_H l0 = some r) (F0 : Sl 1 encH w0 fp0 A0 l0) :
  Calls Try.prog 42 #[.slice A0 (l0).length cap0] w0 fun e w' => ∃ A100 cap100 fp100, e = .returned (.slice A100 (r).length cap100) ∧ Ow 1 encH 32 w' fp100 A100 cap100 r ∧ (∀ x ∈ fp100, w0.heap.size ≤ x) ∧ Chg [] w0 w' := by
 have L0 := F0.low
 have hB : Chg [] w0 w0 := Chg.refl _ _
 have hZ := Nat.le_refl w0.heap.size
 unfold m_slices_Clone_H at hm
 refine enterE (N := 8) Try.func42 (by rfl) Try.ntmps42 (by simp) [(0, .slice A0 (l0).length cap0)] (by rfl) (by kernel_rfl) (fun a => ?_)
 refine cW_seq ?_
 refine cW_region ?_
 refine wS_pure 1 [(2, .slice none 0 0)] (by kernel_rfl) ?_
 refine wS_end (by rfl) ?_
 refine eX_then ?_
 refine cW_seq ?_
 refine cW_seq ?_
 refine cW_region ?_
 refine wS_pure 1 [(3, .slice A0 (l0).length cap0)] (by kernel_rfl) ?_
 rcases A0 with _ | ad1
 ·have hl1 := F0.none_nil
  subst hl1
  replace hm : (some ([])) = some _ := Eq.trans (by kernel_rfl) hm
  refine wS_pure 1 [(4, .bool (true))] (by kernel_rfl) ?_
  refine wS_end (by rfl) ?_
  refine eX_then ?_
  refine cW_cond_t (by kernel_rfl) ?_
  refine cW_seq ?_
  refine cW_region ?_
  refine wS_pure 1 [(2, .slice none 0 0)] (by kernel_rfl) ?_
  refine wS_end (by rfl) ?_
  refine eX_then ?_
  refine cW_ret ?_
  refine eX_then_ret ?_
  have hq : (some ([]) : Option ((List (Hd)))) = some _ := hm
  replace hq := someE hq
  subst hq
  refine eX_ret (vs := [.slice none 0 0]) [.tmp 2] (by rfl) ⟨by (show lkE _ _ _ = _); kernel_rfl, trivial⟩ ?_
  exact ⟨none, 0, [], rfl, Ow.nil _, lowNil, hB⟩
 ·skip
  refine wS_pure 1 [(4, .bool (false))] (by kernel_rfl) ?_
  refine wS_end (by rfl) ?_
  refine eX_then ?_
  refine cW_cond_f (by kernel_rfl) ?_
  refine cW_skip ?_
  refine eX_then ?_
  refine cW_seq ?_
  refine cW_region ?_
  refine wS_bs0 (α := Hd) (enc := encH) (d := 5) (t := 26) (T := 32) (by kernel_rfl) el26 ?_
  intro b1 w1 G1 F1 hc1
  replace F0 := F0.chg hc1 Dj.nil
  replace hB := hB.inS hc1 inNil
  replace G1 := Nat.le_trans hZ G1
  replace G1 := low1 G1
  replace hZ := Nat.le_trans hZ hc1.size
  refine wS_pure 1 [(6, .slice (some ad1) (l0).length cap0)] (by kernel_rfl) ?_
  obtain ⟨_, hk1, hm⟩ := bindE hm
  replace hk1 := apE hk1
  refine wS_appendAny (enc := encH) (l := (([] : List (Hd)) : List (Hd))) (l2 := (l0 : List (Hd))) (d := 7) (t := 26) (T := 32) (A := (some ⟨b1, 0, none⟩)) (A2 := (some ad1)) (cap := 0) (cap2 := cap0) (by kernel_rfl) el26 encH_ok F1 F0 hk1 ?_
  intro w2 fp1 A1 cap1 F2 hc2 hp1
  have G2 := low_ap G1 hZ hp1
  replace F0 := F0.chg hc2 (Dj.of L0 G1)
  replace hB := hB.inS hc2 (inLow G1)
  replace hZ := Nat.le_trans hZ hc2.size
  refine wS_pure 1 [(2, .slice A1 ((([] : List (Hd))) ++ l0).length cap1)] (by kernel_rfl) ?_
  refine wS_end (by rfl) ?_
  refine eX_then ?_
  refine cW_ret ?_
  have hq : (some ((([] : List (Hd))) ++ l0) : Option ((List (Hd)))) = some _ := hm
  replace hq := someE hq
  subst hq
  refine eX_ret (vs := [.slice A1 ((([] : List (Hd))) ++ l0).length cap1]) [.tmp 2] (by rfl) ⟨by (show lkE _ _ _ = _); kernel_rfl, trivial⟩ ?_
  exact ⟨A1, cap1, fp1, rfl, F2, G2, hB⟩

theorem c_slices_Clone_Z {w0 : World} {l0 : List (List (Int))} {A0 : Option Addr} {cap0 : Nat} {fp0 fr0 : List Nat} {u v : Unit} (hn : neC l0 = some u) (hk : apC ([] : List (List (Int))) l0 = some v) (F0 : OwR 1 encI 32 2 w0 fp0 fr0 A0 cap0 l0) :
    Calls Try.prog 42 #[.slice A0 (l0).length cap0] w0 fun e w' => ∃ A100 cap100 fp100, e = .returned (.slice A100 (l0).length cap100) ∧ OwR 1 encI 32 2 w' fp100 fr0 A100 cap100 l0 ∧ (∀ x ∈ fp100, w0.heap.size ≤ x) ∧ A100.isNone = false ∧ Chg [] w0 w' := by
  obtain ⟨hs, f, h1, h2⟩ := F0.is
  have hl := h2.len
  have hm : m_slices_Clone_H hs = some hs := by
    unfold m_slices_Clone_H
    rw [apC_ok (by have := apE hk; simp only [List.length_nil] at this ⊢; omega)]
    rfl
  have h := c_slices_Clone_H (cap0 := cap0) hm (h1.sl encH_ok)
  rw [hl] at h
  refine h.mono ?_
  rintro e w' ⟨A, cap, fp, rfl, g1, g2, g3⟩
  have hlow := h2.low
  exact ⟨A, cap, fp, rfl, ⟨⟨hs, f, g1, h2.chg g3 Dj.nil⟩, (Dj.of hlow g2).symm⟩, g2, g1.notnil (by have := neE hn; omega), g3⟩

set_option maxRecDepth 100000 in
/-- impl.chooser).choose$1 -/
theorem c_impl_chooser_choose_1_bint64_bint64 {w0 : World} {p0 : Int} {q1_0 : Int} {b1 : Nat} {q2_0 : Int} {b2 : Nat} {r : (Bool)} (hm : m_impl_chooser_choose_1_bint64_bint64 p0 q1_0 q2_0 = some r) (F1 : Cl w0 b1 2 [.int .i64 (q1_0)]) (F2 : Cl w0 b2 2 [.int .i64 (q2_0)]) :
  Calls Try.prog 45 #[.int .i64 (p0), .pointer (some ⟨b1, 0, none⟩), .pointer (some ⟨b2, 0, none⟩)] w0 fun e w' => e = .returned (.bool (r)) ∧ Chg [] w0 w' := by
 have L1 := lt1 F1.lt
 have L2 := lt1 F2.lt
 have hB : Chg [] w0 w0 := Chg.refl _ _
 have hZ := Nat.le_refl w0.heap.size
 unfold m_impl_chooser_choose_1_bint64_bint64 at hm
 refine enterE (N := 13) Try.func45 (by rfl) Try.ntmps45 (by simp) [(0, .int .i64 (p0)), (1, .pointer (some ⟨b1, 0, none⟩)), (2, .pointer (some ⟨b2, 0, none⟩))] (by rfl) (by kernel_rfl) (fun a => ?_)
 refine cW_seq ?_
 refine cW_region ?_
 refine wS_pure 1 [(4, .bool (false))] (by kernel_rfl) ?_
 refine wS_end (by rfl) ?_
 refine eX_then ?_
 refine cW_seq ?_
 refine cW_region ?_
 refine wS_pure 1 [(5, .int .i64 (p0))] (by kernel_rfl) ?_
 refine wS_load1 (d := 6) (T := 2) (ad := ⟨b1, 0, none⟩) (v := .int .i64 (q1_0)) (by kernel_rfl) vt2 ((F1).cell 0) ?_
 refine wS_pure 2 [(8, .bool (p0 == q1_0)), (7, .bool (p0 == q1_0))] (by kernel_rfl) ?_
 refine wS_bool (p0 == q1_0) (fun hb1 => ?_) (fun hb1 => ?_)
 ·have hm := condT hb1 hm
  rewrite [hb1]
  refine wS_pure 5 [(4, .bool (true)), (12, .bool (true)), (11, undef), (10, undef), (9, undef)] (by kernel_rfl) ?_
  refine wS_end (by rfl) ?_
  refine eX_then ?_
  refine cW_ret ?_
  have hq : (some true : Option ((Bool))) = some _ := hm
  replace hq := someE hq
  subst hq
  refine eX_ret (vs := [.bool (true)]) [.tmp 4] (by rfl) ⟨by (show lkE _ _ _ = _); kernel_rfl, trivial⟩ ?_
  exact ⟨rfl, hB⟩
 ·have hm := condF hb1 hm
  rewrite [hb1]
  refine wS_pure 1 [(9, .int .i64 (p0))] (by kernel_rfl) ?_
  refine wS_load1 (d := 10) (T := 2) (ad := ⟨b2, 0, none⟩) (v := .int .i64 (q2_0)) (by kernel_rfl) vt2 ((F2).cell 0) ?_
  refine wS_pure 3 [(4, .bool (p0 == q2_0)), (12, .bool (p0 == q2_0)), (11, .bool (p0 == q2_0))] (by kernel_rfl) ?_
  refine wS_end (by rfl) ?_
  refine eX_then ?_
  refine cW_ret ?_
  have hq : (some (p0 == q2_0) : Option ((Bool))) = some _ := hm
  replace hq := someE hq
  subst hq
  refine eX_ret (vs := [.bool (p0 == q2_0)]) [.tmp 4] (by rfl) ⟨by (show lkE _ _ _ = _); kernel_rfl, trivial⟩ ?_
  exact ⟨rfl, hB⟩

set_option maxRecDepth 100000 in
/-- slices.IndexFunc[[]int64,int64] -/
theorem c_slices_IndexFunc_int64_int64_impl_chooser_choose_1_bint64_bint64 {w0 : World} {l0 : List (Int)} {A0 : Option Addr} {cap0 : Nat} {fp0 : List Nat} {q1_0_0 : Int} {b1_0 : Nat} {q1_1_0 : Int} {b1_1 : Nat} {r : (Int)} (hm : m_slices_IndexFunc_int64_int64_impl_chooser_choose_1_bint64_bint64 l0 q1_0_0 q1_1_0 = some r) (F0 : Sl 1 encI w0 fp0 A0 l0) (F1_0 : Cl w0 b1_0 2 [.int .i64 (q1_0_0)]) (F1_1 : Cl w0 b1_1 2 [.int .i64 (q1_1_0)]) :
  Calls Try.prog 57 #[.slice A0 (l0).length cap0, .func (.func 45) #[] #[.pointer (some ⟨b1_0, 0, none⟩), .pointer (some ⟨b1_1, 0, none⟩)]] w0 fun e w' => e = .returned (.int .i64 (r)) ∧ Chg [] w0 w' := by
 have L0 := F0.low
 have L1_0 := lt1 F1_0.lt
 have L1_1 := lt1 F1_1.lt
 have hB : Chg [] w0 w0 := Chg.refl _ _
 have hZ := Nat.le_refl w0.heap.size
 unfold m_slices_IndexFunc_int64_int64_impl_chooser_choose_1_bint64_bint64 at hm
 refine enterE (N := 19) Try.func57 (by rfl) Try.ntmps57 (by simp) [(0, .slice A0 (l0).length cap0), (1, .func (.func 45) #[] #[.pointer (some ⟨b1_0, 0, none⟩), .pointer (some ⟨b1_1, 0, none⟩)])] (by rfl) (by kernel_rfl) (fun a => ?_)
 refine cW_seq ?_
 refine cW_region ?_
 refine wS_pure 1 [(4, .int .i64 (0))] (by kernel_rfl) ?_
 refine wS_end (by rfl) ?_
 refine eX_then ?_
 refine cW_seq ?_
 refine cW_seq ?_
 refine cW_region ?_
 refine wS_pure 3 [(8, .int .i64 (0)), (7, .int .i64 (((l0).length : Int))), (6, .slice A0 (l0).length cap0)] (by kernel_rfl) ?_
 refine wS_end (by rfl) ?_
 refine eX_then ?_
 obtain ⟨r1, hr1, hm⟩ := bindE hm
 have hm1 := hm
 refine cW_cut (fun a' w' => Sum.inl (()) = r1 ∧ Fr 19 [] a' ∧ Chg [] w0 w' ∧ w0.heap.size ≤ w'.heap.size) ?_ ?_
 ·refine cW_block ?_
  refine cW_loop _ (fun (s1 : Int) a' w' => ∃ x1 : Int, x1 = s1 ∧ Fr 19 [(0, .slice A0 (l0).length cap0), (1, .func (.func 45) #[] #[.pointer (some ⟨b1_0, 0, none⟩), .pointer (some ⟨b1_1, 0, none⟩)]), (7, .int .i64 (((l0).length : Int))), (8, .int .i64 (x1))] a' ∧ Sl 1 encI w' fp0 A0 l0 ∧ Cl w' b1_0 2 [.int .i64 (q1_0_0)] ∧ Cl w' b1_1 2 [.int .i64 (q1_1_0)] ∧ Chg [] w0 w' ∧ w0.heap.size ≤ w'.heap.size) hr1 (fun hst => ⟨0, rfl, Fr.of hst (by kernel_rfl), F0, F1_0, F1_1, hB, hZ⟩) ?_
  rintro _ c1 a' w1 ⟨x1, rfl, hF1, F1, F2, F3, hB, hZ⟩ hx1
  refine Fr.goOn hF1 (by kernel_rfl) ?_
  have hm := hx1
  unfold m_slices_IndexFunc_int64_int64_impl_chooser_choose_1_bint64_bint64_s1 at hm
  refine cW_seq ?_
  refine cW_region ?_
  refine wS_pure 1 [(9, .bool (decide (x1 < (((l0).length : Int)))))] (by kernel_rfl) ?_
  refine wS_end (by rfl) ?_
  refine eX_then ?_
  refine cW_seq ?_
  refine cW_cond (t := decide (x1 < (((l0).length : Int)))) (by kernel_rfl) (fun hb1 => ?_) (fun hb1 => ?_)
  ·have hm := condT hb1 hm
   refine cW_skip ?_
   refine eX_then ?_
   refine cW_seq ?_
   refine cW_block ?_
   refine cW_seq ?_
   refine cW_region ?_
   refine wS_pure 2 [(5, .int .i64 (x1)), (10, .int .i64 (x1))] (by kernel_rfl) ?_
   refine wS_end (by rfl) ?_
   refine eX_then ?_
   refine cW_seq ?_
   refine cW_region ?_
   refine wS_pure 3 [(13, .int .i64 (x1)), (12, .slice A0 (l0).length cap0), (11, .func (.func 45) #[] #[.pointer (some ⟨b1_0, 0, none⟩), .pointer (some ⟨b1_1, 0, none⟩)])] (by kernel_rfl) ?_
   obtain ⟨x2, hx2, hm⟩ := bindE hm
   refine wS_idx (d := 14) (T := 32) (A := A0) (n := (l0).length) (cap := cap0) (kd := .i64) (m := x1) (by kernel_rfl) sl32 (F1.is hx2) ?_
   refine wS_load1 (d := 15) (T := 2) (ad := (elA A0 1 (x1) 0)) (v := .int .i64 (x2)) (by kernel_rfl) vt2 (Sl.cell F1 hx2 0 (by rfl)) ?_
   obtain ⟨y1, hy1, hm⟩ := bindE hm
   refine wS_calls (d := 16) (f := 45) (vs := [.int .i64 (x2), .pointer (some ⟨b1_0, 0, none⟩), .pointer (some ⟨b1_1, 0, none⟩)]) (by kernel_rfl) ent45 (c_impl_chooser_choose_1_bint64_bint64 hy1 F2 F3) ?_
   rintro _ w2 ⟨rfl, hc1⟩
   replace F1 := F1.chg hc1 Dj.nil
   replace F2 := F2.chg hc1 notNil
   replace F3 := F3.chg hc1 notNil
   replace hB := hB.inS hc1 inNil
   replace hZ := Nat.le_trans hZ hc1.size
   refine ⟨.bool (y1), rfl, ?_⟩
   refine wS_end (by rfl) ?_
   refine eX_then ?_
   refine cW_cond (t := y1) (by kernel_rfl) (fun hb2 => ?_) (fun hb2 => ?_)
   ·have hm := condT hb2 hm
    refine cW_seq ?_
    refine cW_region ?_
    refine wS_pure 2 [(4, .int .i64 (x1)), (17, .int .i64 (x1))] (by kernel_rfl) ?_
    refine wS_end (by rfl) ?_
    refine eX_then ?_
    refine cW_ret ?_
    refine eX_block_ret ?_
    refine eX_then_ret ?_
    have hq : (some (Ctl.out (Sum.inr x1)) : Option (Ctl (Int) (Sum (Unit) ((Int))))) = some _ := hm
    replace hq := someE hq
    subst hq
    refine eX_outR hx1 (fun hr => ?_)
    subst hr
    refine eX_block_ret ?_
    refine eX_then_ret ?_
    refine eX_then_ret ?_
    have hq : (some x1 : Option ((Int))) = some _ := hm1
    replace hq := someE hq
    subst hq
    refine eX_ret (vs := [.int .i64 (x1)]) [.tmp 4] (by rfl) ⟨by (show lkE _ _ _ = _); kernel_rfl, trivial⟩ ?_
    exact ⟨rfl, hB⟩
   ·have hm := condF hb2 hm
    refine cW_skip ?_
    refine eX_block ?_
    refine eX_then ?_
    refine cW_region ?_
    refine wS_pure 2 [(8, .int .i64 (wr (x1 + 1))), (18, .int .i64 (wr (x1 + 1)))] (by kernel_rfl) ?_
    refine wS_end (by rfl) ?_
    have hq : (some (Ctl.next (wr (x1 + 1))) : Option (Ctl (Int) (Sum (Unit) ((Int))))) = some _ := hm
    replace hq := someE hq
    subst hq
    exact eX_next hx1 (fun hst => ⟨wr (x1 + 1), rfl, Fr.of hst (by kernel_rfl), F1, F2, F3, hB, hZ⟩)
  ·have hm := condF hb1 hm
   refine cW_exit ?_
   refine eX_then_exit ?_
   have hq : (some (Ctl.out (Sum.inl (()))) : Option (Ctl (Int) (Sum (Unit) ((Int))))) = some _ := hm
   replace hq := someE hq
   subst hq
   refine eX_outX hx1 (fun hr2 => ?_)
   replace hr2 := hr2.symm
   subst hr2
   refine eX_block_hit ?_
   exact eX_J (fun hst => ⟨rfl, Fr.of hst (by kernel_rfl), hB, hZ⟩)
 ·rintro a' w3 ⟨hJ, hF2, hB, hZ⟩
  subst hJ
  refine Fr.goX hF2 (by kernel_rfl) ?_
  refine eX_then ?_
  refine cW_seq ?_
  refine cW_region ?_
  refine wS_pure 1 [(4, .int .i64 ((-1)))] (by kernel_rfl) ?_
  refine wS_end (by rfl) ?_
  refine eX_then ?_
  refine cW_ret ?_
  have hq : (some ((-1)) : Option ((Int))) = some _ := hm
  replace hq := someE hq
  subst hq
  refine eX_ret (vs := [.int .i64 ((-1))]) [.tmp 4] (by rfl) ⟨by (show lkE _ _ _ = _); kernel_rfl, trivial⟩ ?_
  exact ⟨rfl, hB⟩

set_option maxRecDepth 100000 in
/-- slices.DeleteFunc[[]int64,int64] -/
theorem c_slices_DeleteFunc_int64_int64_impl_chooser_choose_1_bint64_bint64 {w0 : World} {l0 : List (Int)} {A0 : Option Addr} {cap0 : Nat} {fp0 : List Nat} {q1_0_0 : Int} {b1_0 : Nat} {q1_1_0 : Int} {b1_1 : Nat} {r : (List (Int))} (hm : m_slices_DeleteFunc_int64_int64_impl_chooser_choose_1_bint64_bint64 l0 q1_0_0 q1_1_0 = some r) (F0 : Ow 1 encI 2 w0 fp0 A0 cap0 l0) (K0 : (l0).length ≤ cap0) (F1_0 : Cl w0 b1_0 2 [.int .i64 (q1_0_0)]) (F1_1 : Cl w0 b1_1 2 [.int .i64 (q1_1_0)]) (J0__1_0 : Dj fp0 [b1_0]) (J0__1_1 : Dj fp0 [b1_1]) :
  Calls Try.prog 43 #[.slice A0 (l0).length cap0, .func (.func 45) #[] #[.pointer (some ⟨b1_0, 0, none⟩), .pointer (some ⟨b1_1, 0, none⟩)]] w0 fun e w' => e = .returned (.slice A0 (r).length cap0) ∧ Ow 1 encI 2 w' fp0 A0 cap0 r ∧ Chg (fp0 ++ []) w0 w' := by
 have L0 := F0.low
 have L1_0 := lt1 F1_0.lt
 have L1_1 := lt1 F1_1.lt
 have hB : Chg (fp0 ++ []) w0 w0 := Chg.refl _ _
 have hZ := Nat.le_refl w0.heap.size
 unfold m_slices_DeleteFunc_int64_int64_impl_chooser_choose_1_bint64_bint64 at hm
 refine enterE (N := 42) Try.func43 (by rfl) Try.ntmps43 (by simp) [(0, .slice A0 (l0).length cap0), (1, .func (.func 45) #[] #[.pointer (some ⟨b1_0, 0, none⟩), .pointer (some ⟨b1_1, 0, none⟩)])] (by rfl) (by kernel_rfl) (fun a => ?_)
 refine cW_seq ?_
 refine cW_region ?_
 refine wS_pure 1 [(4, .slice none 0 0)] (by kernel_rfl) ?_
 refine wS_end (by rfl) ?_
 refine eX_then ?_
 refine cW_seq ?_
 refine cW_region ?_
 refine wS_pure 2 [(9, .func (.func 45) #[] #[.pointer (some ⟨b1_0, 0, none⟩), .pointer (some ⟨b1_1, 0, none⟩)]), (8, .slice A0 (l0).length cap0)] (by kernel_rfl) ?_
 obtain ⟨y1, hy1, hm⟩ := bindE hm
 refine wS_calls (d := 10) (f := 57) (vs := [.slice A0 (l0).length cap0, .func (.func 45) #[] #[.pointer (some ⟨b1_0, 0, none⟩), .pointer (some ⟨b1_1, 0, none⟩)]]) (by kernel_rfl) ent57 (c_slices_IndexFunc_int64_int64_impl_chooser_choose_1_bint64_bint64 hy1 (F0.sl encI_ok) F1_0 F1_1) ?_
 rintro _ w1 ⟨rfl, hc1⟩
 replace F0 := F0.chg hc1 Dj.nil
 replace F1_0 := F1_0.chg hc1 notNil
 replace F1_1 := F1_1.chg hc1 notNil
 replace hB := hB.inS hc1 inNil
 replace hZ := Nat.le_trans hZ hc1.size
 refine ⟨.int .i64 (y1), rfl, ?_⟩
 refine wS_pure 1 [(5, .int .i64 (y1))] (by kernel_rfl) ?_
 refine wS_end (by rfl) ?_
 refine eX_then ?_
 refine cW_seq ?_
 refine cW_seq ?_
 refine cW_region ?_
 refine wS_pure 2 [(12, .bool (y1 == ((-1)))), (11, .int .i64 (y1))] (by kernel_rfl) ?_
 refine wS_end (by rfl) ?_
 refine eX_then ?_
 refine cW_cond (t := y1 == ((-1))) (by kernel_rfl) (fun hb1 => ?_) (fun hb1 => ?_)
 ·have hm := condT hb1 hm
  refine cW_seq ?_
  refine cW_region ?_
  refine wS_pure 2 [(4, .slice A0 (l0).length cap0), (13, .slice A0 (l0).length cap0)] (by kernel_rfl) ?_
  refine wS_end (by rfl) ?_
  refine eX_then ?_
  refine cW_ret ?_
  refine eX_then_ret ?_
  have hq : (some l0 : Option ((List (Int)))) = some _ := hm
  replace hq := someE hq
  subst hq
  refine eX_ret (vs := [.slice A0 (l0).length cap0]) [.tmp 4] (by rfl) ⟨by (show lkE _ _ _ = _); kernel_rfl, trivial⟩ ?_
  exact ⟨rfl, F0, hB⟩
 ·have hm := condF hb1 hm
  refine cW_skip ?_
  refine eX_then ?_
  refine cW_seq ?_
  refine cW_seq ?_
  refine cW_region ?_
  refine wS_pure 3 [(6, .int .i64 (wr (y1 + 1))), (15, .int .i64 (wr (y1 + 1))), (14, .int .i64 (y1))] (by kernel_rfl) ?_
  refine wS_end (by rfl) ?_
  refine eX_then ?_
  obtain ⟨r1, hr1, hm⟩ := bindE hm
  have hm1 := hm
  refine cW_cut (fun a' w' => ∃ x1 : Int, ∃ l1 : List (Int), (x1, l1) = r1 ∧ Fr 42 [(0, .slice A0 (l1).length cap0), (5, .int .i64 (x1))] a' ∧ Ow 1 encI 2 w' fp0 A0 cap0 l1 ∧ (l1).length = (l0).length ∧ Chg (fp0 ++ []) w0 w' ∧ w0.heap.size ≤ w'.heap.size) ?_ ?_
  ·refine cW_block ?_
   refine cW_loop _ (fun (s1 : Int × Int × (List (Int))) a' w' => ∃ x2 : Int, ∃ x3 : Int, ∃ l2 : List (Int), (x2, x3, l2) = s1 ∧ Fr 42 [(0, .slice A0 (l2).length cap0), (1, .func (.func 45) #[] #[.pointer (some ⟨b1_0, 0, none⟩), .pointer (some ⟨b1_1, 0, none⟩)]), (5, .int .i64 (x2)), (6, .int .i64 (x3))] a' ∧ Ow 1 encI 2 w' fp0 A0 cap0 l2 ∧ Cl w' b1_0 2 [.int .i64 (q1_0_0)] ∧ Cl w' b1_1 2 [.int .i64 (q1_1_0)] ∧ (l2).length = (l0).length ∧ Chg (fp0 ++ []) w0 w' ∧ w0.heap.size ≤ w'.heap.size) hr1 (fun hst => ⟨y1, wr (y1 + 1), l0, rfl, Fr.of hst (by kernel_rfl), F0, F1_0, F1_1, (Eq.refl (l0).length), hB, hZ⟩) ?_
   rintro _ c1 a' w2 ⟨x2, x3, l2, rfl, hF1, F1, F2, F3, hl1, hB, hZ⟩ hx1
   refine Fr.goOn hF1 (by kernel_rfl) ?_
   have hm := hx1
   unfold m_slices_DeleteFunc_int64_int64_impl_chooser_choose_1_bint64_bint64_s1 at hm
   refine cW_seq ?_
   refine cW_seq ?_
   refine cW_region ?_
   refine wS_pure 4 [(19, .bool (decide (x3 < (((l2).length : Int))))), (18, .int .i64 (((l2).length : Int))), (17, .slice A0 (l2).length cap0), (16, .int .i64 (x3))] (by kernel_rfl) ?_
   refine wS_end (by rfl) ?_
   refine eX_then ?_
   refine cW_cond (t := decide (x3 < (((l2).length : Int)))) (by kernel_rfl) (fun hb2 => ?_) (fun hb2 => ?_)
   ·have hm := condT hb2 hm
    refine cW_skip ?_
    refine eX_then ?_
    refine cW_seq ?_
    refine cW_block ?_
    obtain ⟨s2, hs1, hm⟩ := bindE hm
    refine cW_cut (fun a' w' => ∃ x4 : Int, ∃ l3 : List (Int), (x4, l3) = s2 ∧ Fr 42 [(0, .slice A0 (l3).length cap0), (1, .func (.func 45) #[] #[.pointer (some ⟨b1_0, 0, none⟩), .pointer (some ⟨b1_1, 0, none⟩)]), (5, .int .i64 (x4)), (6, .int .i64 (x3))] a' ∧ Ow 1 encI 2 w' fp0 A0 cap0 l3 ∧ Cl w' b1_0 2 [.int .i64 (q1_0_0)] ∧ Cl w' b1_1 2 [.int .i64 (q1_1_0)] ∧ (l3).length = (l0).length ∧ Chg (fp0 ++ []) w0 w' ∧ w0.heap.size ≤ w'.heap.size) ?_ ?_
    ·have hm := hs1
     refine cW_seq ?_
     refine cW_region ?_
     refine wS_pure 2 [(23, .int .i64 (x3)), (22, .slice A0 (l2).length cap0)] (by kernel_rfl) ?_
     obtain ⟨x5, hx2, hm⟩ := bindE hm
     refine wS_idx (d := 24) (T := 32) (A := A0) (n := (l2).length) (cap := cap0) (kd := .i64) (m := x3) (by kernel_rfl) sl32 ((F1.sl encI_ok).is hx2) ?_
     refine wS_load1 (d := 25) (T := 2) (ad := (elA A0 1 (x3) 0)) (v := .int .i64 (x5)) (by kernel_rfl) vt2 (Sl.cell (F1.sl encI_ok) hx2 0 (by rfl)) ?_
     refine wS_pure 1 [(7, .int .i64 (x5))] (by kernel_rfl) ?_
     refine wS_end (by rfl) ?_
     refine eX_then ?_
     refine cW_seq ?_
     refine cW_region ?_
     refine wS_pure 2 [(27, .int .i64 (x5)), (26, .func (.func 45) #[] #[.pointer (some ⟨b1_0, 0, none⟩), .pointer (some ⟨b1_1, 0, none⟩)])] (by kernel_rfl) ?_
     obtain ⟨y2, hy2, hm⟩ := bindE hm
     refine wS_calls (d := 28) (f := 45) (vs := [.int .i64 (x5), .pointer (some ⟨b1_0, 0, none⟩), .pointer (some ⟨b1_1, 0, none⟩)]) (by kernel_rfl) ent45 (c_impl_chooser_choose_1_bint64_bint64 hy2 F2 F3) ?_
     rintro _ w3 ⟨rfl, hc2⟩
     replace F1 := F1.chg hc2 Dj.nil
     replace F2 := F2.chg hc2 notNil
     replace F3 := F3.chg hc2 notNil
     replace hB := hB.inS hc2 inNil
     replace hZ := Nat.le_trans hZ hc2.size
     refine ⟨.bool (y2), rfl, ?_⟩
     refine wS_pure 1 [(29, .bool (!y2))] (by kernel_rfl) ?_
     refine wS_end (by rfl) ?_
     refine eX_then ?_
     refine cW_cond (t := !y2) (by kernel_rfl) (fun hb3 => ?_) (fun hb3 => ?_)
     ·have hm := condT hb3 hm
      refine cW_seq ?_
      refine cW_region ?_
      refine wS_pure 3 [(32, .int .i64 (x5)), (31, .int .i64 (x2)), (30, .slice A0 (l2).length cap0)] (by kernel_rfl) ?_
      obtain ⟨x6, hx3, hm⟩ := bindE hm
      refine wS_idx (d := 33) (T := 32) (A := A0) (n := (l2).length) (cap := cap0) (kd := .i64) (m := x2) (by kernel_rfl) sl32 ((F1.sl encI_ok).is hx3) ?_
      refine wS_storeEl (x := x6) x5 (T := 2) (U := 2) (cap := cap0) (j := 0) (A := A0) (v := .int .i64 (x5)) (vs := [.int .i64 (x5)]) (m := x2) (by kernel_rfl) (by rfl) sz2 (by rfl) encI_ok F1 hx3 (by simp only [List.length_cons, List.length_nil]; omega) (by rfl) ?_
      intro w4 F4 hc3
      replace F2 := F2.chg hc3 (dj1 (J0__1_0).symm)
      replace F3 := F3.chg hc3 (dj1 (J0__1_1).symm)
      replace hB := hB.inS hc3 (inMem (fun x hx => (List.mem_append_left _ hx)))
      replace hZ := Nat.le_trans hZ hc3.size
      clear F1
      have hl2 := (show (l2.set (Int.toNat x2) x5).length = (l2).length from List.length_set ..).trans hl1
      rewrite [show (l2).length = (l2.set (Int.toNat x2) x5).length from (List.length_set ..).symm]
      refine wS_end (by rfl) ?_
      refine eX_then ?_
      refine cW_region ?_
      refine wS_pure 3 [(5, .int .i64 (wr (x2 + 1))), (35, .int .i64 (wr (x2 + 1))), (34, .int .i64 (x2))] (by kernel_rfl) ?_
      refine wS_end (by rfl) ?_
      have hq : (some ((wr (x2 + 1), l2.set (Int.toNat x2) x5)) : Option (Int × (List (Int)))) = some _ := hm
      replace hq := someE hq
      subst hq
      exact eX_J (fun hst => ⟨wr (x2 + 1), l2.set (Int.toNat x2) x5, rfl, Fr.of hst (by kernel_rfl), F4, F2, F3, hl2, hB, hZ⟩)
     ·have hm := condF hb3 hm
      refine cW_skip ?_
      have hq : (some ((x2, l2)) : Option (Int × (List (Int)))) = some _ := hm
      replace hq := someE hq
      subst hq
      exact eX_J (fun hst => ⟨x2, l2, rfl, Fr.of hst (by kernel_rfl), F1, F2, F3, hl1, hB, hZ⟩)
    ·rintro a' w5 ⟨x4, l3, hJ, hF2, F5, F6, F7, hl3, hB, hZ⟩
     subst hJ
     refine Fr.goX hF2 (by kernel_rfl) ?_
     refine eX_block ?_
     refine eX_then ?_
     refine cW_region ?_
     refine wS_pure 3 [(6, .int .i64 (wr (x3 + 1))), (21, .int .i64 (wr (x3 + 1))), (20, .int .i64 (x3))] (by kernel_rfl) ?_
     refine wS_end (by rfl) ?_
     have hq : (some (Ctl.next ((x4, wr (x3 + 1), l3))) : Option (Ctl (Int × Int × (List (Int))) (Int × (List (Int))))) = some _ := hm
     replace hq := someE hq
     subst hq
     exact eX_next hx1 (fun hst => ⟨x4, wr (x3 + 1), l3, rfl, Fr.of hst (by kernel_rfl), F5, F6, F7, hl3, hB, hZ⟩)
   ·have hm := condF hb2 hm
    refine cW_exit ?_
    refine eX_then_exit ?_
    have hq : (some (Ctl.out ((x2, l2))) : Option (Ctl (Int × Int × (List (Int))) (Int × (List (Int))))) = some _ := hm
    replace hq := someE hq
    subst hq
    refine eX_outX hx1 (fun hr2 => ?_)
    replace hr2 := hr2.symm
    subst hr2
    refine eX_block_hit ?_
    exact eX_J (fun hst => ⟨x2, l2, rfl, Fr.of hst (by kernel_rfl), F1, hl1, hB, hZ⟩)
  ·rintro a' w6 ⟨x1, l1, hJ, hF3, F8, hl4, hB, hZ⟩
   subst hJ
   refine Fr.goX hF3 (by kernel_rfl) ?_
   refine eX_then ?_
   refine cW_seq ?_
   refine cW_region ?_
   refine wS_pure 2 [(37, .int .i64 (x1)), (36, .slice A0 (l1).length cap0)] (by kernel_rfl) ?_
   obtain ⟨y3, hy3, hm⟩ := bindE hm
   refine wS_cutA (enc := encI) (l := l1) (d := 38) (T := 32) (A := A0) (cap := cap0) (vlo := some (.int .i64 (x1))) (vhi := none) (lo := x1) (hi := ((l1).length : Int)) (n := 0) (by kernel_rfl) sl32 (Or.inl rfl) (Or.inr ⟨rfl, rfl⟩) (F8.sl encI_ok) F8.cap_le hy3 ?_
   intro A1 cap1 hA1 F9 hcap1
   obtain rfl := slci_slc hy3
   have hcz1 := F8.cap_le
   refine wS_clear (A' := A1) (c' := cap1) (x0 := (0 : Int)) (l := l1) (l0 := l1) (T := 32) (A := A0) (cap := cap0) (lo := x1) (by kernel_rfl) el32 encI_ok (by rfl) (by kernel_rfl) F8 hA1 hy3 rfl ?_
   intro w7 F10 hlc1 hc4
   replace hB := hB.inS hc4 (inMem (fun x hx => (List.mem_append_left _ hx)))
   replace hZ := Nat.le_trans hZ hc4.size
   clear F8
   have hl5 := hlc1.trans hl4
   rewrite [show (l1).length = (clr (0 : Int) l1 x1).length from hlc1.symm]
   refine wS_end (by rfl) ?_
   refine eX_then ?_
   refine cW_seq ?_
   refine cW_region ?_
   refine wS_pure 2 [(40, .int .i64 (x1)), (39, .slice A0 (clr (0 : Int) l1 x1).length cap0)] (by kernel_rfl) ?_
   obtain ⟨y4, hy4, hm⟩ := bindE hm
   refine wS_prefix (k := 1) (enc := encI) (U := 2) (l := clr (0 : Int) l1 x1) (d := 41) (T := 32) (A := A0) (cap := cap0) (hi := x1) (by kernel_rfl) sl32 encI_ok F10 F10.cap_le hy4 ?_
   intro hpe F11
   subst hpe
   refine wS_pure 1 [(4, .slice A0 ((clr (0 : Int) l1 x1).take (Int.toNat x1)).length cap0)] (by kernel_rfl) ?_
   refine wS_end (by rfl) ?_
   refine eX_then ?_
   refine cW_ret ?_
   have hq : (some ((clr (0 : Int) l1 x1).take (Int.toNat x1)) : Option ((List (Int)))) = some _ := hm
   replace hq := someE hq
   subst hq
   refine eX_ret (vs := [.slice A0 ((clr (0 : Int) l1 x1).take (Int.toNat x1)).length cap0]) [.tmp 4] (by rfl) ⟨by (show lkE _ _ _ = _); kernel_rfl, trivial⟩ ?_
   exact ⟨rfl, F11, hB⟩

end Go.Proofs.Ytfjpfomdoohabaa
