/- Printed walks: impl.in, slices.Grow[[]int64,int64], slices.Concat[[]int64,int64], impl.ValidChannel, slices.Index[[]int64,int64], slices.Contains[[]int64,int64], impl.newOrder, (impl.order).fewest$1, (impl.order).first$1, (impl.order).first, (impl.order).fewest, (impl.order).best$1, (impl.order).first$1, (impl.order).first. -/
import Derived.Test.YtbfjekmefcpkmaaDoorProg
import Derived.Test.YtbfjekmefcpkmaaDoorMod
import Derived.Test.YtbfjekmefcpkmaaDoorEqs
import Derived.Test.YtbfjekmefcpkmaaDoorCtzC
set_option linter.unusedSimpArgs false
set_option linter.unusedVariables false
namespace Go.Proofs.YtbfjekmefcpkmaaDoor
open Go.RowKit
attribute [local irreducible] wS cW eX wH

theorem ent75 : Ent Tryd.prog 75 := fun _ => by kernel_rfl
theorem ent76 : Ent Tryd.prog 76 := fun _ => by kernel_rfl
theorem ent78 : Ent Tryd.prog 78 := fun _ => by kernel_rfl
theorem ent79 : Ent Tryd.prog 79 := fun _ => by kernel_rfl
theorem ent80 : Ent Tryd.prog 80 := fun _ => by kernel_rfl
theorem ent93 : Ent Tryd.prog 93 := fun _ => by kernel_rfl
theorem ent101 : Ent Tryd.prog 101 := fun _ => by kernel_rfl
theorem ent102 : Ent Tryd.prog 102 := fun _ => by kernel_rfl
theorem ent103 : Ent Tryd.prog 103 := fun _ => by kernel_rfl
theorem vt2 : VarTy Tryd.prog 2 1 false := ⟨by kernel_rfl, by kernel_rfl⟩
theorem vt3 : VarTy Tryd.prog 3 1 false := ⟨by kernel_rfl, by kernel_rfl⟩
theorem vt24 : VarTy Tryd.prog 24 1 false := ⟨by kernel_rfl, by kernel_rfl⟩
theorem vt56 : VarTy Tryd.prog 56 1 false := ⟨by kernel_rfl, by kernel_rfl⟩
theorem vt58 : VarTy Tryd.prog 58 2 true := ⟨by kernel_rfl, by kernel_rfl⟩
theorem vt105 : VarTy Tryd.prog 105 1 false := ⟨by kernel_rfl, by kernel_rfl⟩
theorem vt108 : VarTy Tryd.prog 108 1 false := ⟨by kernel_rfl, by kernel_rfl⟩
theorem vt127 : VarTy Tryd.prog 127 1 false := ⟨by kernel_rfl, by kernel_rfl⟩
theorem sl24 : SlTy Tryd.prog 24 2 1 := ⟨Tryd.underlying24, by kernel_rfl⟩
theorem sl28 : SlTy Tryd.prog 28 24 1 := ⟨Tryd.underlying28, by kernel_rfl⟩
theorem sl56 : SlTy Tryd.prog 56 3 1 := ⟨Tryd.underlying56, by kernel_rfl⟩
theorem el24 : ElTy Tryd.prog 24 2 1 (.int .i64 (0)) := ElTy.mk' Tryd.underlying24 (by kernel_rfl) (by rfl)
theorem el28 : ElTy Tryd.prog 28 24 1 (.slice none 0 0) := ElTy.mk' Tryd.underlying28 (by kernel_rfl) (by rfl)
theorem el56 : ElTy Tryd.prog 56 3 1 (.int .i64 (0)) := ElTy.mk' Tryd.underlying56 (by kernel_rfl) (by rfl)
theorem mk102 : MK Tryd.prog 2 kI okI := mkI Tryd.underlying2
theorem mp102 : MpTy Tryd.prog 102 2 3 (kI 0) := ⟨Tryd.underlying102, by kernel_rfl⟩
theorem mk105 : MK Tryd.prog 3 kI okI := mkI Tryd.underlying3
theorem mp105 : MpTy Tryd.prog 105 3 3 (kI 0) := ⟨Tryd.underlying105, by kernel_rfl⟩
theorem ity3 : Tryd.prog.underlying 3 = some (.int .i64) := Tryd.underlying3
theorem sz3 : pureRun Tryd.prog (sizeOf 3) = some 1 := by kernel_rfl
theorem sz56 : pureRun Tryd.prog (sizeOf 56) = some 1 := by kernel_rfl
theorem sz58 : pureRun Tryd.prog (sizeOf 58) = some 2 := by kernel_rfl
theorem sz127 : pureRun Tryd.prog (sizeOf 127) = some 1 := by kernel_rfl

set_option maxRecDepth 100000 in
/-- impl.in -/
theorem c_impl_in {w0 : World} {p0 : Int} {p1 : Int} {p2 : Int} {r : (Bool)} (hm : m_impl_in p0 p1 p2 = some r)  :
  Calls Tryd.prog 75 #[.int .i64 (p0), .int .i64 (p1), .int .i64 (p2)] w0 fun e w' => e = .returned (.bool (r)) ∧ Chg [] w0 w' := by
 have hB : Chg [] w0 w0 := Chg.refl _ _
 have hZ := Nat.le_refl w0.heap.size
 unfold m_impl_in at hm
 refine enterE (N := 15) Tryd.func75 (by rfl) Tryd.ntmps75 (by simp) [(0, .int .i64 (p0)), (1, .int .i64 (p1)), (2, .int .i64 (p2))] (by rfl) (by kernel_rfl) (fun a => ?_)
 refine cW_seq ?_
 refine cW_region ?_
 refine wS_pure 1 [(6, .bool (false))] (by kernel_rfl) ?_
 refine wS_end (by rfl) ?_
 refine eX_then ?_
 refine cW_seq ?_
 refine cW_region ?_
 refine wS_pure 4 [(10, .bool (decide (p0 ≥ p1))), (9, .bool (decide (p0 ≥ p1))), (8, .int .i64 (p1)), (7, .int .i64 (p0))] (by kernel_rfl) ?_
 refine wS_bool (decide (p0 ≥ p1)) (fun hb1 => ?_) (fun hb1 => ?_)
 ·have hm := condT hb1 hm
  rewrite [hb1]
  refine wS_pure 5 [(6, .bool (decide (p0 ≤ p2))), (14, .bool (decide (p0 ≤ p2))), (13, .bool (decide (p0 ≤ p2))), (12, .int .i64 (p2)), (11, .int .i64 (p0))] (by kernel_rfl) ?_
  refine wS_end (by rfl) ?_
  refine eX_then ?_
  refine cW_ret ?_
  have hq : (some (decide (p0 ≤ p2)) : Option ((Bool))) = some _ := hm
  replace hq := someE hq
  subst hq
  refine eX_ret (vs := [.bool (decide (p0 ≤ p2))]) [.tmp 6] (by rfl) ⟨by (show lkE _ _ _ = _); kernel_rfl, trivial⟩ ?_
  exact ⟨rfl, hB⟩
 ·have hm := condF hb1 hm
  rewrite [hb1]
  refine wS_pure 5 [(6, .bool (false)), (14, .bool (false)), (13, undef), (12, undef), (11, undef)] (by kernel_rfl) ?_
  refine wS_end (by rfl) ?_
  refine eX_then ?_
  refine cW_ret ?_
  have hq : (some false : Option ((Bool))) = some _ := hm
  replace hq := someE hq
  subst hq
  refine eX_ret (vs := [.bool (false)]) [.tmp 6] (by rfl) ⟨by (show lkE _ _ _ = _); kernel_rfl, trivial⟩ ?_
  exact ⟨rfl, hB⟩

set_option maxRecDepth 100000 in
/-- slices.Grow[[]int64,int64] -/
theorem c_slices_Grow_int64_int64_nil {w0 : World} {p1 : Int} {r : (List (Int))} (hm : m_slices_Grow_int64_int64_nil p1 = some r)  :
  Calls Tryd.prog 101 #[.slice none 0 0, .int .i64 (p1)] w0 fun e w' => ∃ A100 cap100 fp100, e = .returned (.slice A100 (r).length cap100) ∧ Ow 1 encI 2 w' fp100 A100 cap100 r ∧ (∀ x ∈ fp100, w0.heap.size ≤ x) ∧ Chg [] w0 w' := by
 have hB : Chg [] w0 w0 := Chg.refl _ _
 have hZ := Nat.le_refl w0.heap.size
 unfold m_slices_Grow_int64_int64_nil at hm
 refine enterE (N := 27) Tryd.func101 (by rfl) Tryd.ntmps101 (by simp) [(0, .slice none 0 0), (1, .int .i64 (p1))] (by rfl) (by kernel_rfl) (fun a => ?_)
 refine cW_seq ?_
 refine cW_region ?_
 refine wS_pure 1 [(4, .slice none 0 0)] (by kernel_rfl) ?_
 refine wS_end (by rfl) ?_
 refine eX_then ?_
 refine cW_seq ?_
 obtain ⟨s1, hs1, hm⟩ := bindE hm
 refine cW_cut (fun a' w' => () = s1 ∧ Fr 27 [(0, .slice none 0 0), (1, .int .i64 (p1))] a' ∧ Chg [] w0 w' ∧ w0.heap.size ≤ w'.heap.size) ?_ ?_
 ·have hm := hs1
  refine cW_seq ?_
  refine cW_region ?_
  refine wS_pure 2 [(6, .bool (decide (p1 < 0))), (5, .int .i64 (p1))] (by kernel_rfl) ?_
  refine wS_end (by rfl) ?_
  refine eX_then ?_
  refine cW_cond (t := decide (p1 < 0)) (by kernel_rfl) (fun hb1 => ?_) (fun hb1 => ?_)
  ·have hm := condT hb1 hm
   refine cW_region ?_
   exact noneE hm
  ·have hm := condF hb1 hm
   refine cW_skip ?_
   have hq : (some (()) : Option (Unit)) = some _ := hm
   replace hq := someE hq
   subst hq
   exact eX_J (fun hst => ⟨rfl, Fr.of hst (by kernel_rfl), hB, hZ⟩)
 ·rintro a' w1 ⟨hJ, hF1, hB, hZ⟩
  subst hJ
  refine Fr.goX hF1 (by kernel_rfl) ?_
  refine eX_then ?_
  refine cW_seq ?_
  obtain ⟨s2, hs2, hm⟩ := bindE hm
  refine cW_cut (fun a' w' => ∃ l1 : List (Int), ∃ A1 : Option Addr, ∃ cap1 : Nat, ∃ fp1 : List Nat, l1 = s2 ∧ Fr 27 [(0, .slice A1 (l1).length cap1)] a' ∧ Ow 1 encI 2 w' fp1 A1 cap1 l1 ∧ (∀ x ∈ fp1, w0.heap.size ≤ x) ∧ Chg [] w0 w' ∧ w0.heap.size ≤ w'.heap.size) ?_ ?_
  ·have hm := hs2
   refine cW_seq ?_
   refine cW_region ?_
   refine wS_pure 8 [(1, .int .i64 (wr (p1 - (wr (0 - 0))))), (14, .int .i64 (wr (p1 - (wr (0 - 0))))), (13, .int .i64 (wr (0 - 0))), (12, .int .i64 (0)), (11, .slice none 0 0), (10, .int .i64 (0)), (9, .slice none 0 0), (8, .int .i64 (p1))] (by kernel_rfl) ?_
   refine wS_end (by rfl) ?_
   refine eX_then ?_
   refine cW_seq ?_
   refine cW_region ?_
   refine wS_pure 2 [(16, .bool (decide ((wr (p1 - (wr (0 - 0)))) > 0))), (15, .int .i64 (wr (p1 - (wr (0 - 0)))))] (by kernel_rfl) ?_
   refine wS_end (by rfl) ?_
   refine eX_then ?_
   refine cW_cond (t := decide ((wr (p1 - (wr (0 - 0)))) > 0)) (by kernel_rfl) (fun hb2 => ?_) (fun hb2 => ?_)
   ·have hm := condT hb2 hm
    refine cW_region ?_
    refine wS_pure 5 [(21, .int .i64 (wr (p1 - (wr (0 - 0))))), (20, .slice none 0 0), (19, .int .i64 (0)), (18, .slice none 0 0), (17, .slice none 0 0)] (by kernel_rfl) ?_
    obtain ⟨_, hk1, hm⟩ := bindE hm
    replace hk1 := mkE hk1
    obtain ⟨_, hp1, hm⟩ := bindE hm
    replace hp1 := of_decide_eq_true (chkE hp1)
    refine wS_appZ (enc := encI) (x0 := (0 : Int)) (d := 22) (t := 24) (tn := 3) (T := 2) (kn := .i64) (m := wr (p1 - (wr (0 - 0)))) (by kernel_rfl) el24 ity3 encI_ok (by rfl) hk1.1 hk1.2 hp1 ?_
    intro b1 w2 cap2 G1 F1 hc1
    replace hB := hB.inS hc1 inNil
    replace G1 := Nat.le_trans hZ G1
    replace G1 := low1 G1
    replace hZ := Nat.le_trans hZ hc1.size
    refine wS_pure 2 [(24, .int .i64 (0)), (23, .slice none 0 0)] (by kernel_rfl) ?_
    obtain ⟨y1, hy1, hm⟩ := bindE hm
    refine wS_prefix (k := 1) (enc := encI) (U := 2) (l := List.replicate (Int.toNat (wr (p1 - (wr (0 - 0))))) ((0 : Int))) (d := 25) (T := 24) (A := (some ⟨b1, 0, none⟩)) (cap := cap2) (hi := 0) (by kernel_rfl) sl24 encI_ok F1 F1.cap_le hy1 ?_
    intro hpe F2
    subst hpe
    refine wS_pure 1 [(0, .slice (some ⟨b1, 0, none⟩) ((List.replicate (Int.toNat (wr (p1 - (wr (0 - 0))))) ((0 : Int))).take (Int.toNat 0)).length cap2)] (by kernel_rfl) ?_
    refine wS_end (by rfl) ?_
    have hq : (some ((List.replicate (Int.toNat (wr (p1 - (wr (0 - 0))))) ((0 : Int))).take (Int.toNat 0)) : Option ((List (Int)))) = some _ := hm
    replace hq := someE hq
    subst hq
    exact eX_J (fun hst => ⟨(List.replicate (Int.toNat (wr (p1 - (wr (0 - 0))))) ((0 : Int))).take (Int.toNat 0), (some ⟨b1, 0, none⟩), cap2, [b1], rfl, Fr.of hst (by kernel_rfl), F2, G1, hB, hZ⟩)
   ·have hm := condF hb2 hm
    refine cW_skip ?_
    have hq : (some (([] : List (Int))) : Option ((List (Int)))) = some _ := hm
    replace hq := someE hq
    subst hq
    exact eX_J (fun hst => ⟨[], none, 0, [], rfl, Fr.of hst (by kernel_rfl), Ow.nil _, lowNil, hB, hZ⟩)
  ·rintro a' w3 ⟨l1, A1, cap1, fp1, hJ, hF2, F3, G2, hB, hZ⟩
   subst hJ
   refine Fr.goX hF2 (by kernel_rfl) ?_
   refine eX_then ?_
   refine cW_seq ?_
   refine cW_region ?_
   refine wS_pure 2 [(4, .slice A1 (l1).length cap1), (26, .slice A1 (l1).length cap1)] (by kernel_rfl) ?_
   refine wS_end (by rfl) ?_
   refine eX_then ?_
   refine cW_ret ?_
   have hq : (some l1 : Option ((List (Int)))) = some _ := hm
   replace hq := someE hq
   subst hq
   refine eX_ret (vs := [.slice A1 (l1).length cap1]) [.tmp 4] (by rfl) ⟨by (show lkE _ _ _ = _); kernel_rfl, trivial⟩ ?_
   exact ⟨A1, cap1, fp1, rfl, F3, G2, hB⟩

set_option maxRecDepth 100000 in
/-- slices.Concat[[]int64,int64] -/
theorem c_slices_Concat_int64_int64 {w0 : World} {l0 : List (List (Int))} {A0 : Option Addr} {cap0 : Nat} {fp0 : List Nat} {r : (List (Int))} (hm : m_slices_Concat_int64_int64 l0 = some r) (F0 : SlR 1 encI w0 fp0 A0 l0) :
  Calls Tryd.prog 76 #[.slice A0 (l0).length cap0] w0 fun e w' => ∃ A100 cap100 fp100, e = .returned (.slice A100 (r).length cap100) ∧ Ow 1 encI 2 w' fp100 A100 cap100 r ∧ (∀ x ∈ fp100, w0.heap.size ≤ x) ∧ Chg [] w0 w' := by
 have L0 := F0.low
 have hB : Chg [] w0 w0 := Chg.refl _ _
 have hZ := Nat.le_refl w0.heap.size
 unfold m_slices_Concat_int64_int64 at hm
 refine enterE (N := 36) Tryd.func76 (by rfl) Tryd.ntmps76 (by simp) [(0, .slice A0 (l0).length cap0)] (by rfl) (by kernel_rfl) (fun a => ?_)
 refine cW_seq ?_
 refine cW_region ?_
 refine wS_pure 1 [(2, .slice none 0 0)] (by kernel_rfl) ?_
 refine wS_end (by rfl) ?_
 refine eX_then ?_
 refine cW_seq ?_
 refine cW_region ?_
 refine wS_pure 1 [(3, .int .i64 (0))] (by kernel_rfl) ?_
 refine wS_end (by rfl) ?_
 refine eX_then ?_
 refine cW_seq ?_
 refine cW_seq ?_
 refine cW_region ?_
 refine wS_pure 3 [(11, .int .i64 (0)), (10, .int .i64 (((l0).length : Int))), (9, .slice A0 (l0).length cap0)] (by kernel_rfl) ?_
 refine wS_end (by rfl) ?_
 refine eX_then ?_
 obtain ⟨r1, hr1, hm⟩ := bindE hm
 have hm1 := hm
 refine cW_cut (fun a' w' => ∃ x1 : Int, x1 = r1 ∧ Fr 36 [(0, .slice A0 (l0).length cap0), (3, .int .i64 (x1))] a' ∧ SlR 1 encI w' fp0 A0 l0 ∧ Chg [] w0 w' ∧ w0.heap.size ≤ w'.heap.size) ?_ ?_
 ·refine cW_block ?_
  refine cW_loop _ (fun (s1 : Int × Int) a' w' => ∃ x2 : Int, ∃ x3 : Int, (x2, x3) = s1 ∧ Fr 36 [(0, .slice A0 (l0).length cap0), (3, .int .i64 (x2)), (9, .slice A0 (l0).length cap0), (10, .int .i64 (((l0).length : Int))), (11, .int .i64 (x3))] a' ∧ SlR 1 encI w' fp0 A0 l0 ∧ Chg [] w0 w' ∧ w0.heap.size ≤ w'.heap.size) hr1 (fun hst => ⟨0, 0, rfl, Fr.of hst (by kernel_rfl), F0, hB, hZ⟩) ?_
  rintro _ c1 a' w1 ⟨x2, x3, rfl, hF1, F1, hB, hZ⟩ hx1
  refine Fr.goOn hF1 (by kernel_rfl) ?_
  have hm := hx1
  unfold m_slices_Concat_int64_int64_s1 at hm
  refine cW_seq ?_
  refine cW_region ?_
  refine wS_pure 1 [(12, .bool (decide (x3 < (((l0).length : Int)))))] (by kernel_rfl) ?_
  refine wS_end (by rfl) ?_
  refine eX_then ?_
  refine cW_seq ?_
  refine cW_cond (t := decide (x3 < (((l0).length : Int)))) (by kernel_rfl) (fun hb1 => ?_) (fun hb1 => ?_)
  ·have hm := condT hb1 hm
   refine cW_skip ?_
   refine eX_then ?_
   refine cW_seq ?_
   refine cW_block ?_
   obtain ⟨s2, hs1, hm⟩ := bindE hm
   refine cW_cut (fun a' w' => ∃ x4 : Int, x4 = s2 ∧ Fr 36 [(0, .slice A0 (l0).length cap0), (3, .int .i64 (x4)), (9, .slice A0 (l0).length cap0), (10, .int .i64 (((l0).length : Int))), (11, .int .i64 (x3))] a' ∧ SlR 1 encI w' fp0 A0 l0 ∧ Chg [] w0 w' ∧ w0.heap.size ≤ w'.heap.size) ?_ ?_
   ·have hm := hs1
    refine cW_seq ?_
    refine cW_region ?_
    obtain ⟨x5, hx2, hm⟩ := bindE hm
    refine wS_idx (d := 13) (T := 28) (A := A0) (n := (l0).length) (cap := cap0) (kd := .i64) (m := x3) (by kernel_rfl) sl28 (F1.is hx2) ?_
    obtain ⟨A1, cap1, hc1, F2, K1⟩ := SlR.row F1 hx2
    refine wS_load1 (d := 14) (T := 24) (ad := (elA A0 1 (x3) 0)) (v := .slice A1 (x5).length cap1) (by kernel_rfl) vt24 hc1 ?_
    refine wS_pure 1 [(5, .slice A1 (x5).length cap1)] (by kernel_rfl) ?_
    refine wS_end (by rfl) ?_
    refine eX_then ?_
    refine cW_seq ?_
    refine cW_region ?_
    refine wS_pure 5 [(3, .int .i64 (wr (x2 + (((x5).length : Int))))), (18, .int .i64 (wr (x2 + (((x5).length : Int))))), (17, .int .i64 (((x5).length : Int))), (16, .slice A1 (x5).length cap1), (15, .int .i64 (x2))] (by kernel_rfl) ?_
    refine wS_end (by rfl) ?_
    refine eX_then ?_
    refine cW_seq ?_
    refine cW_region ?_
    refine wS_pure 2 [(20, .bool (decide ((wr (x2 + (((x5).length : Int)))) < 0))), (19, .int .i64 (wr (x2 + (((x5).length : Int)))))] (by kernel_rfl) ?_
    refine wS_end (by rfl) ?_
    refine eX_then ?_
    refine cW_cond (t := decide ((wr (x2 + (((x5).length : Int)))) < 0)) (by kernel_rfl) (fun hb2 => ?_) (fun hb2 => ?_)
    ·have hm := condT hb2 hm
     refine cW_region ?_
     exact noneE hm
    ·have hm := condF hb2 hm
     refine cW_skip ?_
     have hq : (some (wr (x2 + (((x5).length : Int)))) : Option (Int)) = some _ := hm
     replace hq := someE hq
     subst hq
     exact eX_J (fun hst => ⟨wr (x2 + (((x5).length : Int))), rfl, Fr.of hst (by kernel_rfl), F1, hB, hZ⟩)
   ·rintro a' w2 ⟨x4, hJ, hF2, F3, hB, hZ⟩
    subst hJ
    refine Fr.goX hF2 (by kernel_rfl) ?_
    refine eX_block ?_
    refine eX_then ?_
    refine cW_region ?_
    refine wS_pure 2 [(11, .int .i64 (wr (x3 + 1))), (22, .int .i64 (wr (x3 + 1)))] (by kernel_rfl) ?_
    refine wS_end (by rfl) ?_
    have hq : (some (Ctl.next ((x4, wr (x3 + 1)))) : Option (Ctl (Int × Int) (Int))) = some _ := hm
    replace hq := someE hq
    subst hq
    exact eX_next hx1 (fun hst => ⟨x4, wr (x3 + 1), rfl, Fr.of hst (by kernel_rfl), F3, hB, hZ⟩)
  ·have hm := condF hb1 hm
   refine cW_exit ?_
   refine eX_then_exit ?_
   have hq : (some (Ctl.out x2) : Option (Ctl (Int × Int) (Int))) = some _ := hm
   replace hq := someE hq
   subst hq
   refine eX_outX hx1 (fun hr2 => ?_)
   replace hr2 := hr2.symm
   subst hr2
   refine eX_block_hit ?_
   exact eX_J (fun hst => ⟨x2, rfl, Fr.of hst (by kernel_rfl), F1, hB, hZ⟩)
 ·rintro a' w3 ⟨x1, hJ, hF3, F4, hB, hZ⟩
  subst hJ
  refine Fr.goX hF3 (by kernel_rfl) ?_
  refine eX_then ?_
  refine cW_seq ?_
  refine cW_region ?_
  refine wS_pure 1 [(23, .int .i64 (x1))] (by kernel_rfl) ?_
  obtain ⟨y1, hy1, hm⟩ := bindE hm
  refine wS_calls (d := 24) (f := 101) (vs := [.slice none 0 0, .int .i64 (x1)]) (by kernel_rfl) ent101 (c_slices_Grow_int64_int64_nil hy1) ?_
  rintro _ w4 ⟨A3, cap3, fp1, rfl, F5, G1, hc2⟩
  replace F4 := F4.chg hc2 Dj.nil
  replace hB := hB.inS hc2 inNil
  replace G1 := low_le hZ G1
  replace hZ := Nat.le_trans hZ hc2.size
  refine ⟨.slice A3 (y1).length cap3, rfl, ?_⟩
  refine wS_pure 1 [(6, .slice A3 (y1).length cap3)] (by kernel_rfl) ?_
  refine wS_end (by rfl) ?_
  refine eX_then ?_
  refine cW_seq ?_
  refine cW_seq ?_
  refine cW_region ?_
  refine wS_pure 3 [(27, .int .i64 (0)), (26, .int .i64 (((l0).length : Int))), (25, .slice A0 (l0).length cap0)] (by kernel_rfl) ?_
  refine wS_end (by rfl) ?_
  refine eX_then ?_
  obtain ⟨r2, hr3, hm⟩ := bindE hm
  have hm2 := hm
  refine cW_cut (fun a' w' => ∃ l1 : List (Int), ∃ A4 : Option Addr, ∃ cap4 : Nat, ∃ fp2 : List Nat, l1 = r2 ∧ Fr 36 [(6, .slice A4 (l1).length cap4)] a' ∧ Ow 1 encI 2 w' fp2 A4 cap4 l1 ∧ (∀ x ∈ fp2, w0.heap.size ≤ x) ∧ Chg [] w0 w' ∧ w0.heap.size ≤ w'.heap.size) ?_ ?_
  ·refine cW_block ?_
   refine cW_loop _ (fun (s3 : (List (Int)) × Int) a' w' => ∃ l3 : List (Int), ∃ A5 : Option Addr, ∃ cap5 : Nat, ∃ fp3 : List Nat, ∃ x6 : Int, (l3, x6) = s3 ∧ Fr 36 [(6, .slice A5 (l3).length cap5), (25, .slice A0 (l0).length cap0), (26, .int .i64 (((l0).length : Int))), (27, .int .i64 (x6))] a' ∧ SlR 1 encI w' fp0 A0 l0 ∧ Ow 1 encI 2 w' fp3 A5 cap5 l3 ∧ (∀ x ∈ fp3, w0.heap.size ≤ x) ∧ Chg [] w0 w' ∧ w0.heap.size ≤ w'.heap.size) hr3 (fun hst => ⟨y1, A3, cap3, fp1, 0, rfl, Fr.of hst (by kernel_rfl), F4, F5, G1, hB, hZ⟩) ?_
   rintro _ c2 a' w5 ⟨l3, A5, cap5, fp3, x6, rfl, hF4, F6, F7, G2, hB, hZ⟩ hx3
   refine Fr.goOn hF4 (by kernel_rfl) ?_
   have hm := hx3
   unfold m_slices_Concat_int64_int64_s2 at hm
   refine cW_seq ?_
   refine cW_region ?_
   refine wS_pure 1 [(28, .bool (decide (x6 < (((l0).length : Int)))))] (by kernel_rfl) ?_
   refine wS_end (by rfl) ?_
   refine eX_then ?_
   refine cW_seq ?_
   refine cW_cond (t := decide (x6 < (((l0).length : Int)))) (by kernel_rfl) (fun hb3 => ?_) (fun hb3 => ?_)
   ·have hm := condT hb3 hm
    refine cW_skip ?_
    refine eX_then ?_
    refine cW_seq ?_
    refine cW_block ?_
    refine cW_seq ?_
    refine cW_region ?_
    obtain ⟨x7, hx4, hm⟩ := bindE hm
    refine wS_idx (d := 29) (T := 28) (A := A0) (n := (l0).length) (cap := cap0) (kd := .i64) (m := x6) (by kernel_rfl) sl28 (F6.is hx4) ?_
    obtain ⟨A6, cap6, hc3, F8, K2⟩ := SlR.row F6 hx4
    refine wS_load1 (d := 30) (T := 24) (ad := (elA A0 1 (x6) 0)) (v := .slice A6 (x7).length cap6) (by kernel_rfl) vt24 hc3 ?_
    refine wS_pure 1 [(8, .slice A6 (x7).length cap6)] (by kernel_rfl) ?_
    refine wS_end (by rfl) ?_
    refine eX_then ?_
    refine cW_region ?_
    refine wS_pure 2 [(32, .slice A6 (x7).length cap6), (31, .slice A5 (l3).length cap5)] (by kernel_rfl) ?_
    obtain ⟨_, hk1, hm⟩ := bindE hm
    replace hk1 := apE hk1
    refine wS_appendAny (enc := encI) (l := (l3 : List (Int))) (l2 := (x7 : List (Int))) (d := 33) (t := 24) (T := 2) (A := A5) (A2 := A6) (cap := cap5) (cap2 := cap6) (by kernel_rfl) el24 encI_ok F7 F8 hk1 ?_
    intro w6 fp4 A7 cap7 F9 hc4 hp1
    have G3 := low_ap G2 hZ hp1
    replace F6 := F6.chg hc4 (Dj.of L0 G2)
    replace F8 := F8.chg hc4 (Dj.of L0 G2)
    replace hB := hB.inS hc4 (inLow G2)
    replace hZ := Nat.le_trans hZ hc4.size
    refine wS_pure 1 [(6, .slice A7 (l3 ++ x7).length cap7)] (by kernel_rfl) ?_
    refine wS_end (by rfl) ?_
    refine eX_block ?_
    refine eX_then ?_
    refine cW_region ?_
    refine wS_pure 2 [(27, .int .i64 (wr (x6 + 1))), (34, .int .i64 (wr (x6 + 1)))] (by kernel_rfl) ?_
    refine wS_end (by rfl) ?_
    have hq : (some (Ctl.next ((l3 ++ x7, wr (x6 + 1)))) : Option (Ctl ((List (Int)) × Int) ((List (Int))))) = some _ := hm
    replace hq := someE hq
    subst hq
    exact eX_next hx3 (fun hst => ⟨l3 ++ x7, A7, cap7, fp4, wr (x6 + 1), rfl, Fr.of hst (by kernel_rfl), F6, F9, G3, hB, hZ⟩)
   ·have hm := condF hb3 hm
    refine cW_exit ?_
    refine eX_then_exit ?_
    have hq : (some (Ctl.out l3) : Option (Ctl ((List (Int)) × Int) ((List (Int))))) = some _ := hm
    replace hq := someE hq
    subst hq
    refine eX_outX hx3 (fun hr4 => ?_)
    replace hr4 := hr4.symm
    subst hr4
    refine eX_block_hit ?_
    exact eX_J (fun hst => ⟨l3, A5, cap5, fp3, rfl, Fr.of hst (by kernel_rfl), F7, G2, hB, hZ⟩)
  ·rintro a' w7 ⟨l1, A4, cap4, fp2, hJ, hF5, F10, G4, hB, hZ⟩
   subst hJ
   refine Fr.goX hF5 (by kernel_rfl) ?_
   refine eX_then ?_
   refine cW_seq ?_
   refine cW_region ?_
   refine wS_pure 2 [(2, .slice A4 (l1).length cap4), (35, .slice A4 (l1).length cap4)] (by kernel_rfl) ?_
   refine wS_end (by rfl) ?_
   refine eX_then ?_
   refine cW_ret ?_
   have hq : (some l1 : Option ((List (Int)))) = some _ := hm
   replace hq := someE hq
   subst hq
   refine eX_ret (vs := [.slice A4 (l1).length cap4]) [.tmp 2] (by rfl) ⟨by (show lkE _ _ _ = _); kernel_rfl, trivial⟩ ?_
   exact ⟨A4, cap4, fp2, rfl, F10, G4, hB⟩

set_option maxRecDepth 100000 in
/-- impl.ValidChannel -/
theorem c_impl_ValidChannel {w0 : World} {l0_0 : List (Int)} {A0_0 : Option Addr} {cap0_0 : Nat} {fp0_0 : List Nat} {l0_1 : List (Int)} {A0_1 : Option Addr} {cap0_1 : Nat} {fp0_1 : List Nat} {r : (Bool)} (hm : m_impl_ValidChannel l0_0 l0_1 = some r) (F0_0 : Sl 1 encI w0 fp0_0 A0_0 l0_0) (K0_0 : (l0_0).length ≤ cap0_0) (F0_1 : Sl 1 encI w0 fp0_1 A0_1 l0_1) (K0_1 : (l0_1).length ≤ cap0_1) :
  Calls Tryd.prog 36 #[.agg #[.slice A0_0 (l0_0).length cap0_0, .slice A0_1 (l0_1).length cap0_1]] w0 fun e w' => e = .returned (.bool (r)) ∧ Chg [] w0 w' := by
 have L0_0 := F0_0.low
 have L0_1 := F0_1.low
 have hB : Chg [] w0 w0 := Chg.refl _ _
 have hZ := Nat.le_refl w0.heap.size
 unfold m_impl_ValidChannel at hm
 refine enterE (N := 55) Tryd.func36 (by rfl) Tryd.ntmps36 (by simp) [(0, .agg #[.slice A0_0 (l0_0).length cap0_0, .slice A0_1 (l0_1).length cap0_1])] (by rfl) (by kernel_rfl) (fun a => ?_)
 refine cW_seq ?_
 refine cW_region ?_
 refine wS_box (d := 1) (T := 26) (x := .agg #[.slice A0_0 (l0_0).length cap0_0, .slice A0_1 (l0_1).length cap0_1]) (by kernel_rfl) ?_
 intro b1 w1 G1 F1 hc1
 replace F1 : Cl w1 b1 26 [.slice A0_0 (l0_0).length cap0_0, .slice A0_1 (l0_1).length cap0_1] := F1
 replace F0_0 := F0_0.chg hc1 Dj.nil
 replace F0_1 := F0_1.chg hc1 Dj.nil
 replace hB := hB.inS hc1 inNil
 replace G1 := Nat.le_trans hZ G1
 replace hZ := Nat.le_trans hZ hc1.size
 refine wS_pure 1 [(2, .bool (false))] (by kernel_rfl) ?_
 refine wS_end (by rfl) ?_
 refine eX_then ?_
 refine cW_seq ?_
 refine cW_seq ?_
 refine cW_region ?_
 refine wS_pure 1 [(8, .pointer (some ⟨b1, 0, none⟩))] (by kernel_rfl) ?_
 refine wS_load1 (d := 9) (T := 24) (ad := ⟨b1, 0, none⟩) (v := .slice A0_0 (l0_0).length cap0_0) (by kernel_rfl) vt24 ((F1).cell 0) ?_
 refine wS_pure 1 [(10, .int .i64 (((l0_0).length : Int)))] (by kernel_rfl) ?_
 obtain ⟨y1, hy1, hm⟩ := bindE hm
 refine wS_calls (d := 11) (f := 75) (vs := [.int .i64 (((l0_0).length : Int)), .int .i64 (1), .int .i64 (24)]) (by kernel_rfl) ent75 (c_impl_in hy1) ?_
 rintro _ w2 ⟨rfl, hc2⟩
 replace F0_0 := F0_0.chg hc2 Dj.nil
 replace F0_1 := F0_1.chg hc2 Dj.nil
 replace F1 := F1.chg hc2 notNil
 replace hB := hB.inS hc2 inNil
 replace hZ := Nat.le_trans hZ hc2.size
 refine ⟨.bool (y1), rfl, ?_⟩
 refine wS_pure 2 [(13, .bool (!y1)), (12, .bool (!y1))] (by kernel_rfl) ?_
 refine wS_bool (!y1) (fun hb1 => ?_) (fun hb1 => ?_)
 ·have hm := condT hb1 hm
  rewrite [hb1]
  refine wS_pure 8 [(21, .bool (true)), (20, undef), (19, undef), (18, undef), (17, undef), (16, undef), (15, undef), (14, undef)] (by kernel_rfl) ?_
  refine wS_end (by rfl) ?_
  refine eX_then ?_
  refine cW_cond_t (by kernel_rfl) ?_
  refine cW_seq ?_
  refine cW_region ?_
  refine wS_pure 1 [(2, .bool (false))] (by kernel_rfl) ?_
  refine wS_end (by rfl) ?_
  refine eX_then ?_
  refine cW_ret ?_
  refine eX_then_ret ?_
  have hq : (some false : Option ((Bool))) = some _ := hm
  replace hq := someE hq
  subst hq
  refine eX_ret (vs := [.bool (false)]) [.tmp 2] (by rfl) ⟨by (show lkE _ _ _ = _); kernel_rfl, trivial⟩ ?_
  exact ⟨rfl, hB⟩
 ·have hm := condF hb1 hm
  rewrite [hb1]
  refine wS_pure 1 [(14, .pointer (some ⟨b1, 1, none⟩))] (by kernel_rfl) ?_
  refine wS_load1 (d := 15) (T := 24) (ad := ⟨b1, 1, none⟩) (v := .slice A0_1 (l0_1).length cap0_1) (by kernel_rfl) vt24 ((F1).cell 1) ?_
  refine wS_pure 2 [(17, .pointer (some ⟨b1, 0, none⟩)), (16, .int .i64 (((l0_1).length : Int)))] (by kernel_rfl) ?_
  refine wS_load1 (d := 18) (T := 24) (ad := ⟨b1, 0, none⟩) (v := .slice A0_0 (l0_0).length cap0_0) (by kernel_rfl) vt24 ((F1).cell 0) ?_
  refine wS_pure 3 [(21, .bool ((((l0_1).length : Int)) != (((l0_0).length : Int)))), (20, .bool ((((l0_1).length : Int)) != (((l0_0).length : Int)))), (19, .int .i64 (((l0_0).length : Int)))] (by kernel_rfl) ?_
  refine wS_end (by rfl) ?_
  refine eX_then ?_
  refine cW_cond (t := (((l0_1).length : Int)) != (((l0_0).length : Int))) (by kernel_rfl) (fun hb2 => ?_) (fun hb2 => ?_)
  ·have hm := condT hb2 hm
   refine cW_seq ?_
   refine cW_region ?_
   refine wS_pure 1 [(2, .bool (false))] (by kernel_rfl) ?_
   refine wS_end (by rfl) ?_
   refine eX_then ?_
   refine cW_ret ?_
   refine eX_then_ret ?_
   have hq : (some false : Option ((Bool))) = some _ := hm
   replace hq := someE hq
   subst hq
   refine eX_ret (vs := [.bool (false)]) [.tmp 2] (by rfl) ⟨by (show lkE _ _ _ = _); kernel_rfl, trivial⟩ ?_
   exact ⟨rfl, hB⟩
  ·have hm := condF hb2 hm
   refine cW_skip ?_
   refine eX_then ?_
   refine cW_seq ?_
   refine cW_region ?_
   refine wS_makeMap (V := Int) (d := 22) (T := 102) (by kernel_rfl) okI kI kI ?_
   intro b2 w3 G2 F2 hc3
   have D1 : Dj [b1] [b2] := Dj.of (lt1 F1.lt) (low1 G2)
   replace F0_0 := F0_0.chg hc3 Dj.nil
   replace F0_1 := F0_1.chg hc3 Dj.nil
   replace F1 := F1.chg hc3 notNil
   replace hB := hB.inS hc3 inNil
   replace G2 := Nat.le_trans hZ G2
   replace G2 := low1 G2
   replace hZ := Nat.le_trans hZ hc3.size
   refine wS_pure 1 [(3, .map (some b2))] (by kernel_rfl) ?_
   refine wS_end (by rfl) ?_
   refine eX_then ?_
   refine cW_seq ?_
   refine cW_seq ?_
   refine cW_region ?_
   refine wS_pure 1 [(23, .pointer (some ⟨b1, 0, none⟩))] (by kernel_rfl) ?_
   refine wS_load1 (d := 24) (T := 24) (ad := ⟨b1, 0, none⟩) (v := .slice A0_0 (l0_0).length cap0_0) (by kernel_rfl) vt24 ((F1).cell 0) ?_
   refine wS_pure 1 [(25, .pointer (some ⟨b1, 1, none⟩))] (by kernel_rfl) ?_
   refine wS_load1 (d := 26) (T := 24) (ad := ⟨b1, 1, none⟩) (v := .slice A0_1 (l0_1).length cap0_1) (by kernel_rfl) vt24 ((F1).cell 1) ?_
   refine wS_rowsL2 (k := 1) (enc := encI) (l1 := l0_0) (B1 := A0_0) (c1 := cap0_0) (l2 := l0_1) (B2 := A0_1) (c2 := cap0_1) (d := 27) (t := 28) (T := 24) (by kernel_rfl) el28 F0_0 K0_0 F0_1 K0_1 ?_
   intro b3 w4 G3 F3 hc4
   have K1 := F3.cap_le
   have F4 := F3.slr
   have Gm1 := low1 (Nat.le_trans hZ G3)
   have Rt1 : Rt w0.heap.size (fp0_0 ++ (fp0_1 ++ [])) ([b3] ++ (fp0_0 ++ (fp0_1 ++ []))) := Rt.app (Rt.low Gm1) (Rt.app (Rt.mem (fun x hx => (List.mem_append_left _ hx))) (Rt.app (Rt.mem (fun x hx => (List.mem_append_right _ (List.mem_append_left _ hx)))) Rt.nil))
   have D2 : Dj [b1] [b3] := Dj.of (lt1 F1.lt) (low1 G3)
   have D3 : Dj [b1] ([b3] ++ (fp0_0 ++ (fp0_1 ++ []))) := Dj.app D2 (Dj.app (Dj.of L0_0 (low1 G1)).symm (Dj.app (Dj.of L0_1 (low1 G1)).symm Dj.nil))
   have D4 : Dj [b2] [b3] := Dj.of F2.low (low1 G3)
   have D5 : Dj [b2] ([b3] ++ (fp0_0 ++ (fp0_1 ++ []))) := Dj.app D4 (Dj.app (Dj.of L0_0 G2).symm (Dj.app (Dj.of L0_1 G2).symm Dj.nil))
   replace F0_0 := F0_0.chg hc4 Dj.nil
   replace F0_1 := F0_1.chg hc4 Dj.nil
   replace F1 := F1.chg hc4 notNil
   replace F2 := F2.chg hc4 Dj.nil
   replace hB := hB.inS hc4 inNil
   replace hZ := Nat.le_trans hZ hc4.size
   obtain ⟨y2, hy2, hm⟩ := bindE hm
   refine wS_calls (d := 28) (f := 76) (vs := [.slice (some ⟨b3, 0, none⟩) (([l0_0, l0_1] : List (List (Int)))).length 2]) (by kernel_rfl) ent76 (c_slices_Concat_int64_int64 hy2 F4) ?_
   rintro _ w5 ⟨A1, cap1, fp1, rfl, F5, G4, hc5⟩
   have D6 : Dj [b1] fp1 := Dj.of (lt1 F1.lt) G4
   have D7 : Dj [b2] fp1 := Dj.of F2.low G4
   have D8 : Dj ([b3] ++ (fp0_0 ++ (fp0_1 ++ []))) fp1 := Dj.of F4.low G4
   replace F0_0 := F0_0.chg hc5 Dj.nil
   replace F0_1 := F0_1.chg hc5 Dj.nil
   replace F1 := F1.chg hc5 notNil
   replace F2 := F2.chg hc5 Dj.nil
   replace F4 := F4.chg hc5 Dj.nil
   replace F3 := F3.chg hc5 Dj.nil
   replace hB := hB.inS hc5 inNil
   replace G4 := low_le hZ G4
   replace hZ := Nat.le_trans hZ hc5.size
   refine ⟨.slice A1 (y2).length cap1, rfl, ?_⟩
   refine wS_pure 2 [(30, .int .i64 (0)), (29, .int .i64 (((y2).length : Int)))] (by kernel_rfl) ?_
   refine wS_end (by rfl) ?_
   refine eX_then ?_
   refine cW_prune [(3, .map (some b2)), (28, .slice A1 (y2).length cap1), (29, .int .i64 (((y2).length : Int))), (30, .int .i64 (0))] (by kernel_rfl) (by kernel_rfl) (fun a1 => ?_)
   obtain ⟨r1, hr1, hm⟩ := bindE hm
   have hm1 := hm
   refine cW_cut (fun a' w' => ∃ l3 : List (Int × Int), Sum.inl l3 = r1 ∧ Fr 55 [(3, .map (some b2))] a' ∧ Mp okI kI kI w' b2 l3 ∧ Chg [] w0 w' ∧ w0.heap.size ≤ w'.heap.size) ?_ ?_
   ·refine cW_block ?_
    refine cW_loop _ (fun (s1 : Int × (List (Int × Int))) a' w' => ∃ x1 : Int, ∃ l4 : List (Int × Int), (x1, l4) = s1 ∧ Fr 55 [(3, .map (some b2)), (28, .slice A1 (y2).length cap1), (29, .int .i64 (((y2).length : Int))), (30, .int .i64 (x1))] a' ∧ Mp okI kI kI w' b2 l4 ∧ Ow 1 encI 2 w' fp1 A1 cap1 y2 ∧ Chg [] w0 w' ∧ w0.heap.size ≤ w'.heap.size) hr1 (fun hst => ⟨0, ([] : List (Int × Int)), rfl, Fr.of hst (by kernel_rfl), F2, F5, hB, hZ⟩) ?_
    rintro _ c3 a' w6 ⟨x1, l4, rfl, hF1, F6, F7, hB, hZ⟩ hx1
    refine Fr.goOn hF1 (by kernel_rfl) ?_
    have hm := hx1
    unfold m_impl_ValidChannel_s1 at hm
    refine cW_seq ?_
    refine cW_region ?_
    refine wS_pure 1 [(31, .bool (decide (x1 < (((y2).length : Int)))))] (by kernel_rfl) ?_
    refine wS_end (by rfl) ?_
    refine eX_then ?_
    refine cW_seq ?_
    refine cW_cond (t := decide (x1 < (((y2).length : Int)))) (by kernel_rfl) (fun hb3 => ?_) (fun hb3 => ?_)
    ·have hm := condT hb3 hm
     refine cW_skip ?_
     refine eX_then ?_
     refine cW_seq ?_
     refine cW_block ?_
     refine cW_seq ?_
     refine cW_region ?_
     obtain ⟨x2, hx2, hm⟩ := bindE hm
     refine wS_idx (d := 32) (T := 24) (A := A1) (n := (y2).length) (cap := cap1) (kd := .i64) (m := x1) (by kernel_rfl) sl24 ((F7.sl encI_ok).is hx2) ?_
     refine wS_load1 (d := 33) (T := 2) (ad := (elA A1 1 (x1) 0)) (v := .int .i64 (x2)) (by kernel_rfl) vt2 (Sl.cell (F7.sl encI_ok) hx2 0 (by rfl)) ?_
     refine wS_pure 1 [(5, .int .i64 (x2))] (by kernel_rfl) ?_
     refine wS_end (by rfl) ?_
     refine eX_then ?_
     refine cW_seq ?_
     refine cW_seq ?_
     refine cW_region ?_
     refine wS_pure 1 [(34, .int .i64 (x2))] (by kernel_rfl) ?_
     obtain ⟨y3, hy3, hm⟩ := bindE hm
     refine wS_calls (d := 35) (f := 75) (vs := [.int .i64 (x2), .int .i64 (0), .int .i64 (12)]) (by kernel_rfl) ent75 (c_impl_in hy3) ?_
     rintro _ w7 ⟨rfl, hc6⟩
     replace F6 := F6.chg hc6 Dj.nil
     replace F7 := F7.chg hc6 Dj.nil
     replace hB := hB.inS hc6 inNil
     replace hZ := Nat.le_trans hZ hc6.size
     refine ⟨.bool (y3), rfl, ?_⟩
     refine wS_pure 1 [(36, .bool (!y3))] (by kernel_rfl) ?_
     refine wS_end (by rfl) ?_
     refine eX_then ?_
     refine cW_cond (t := !y3) (by kernel_rfl) (fun hb4 => ?_) (fun hb4 => ?_)
     ·have hm := condT hb4 hm
      refine cW_seq ?_
      refine cW_region ?_
      refine wS_pure 1 [(2, .bool (false))] (by kernel_rfl) ?_
      refine wS_end (by rfl) ?_
      refine eX_then ?_
      refine cW_ret ?_
      refine eX_then_ret ?_
      refine eX_block_ret ?_
      refine eX_then_ret ?_
      have hq : (some (Ctl.out (Sum.inr false)) : Option (Ctl (Int × (List (Int × Int))) (Sum ((List (Int × Int))) ((Bool))))) = some _ := hm
      replace hq := someE hq
      subst hq
      refine eX_outR hx1 (fun hr => ?_)
      subst hr
      refine eX_block_ret ?_
      refine eX_then_ret ?_
      refine eX_then_ret ?_
      have hq : (some false : Option ((Bool))) = some _ := hm1
      replace hq := someE hq
      subst hq
      refine eX_ret (vs := [.bool (false)]) [.tmp 2] (by rfl) ⟨by (show lkE _ _ _ = _); kernel_rfl, trivial⟩ ?_
      exact ⟨rfl, hB⟩
     ·have hm := condF hb4 hm
      refine cW_skip ?_
      refine eX_then ?_
      refine cW_region ?_
      refine wS_pure 2 [(38, .int .i64 (x2)), (37, .map (some b2))] (by kernel_rfl) ?_
      obtain ⟨y4, hy4, hm⟩ := bindE hm
      refine wS_look (k := x2) (d := 39) (T := 102) (by kernel_rfl) mk102 mp102 F6 hy4 ?_
      refine wS_pure 1 [(40, .int .i64 (wr (y4 + 1)))] (by kernel_rfl) ?_
      obtain ⟨_, hk1, hm⟩ := bindE hm
      refine wS_mup (k := x2) (x := wr (y4 + 1)) (T := 102) (by kernel_rfl) rfl rfl mk102 mp102 F6 (mpE hk1) ?_
      intro w8 F8 hc7
      replace F7 := F7.chg hc7 (D7).symm
      replace hB := hB.inS hc7 (inLow G2)
      replace hZ := Nat.le_trans hZ hc7.size
      clear F6
      refine wS_end (by rfl) ?_
      refine eX_block ?_
      refine eX_then ?_
      refine cW_region ?_
      refine wS_pure 2 [(30, .int .i64 (wr (x1 + 1))), (41, .int .i64 (wr (x1 + 1)))] (by kernel_rfl) ?_
      refine wS_end (by rfl) ?_
      have hq : (some (Ctl.next ((wr (x1 + 1), mup l4 x2 (wr (y4 + 1))))) : Option (Ctl (Int × (List (Int × Int))) (Sum ((List (Int × Int))) ((Bool))))) = some _ := hm
      replace hq := someE hq
      subst hq
      exact eX_next hx1 (fun hst => ⟨wr (x1 + 1), mup l4 x2 (wr (y4 + 1)), rfl, Fr.of hst (by kernel_rfl), F8, F7, hB, hZ⟩)
    ·have hm := condF hb3 hm
     refine cW_exit ?_
     refine eX_then_exit ?_
     have hq : (some (Ctl.out (Sum.inl l4)) : Option (Ctl (Int × (List (Int × Int))) (Sum ((List (Int × Int))) ((Bool))))) = some _ := hm
     replace hq := someE hq
     subst hq
     refine eX_outX hx1 (fun hr2 => ?_)
     replace hr2 := hr2.symm
     subst hr2
     refine eX_block_hit ?_
     exact eX_J (fun hst => ⟨l4, rfl, Fr.of hst (by kernel_rfl), F6, hB, hZ⟩)
   ·rintro a' w9 ⟨l3, hJ, hF2, F9, hB, hZ⟩
    subst hJ
    refine Fr.goX hF2 (by kernel_rfl) ?_
    refine eX_then ?_
    refine cW_seq ?_
    refine cW_seq ?_
    refine cW_region ?_
    refine wS_pure 1 [(42, .map (some b2))] (by kernel_rfl) ?_
    refine wS_range (d := 43) (T := 102) (by kernel_rfl) mp102 F9 ?_
    intro b4 w10 G5 F10 hc8
    have D9 : Dj [b2] [b4] := Dj.of F9.low (low1 G5)
    replace F9 := F9.chg hc8 Dj.nil
    replace hB := hB.inS hc8 inNil
    replace G5 := Nat.le_trans hZ G5
    replace G5 := low1 G5
    replace hZ := Nat.le_trans hZ hc8.size
    refine wS_end (by rfl) ?_
    refine eX_then ?_
    have hA1 := allO_some hm
    refine cW_cut (fun a' w' => ∃ lo1 : List (Int × Int), lo1.Perm l3 ∧ foldE (m_impl_ValidChannel_s2) (()) lo1 = some (Sum.inl (())) ∧ Fr 55 [] a' ∧ Chg [] w0 w' ∧ w0.heap.size ≤ w'.heap.size) ?_ ?_
    ·refine cW_block ?_
     refine cW_loopA (fun (n1 : Nat) a' w' => ∃ ld1 : List (Int × Int), ∃ lr1 : List (Int × Int), lr1.length = n1 ∧ (ld1 ++ lr1).Perm l3 ∧ foldE (m_impl_ValidChannel_s2) (()) ld1 = some (Sum.inl (())) ∧ Fr 55 [(43, .pointer (some ⟨b4, 0, none⟩))] a' ∧ Mp okI kI kI w' b2 l3 ∧ RgE okI kI kI w' b2 b4 l3 lr1 ∧ Chg [] w0 w' ∧ w0.heap.size ≤ w'.heap.size) (fun hst => ⟨[], l3, rfl, (List.Perm.refl _), rfl, Fr.of hst (by kernel_rfl), F9, F10, hB, hZ⟩) ?_
     rintro n1 a' w11 ⟨ld1, lr1, hn1, hP1, hF3, hF4, F11, F12, hB, hZ⟩
     refine Fr.goOn hF4 (by kernel_rfl) ?_
     refine cW_seq ?_
     refine cW_region ?_
     refine wS_next (d := 44) (by kernel_rfl) F12 (fun hnil1 => ?_) (fun pa1 p1 pd1 w12 hsp1 F13 hc9 => ?_)
     ·skip
      refine wS_pure 1 [(45, .bool (false))] (by kernel_rfl) ?_
      refine wS_end (by rfl) ?_
      refine eX_then ?_
      refine cW_seq ?_
      refine cW_cond_f (by kernel_rfl) ?_
      refine cW_exit ?_
      refine eX_then_exit ?_
      refine eX_outXA ?_
      refine eX_block_hit ?_
      exact eX_J (fun hst => ⟨ld1, (perm_end hP1 hnil1), hF3, Fr.of hst (by kernel_rfl), hB, hZ⟩)
     ·skip
      obtain ⟨s2, hs1, hk2⟩ := foldE_step hF3 (hA1 _ (perm_pick hP1 hsp1))
      have hm := hs1
      unfold m_impl_ValidChannel_s2 at hm
      replace F11 := F11.chg hc9 D9
      replace hB := hB.inS hc9 (inLow G5)
      replace hZ := Nat.le_trans hZ hc9.size
      clear F12
      refine wS_pure 1 [(45, .bool (true))] (by kernel_rfl) ?_
      refine wS_end (by rfl) ?_
      refine eX_then ?_
      refine cW_seq ?_
      refine cW_cond_t (by kernel_rfl) ?_
      refine cW_skip ?_
      refine eX_then ?_
      refine cW_block ?_
      refine cW_seq ?_
      refine cW_region ?_
      refine wS_ntry (d := 46) (by kernel_rfl) F13 ?_
      refine wS_pure 4 [(7, .int .i64 (p1.2)), (6, .int .i64 (p1.1)), (48, .int .i64 (p1.2)), (47, .int .i64 (p1.1))] (by kernel_rfl) ?_
      refine wS_end (by rfl) ?_
      refine eX_then ?_
      refine cW_seq ?_
      refine cW_region ?_
      refine wS_pure 3 [(51, .bool (decide (p1.1 > 0))), (50, .bool (decide (p1.1 > 0))), (49, .int .i64 (p1.1))] (by kernel_rfl) ?_
      refine wS_bool (decide (p1.1 > 0)) (fun hb5 => ?_) (fun hb5 => ?_)
      ·have hm := condT hb5 hm
       rewrite [hb5]
       refine wS_pure 3 [(54, .bool (decide (p1.2 < 2))), (53, .bool (decide (p1.2 < 2))), (52, .int .i64 (p1.2))] (by kernel_rfl) ?_
       refine wS_end (by rfl) ?_
       refine eX_then ?_
       refine cW_cond (t := decide (p1.2 < 2)) (by kernel_rfl) (fun hb6 => ?_) (fun hb6 => ?_)
       ·have hm := condT hb6 hm
        refine cW_seq ?_
        refine cW_region ?_
        refine wS_pure 1 [(2, .bool (false))] (by kernel_rfl) ?_
        refine wS_end (by rfl) ?_
        refine eX_then ?_
        refine cW_ret ?_
        refine eX_block_ret ?_
        have hq : (some (Ctl.out (Sum.inr false)) : Option (Ctl (Unit) (Sum Unit ((Bool))))) = some _ := hm
        replace hq := someE hq
        subst hq
        refine eX_outRA ?_
        have hk3 := hk2 _ rfl
        refine eX_block_ret ?_
        refine eX_then_ret ?_
        refine eX_then_ret ?_
        have hq : (some false : Option ((Bool))) = some _ := hk3
        replace hq := someE hq
        subst hq
        refine eX_ret (vs := [.bool (false)]) [.tmp 2] (by rfl) ⟨by (show lkE _ _ _ = _); kernel_rfl, trivial⟩ ?_
        exact ⟨rfl, hB⟩
       ·have hm := condF hb6 hm
        refine cW_skip ?_
        refine eX_block ?_
        have hq : (some (Ctl.next (())) : Option (Ctl (Unit) (Sum Unit ((Bool))))) = some _ := hm
        replace hq := someE hq
        subst hq
        exact eX_nextA (cdn_lt hn1 hsp1) (fun hst => ⟨ld1 ++ [p1], pa1 ++ pd1, rfl, (perm_next hP1 hsp1), (foldE_snoc hF3 hs1), Fr.of hst (by kernel_rfl), F11, ⟨_, F13⟩, hB, hZ⟩)
      ·have hm := condF hb5 hm
       rewrite [hb5]
       refine wS_pure 3 [(54, .bool (false)), (53, undef), (52, undef)] (by kernel_rfl) ?_
       refine wS_end (by rfl) ?_
       refine eX_then ?_
       refine cW_cond_f (by kernel_rfl) ?_
       refine cW_skip ?_
       refine eX_block ?_
       have hq : (some (Ctl.next (())) : Option (Ctl (Unit) (Sum Unit ((Bool))))) = some _ := hm
       replace hq := someE hq
       subst hq
       exact eX_nextA (cdn_lt hn1 hsp1) (fun hst => ⟨ld1 ++ [p1], pa1 ++ pd1, rfl, (perm_next hP1 hsp1), (foldE_snoc hF3 hs1), Fr.of hst (by kernel_rfl), F11, ⟨_, F13⟩, hB, hZ⟩)
    ·rintro a' w13 ⟨lo1, hP2, hF5, hF6, hB, hZ⟩
     have hm := hA1 _ hP2
     rewrite [hF5] at hm
     refine Fr.goX hF6 (by kernel_rfl) ?_
     have hm := bindSome hm
     refine eX_then ?_
     refine cW_seq ?_
     refine cW_region ?_
     refine wS_pure 1 [(2, .bool (true))] (by kernel_rfl) ?_
     refine wS_end (by rfl) ?_
     refine eX_then ?_
     refine cW_ret ?_
     have hq : (some true : Option ((Bool))) = some _ := hm
     replace hq := someE hq
     subst hq
     refine eX_ret (vs := [.bool (true)]) [.tmp 2] (by rfl) ⟨by (show lkE _ _ _ = _); kernel_rfl, trivial⟩ ?_
     exact ⟨rfl, hB⟩

set_option maxRecDepth 100000 in
/-- slices.Index[[]int64,int64] -/
theorem c_slices_Index_int64_int64 {w0 : World} {l0 : List (Int)} {A0 : Option Addr} {cap0 : Nat} {fp0 : List Nat} {p1 : Int} {r : (Int)} (hm : m_slices_Index_int64_int64 l0 p1 = some r) (F0 : Sl 1 encI w0 fp0 A0 l0) :
  Calls Tryd.prog 93 #[.slice A0 (l0).length cap0, .int .i64 (p1)] w0 fun e w' => e = .returned (.int .i64 (r)) ∧ Chg [] w0 w' := by
 have L0 := F0.low
 have hB : Chg [] w0 w0 := Chg.refl _ _
 have hZ := Nat.le_refl w0.heap.size
 unfold m_slices_Index_int64_int64 at hm
 refine enterE (N := 19) Tryd.func93 (by rfl) Tryd.ntmps93 (by simp) [(0, .slice A0 (l0).length cap0), (1, .int .i64 (p1))] (by rfl) (by kernel_rfl) (fun a => ?_)
 refine cW_seq ?_
 refine cW_region ?_
 refine wS_pure 1 [(4, .int .i64 (0))] (by kernel_rfl) ?_
 refine wS_end (by rfl) ?_
 refine eX_then ?_
 refine cW_seq ?_
 refine cW_seq ?_
 refine cW_region ?_
 refine wS_pure 3 [(8, .int .i64 (0)), (7, .int .i64 (((l0).length : Int))), (6, .slice A0 (l0).length cap0)] (by kernel_rfl) ?_
 refine wS_end (by rfl) ?_
 refine eX_then ?_
 obtain ⟨r1, hr1, hm⟩ := bindE hm
 have hm1 := hm
 refine cW_cut (fun a' w' => Sum.inl (()) = r1 ∧ Fr 19 [] a' ∧ Chg [] w0 w' ∧ w0.heap.size ≤ w'.heap.size) ?_ ?_
 ·refine cW_block ?_
  refine cW_loop _ (fun (s1 : Int) a' w' => ∃ x1 : Int, x1 = s1 ∧ Fr 19 [(0, .slice A0 (l0).length cap0), (1, .int .i64 (p1)), (7, .int .i64 (((l0).length : Int))), (8, .int .i64 (x1))] a' ∧ Sl 1 encI w' fp0 A0 l0 ∧ Chg [] w0 w' ∧ w0.heap.size ≤ w'.heap.size) hr1 (fun hst => ⟨0, rfl, Fr.of hst (by kernel_rfl), F0, hB, hZ⟩) ?_
  rintro _ c1 a' w1 ⟨x1, rfl, hF1, F1, hB, hZ⟩ hx1
  refine Fr.goOn hF1 (by kernel_rfl) ?_
  have hm := hx1
  unfold m_slices_Index_int64_int64_s1 at hm
  refine cW_seq ?_
  refine cW_region ?_
  refine wS_pure 1 [(9, .bool (decide (x1 < (((l0).length : Int)))))] (by kernel_rfl) ?_
  refine wS_end (by rfl) ?_
  refine eX_then ?_
  refine cW_seq ?_
  refine cW_cond (t := decide (x1 < (((l0).length : Int)))) (by kernel_rfl) (fun hb1 => ?_) (fun hb1 => ?_)
  ·have hm := condT hb1 hm
   refine cW_skip ?_
   refine eX_then ?_
   refine cW_seq ?_
   refine cW_block ?_
   refine cW_seq ?_
   refine cW_region ?_
   refine wS_pure 2 [(5, .int .i64 (x1)), (10, .int .i64 (x1))] (by kernel_rfl) ?_
   refine wS_end (by rfl) ?_
   refine eX_then ?_
   refine cW_seq ?_
   refine cW_region ?_
   refine wS_pure 3 [(13, .int .i64 (x1)), (12, .slice A0 (l0).length cap0), (11, .int .i64 (p1))] (by kernel_rfl) ?_
   obtain ⟨x2, hx2, hm⟩ := bindE hm
   refine wS_idx (d := 14) (T := 24) (A := A0) (n := (l0).length) (cap := cap0) (kd := .i64) (m := x1) (by kernel_rfl) sl24 (F1.is hx2) ?_
   refine wS_load1 (d := 15) (T := 2) (ad := (elA A0 1 (x1) 0)) (v := .int .i64 (x2)) (by kernel_rfl) vt2 (Sl.cell F1 hx2 0 (by rfl)) ?_
   refine wS_pure 1 [(16, .bool (p1 == x2))] (by kernel_rfl) ?_
   refine wS_end (by rfl) ?_
   refine eX_then ?_
   refine cW_cond (t := p1 == x2) (by kernel_rfl) (fun hb2 => ?_) (fun hb2 => ?_)
   ·have hm := condT hb2 hm
    refine cW_seq ?_
    refine cW_region ?_
    refine wS_pure 2 [(4, .int .i64 (x1)), (17, .int .i64 (x1))] (by kernel_rfl) ?_
    refine wS_end (by rfl) ?_
    refine eX_then ?_
    refine cW_ret ?_
    refine eX_block_ret ?_
    refine eX_then_ret ?_
    have hq : (some (Ctl.out (Sum.inr x1)) : Option (Ctl (Int) (Sum (Unit) ((Int))))) = some _ := hm
    replace hq := someE hq
    subst hq
    refine eX_outR hx1 (fun hr => ?_)
    subst hr
    refine eX_block_ret ?_
    refine eX_then_ret ?_
    refine eX_then_ret ?_
    have hq : (some x1 : Option ((Int))) = some _ := hm1
    replace hq := someE hq
    subst hq
    refine eX_ret (vs := [.int .i64 (x1)]) [.tmp 4] (by rfl) ⟨by (show lkE _ _ _ = _); kernel_rfl, trivial⟩ ?_
    exact ⟨rfl, hB⟩
   ·have hm := condF hb2 hm
    refine cW_skip ?_
    refine eX_block ?_
    refine eX_then ?_
    refine cW_region ?_
    refine wS_pure 2 [(8, .int .i64 (wr (x1 + 1))), (18, .int .i64 (wr (x1 + 1)))] (by kernel_rfl) ?_
    refine wS_end (by rfl) ?_
    have hq : (some (Ctl.next (wr (x1 + 1))) : Option (Ctl (Int) (Sum (Unit) ((Int))))) = some _ := hm
    replace hq := someE hq
    subst hq
    exact eX_next hx1 (fun hst => ⟨wr (x1 + 1), rfl, Fr.of hst (by kernel_rfl), F1, hB, hZ⟩)
  ·have hm := condF hb1 hm
   refine cW_exit ?_
   refine eX_then_exit ?_
   have hq : (some (Ctl.out (Sum.inl (()))) : Option (Ctl (Int) (Sum (Unit) ((Int))))) = some _ := hm
   replace hq := someE hq
   subst hq
   refine eX_outX hx1 (fun hr2 => ?_)
   replace hr2 := hr2.symm
   subst hr2
   refine eX_block_hit ?_
   exact eX_J (fun hst => ⟨rfl, Fr.of hst (by kernel_rfl), hB, hZ⟩)
 ·rintro a' w2 ⟨hJ, hF2, hB, hZ⟩
  subst hJ
  refine Fr.goX hF2 (by kernel_rfl) ?_
  refine eX_then ?_
  refine cW_seq ?_
  refine cW_region ?_
  refine wS_pure 1 [(4, .int .i64 ((-1)))] (by kernel_rfl) ?_
  refine wS_end (by rfl) ?_
  refine eX_then ?_
  refine cW_ret ?_
  have hq : (some ((-1)) : Option ((Int))) = some _ := hm
  replace hq := someE hq
  subst hq
  refine eX_ret (vs := [.int .i64 ((-1))]) [.tmp 4] (by rfl) ⟨by (show lkE _ _ _ = _); kernel_rfl, trivial⟩ ?_
  exact ⟨rfl, hB⟩

set_option maxRecDepth 100000 in
/-- slices.Contains[[]int64,int64] -/
theorem c_slices_Contains_int64_int64 {w0 : World} {l0 : List (Int)} {A0 : Option Addr} {cap0 : Nat} {fp0 : List Nat} {p1 : Int} {r : (Bool)} (hm : m_slices_Contains_int64_int64 l0 p1 = some r) (F0 : Sl 1 encI w0 fp0 A0 l0) :
  Calls Tryd.prog 86 #[.slice A0 (l0).length cap0, .int .i64 (p1)] w0 fun e w' => e = .returned (.bool (r)) ∧ Chg [] w0 w' := by
 have L0 := F0.low
 have hB : Chg [] w0 w0 := Chg.refl _ _
 have hZ := Nat.le_refl w0.heap.size
 unfold m_slices_Contains_int64_int64 at hm
 refine enterE (N := 9) Tryd.func86 (by rfl) Tryd.ntmps86 (by simp) [(0, .slice A0 (l0).length cap0), (1, .int .i64 (p1))] (by rfl) (by kernel_rfl) (fun a => ?_)
 refine cW_seq ?_
 refine cW_region ?_
 refine wS_pure 1 [(4, .bool (false))] (by kernel_rfl) ?_
 refine wS_end (by rfl) ?_
 refine eX_then ?_
 refine cW_seq ?_
 refine cW_region ?_
 refine wS_pure 2 [(6, .int .i64 (p1)), (5, .slice A0 (l0).length cap0)] (by kernel_rfl) ?_
 obtain ⟨y1, hy1, hm⟩ := bindE hm
 refine wS_calls (d := 7) (f := 93) (vs := [.slice A0 (l0).length cap0, .int .i64 (p1)]) (by kernel_rfl) ent93 (c_slices_Index_int64_int64 hy1 F0) ?_
 rintro _ w1 ⟨rfl, hc1⟩
 replace F0 := F0.chg hc1 Dj.nil
 replace hB := hB.inS hc1 inNil
 replace hZ := Nat.le_trans hZ hc1.size
 refine ⟨.int .i64 (y1), rfl, ?_⟩
 refine wS_pure 2 [(4, .bool (decide (y1 ≥ 0))), (8, .bool (decide (y1 ≥ 0)))] (by kernel_rfl) ?_
 refine wS_end (by rfl) ?_
 refine eX_then ?_
 refine cW_ret ?_
 have hq : (some (decide (y1 ≥ 0)) : Option ((Bool))) = some _ := hm
 replace hq := someE hq
 subst hq
 refine eX_ret (vs := [.bool (decide (y1 ≥ 0))]) [.tmp 4] (by rfl) ⟨by (show lkE _ _ _ = _); kernel_rfl, trivial⟩ ?_
 exact ⟨rfl, hB⟩

set_option maxRecDepth 100000 in
/-- impl.newOrder -/
theorem c_impl_newOrder {w0 : World} {p0 : Int} {r : ((List (Int)) × (List (Int)))} (hm : m_impl_newOrder p0 = some r)  :
  Calls Tryd.prog 77 #[.int .i64 (p0)] w0 fun e w' => ∃ A100_0 cap100_0 fp100_0, ∃ A100_1 cap100_1 fp100_1, e = .returned (.agg #[.slice A100_0 (r.1).length cap100_0, .slice A100_1 (r.2).length cap100_1]) ∧ Ow 1 encI 3 w' fp100_0 A100_0 cap100_0 r.1 ∧ (∀ x ∈ fp100_0, w0.heap.size ≤ x) ∧ Ow 1 encI 3 w' fp100_1 A100_1 cap100_1 r.2 ∧ (∀ x ∈ fp100_1, w0.heap.size ≤ x) ∧ Dj fp100_0 fp100_1 ∧ Chg [] w0 w' := by
 have hB : Chg [] w0 w0 := Chg.refl _ _
 have hZ := Nat.le_refl w0.heap.size
 unfold m_impl_newOrder at hm
 refine enterE (N := 8) Tryd.func77 (by rfl) Tryd.ntmps77 (by simp) [(0, .int .i64 (p0))] (by rfl) (by kernel_rfl) (fun a => ?_)
 refine cW_seq ?_
 refine cW_region ?_
 refine wS_alloc (d := 2) (T := 58) (z := .agg #[.slice none 0 0, .slice none 0 0]) (by kernel_rfl) (by kernel_rfl) ?_
 intro b1 w1 G1 F1 hc1
 replace F1 : Cl w1 b1 58 [.slice none 0 0, .slice none 0 0] := F1
 replace hB := hB.inS hc1 inNil
 replace G1 := Nat.le_trans hZ G1
 replace hZ := Nat.le_trans hZ hc1.size
 refine wS_end (by rfl) ?_
 refine eX_then ?_
 refine cW_seq ?_
 obtain ⟨s1, hs1, hm⟩ := bindE hm
 refine cW_cut (fun a' w' => ∃ l1 : List (Int), ∃ A1 : Option Addr, ∃ cap1 : Nat, ∃ fp1 : List Nat, ∃ l2 : List (Int), ∃ A2 : Option Addr, ∃ cap2 : Nat, ∃ fp2 : List Nat, (l1, l2) = s1 ∧ Fr 8 [(2, .pointer (some ⟨b1, 0, none⟩))] a' ∧ Cl w' b1 58 [.slice A1 (l1).length cap1, .slice A2 (l2).length cap2] ∧ Ow 1 encI 3 w' fp1 A1 cap1 l1 ∧ Ow 1 encI 3 w' fp2 A2 cap2 l2 ∧ (∀ x ∈ fp1, w0.heap.size ≤ x) ∧ (∀ x ∈ fp2, w0.heap.size ≤ x) ∧ Dj [b1] fp1 ∧ Dj fp2 fp1 ∧ Dj [b1] fp2 ∧ Chg [] w0 w' ∧ w0.heap.size ≤ w'.heap.size) ?_ ?_
 ·have hm := hs1
  refine cW_drawnTail [] 4 (by kernel_rfl) (by kernel_rfl) (fun w2 hc2 => ?_)
  replace F1 := F1.chg hc2 notNil
  replace hB := hB.inS hc2 inNil
  replace hZ := Nat.le_trans hZ hc2.size
  have hS := Chg.refl [] w2
  have Z1 := F1
  refine wH_take [0, 2] [2, 0] [(5, .int .i64 (p0)), (3, .int .i64 (p0))] (by kernel_rfl) (qT (qT (qT qZ))) (by kernel_rfl) ?_
  refine wH_all [1, 3] (by rfl) (by kernel_rfl) (by simp) ⟨⟨by kernel_rfl, ?_⟩, ⟨by kernel_rfl, ?_⟩, trivial⟩
  ·skip
   obtain ⟨_, hk1, hm⟩ := bindE hm
   replace hk1 := mkE hk1
   refine wS_make (enc := encI) (x0 := (0 : Int)) (d := 4) (t := 56) (T := 3) (k1 := .i64) (k2 := .i64) (m := p0) (by kernel_rfl) el56 encI_ok (by rfl) hk1.1 hk1.2 ?_
   intro b2 w3 G2 F2 hc3
   have D1 : Dj [b1] [b2] := Dj.of (lt1 F1.lt) (low1 G2)
   replace F1 := F1.chg hc3 notNil
   replace hB := hB.inS hc3 inNil
   have hSz := hS
   replace hS := hS.inS hc3 inNil
   have Gz1 := low1 (Nat.le_trans hSz.size G2)
   replace G2 := Nat.le_trans hZ G2
   replace G2 := low1 G2
   replace hZ := Nat.le_trans hZ hc3.size
   refine wS_end (by kernel_rfl) ?_
   refine eX_KH hS ?_
   refine wH_all [3] (by rfl) (by kernel_rfl) (by simp) ⟨⟨by kernel_rfl, ?_⟩, trivial⟩
   obtain ⟨_, hk2, hm⟩ := bindE hm
   replace hk2 := mkE hk2
   refine wS_make (enc := encI) (x0 := (0 : Int)) (d := 6) (t := 56) (T := 3) (k1 := .i64) (k2 := .i64) (m := p0) (by kernel_rfl) el56 encI_ok (by rfl) hk2.1 hk2.2 ?_
   intro b3 w4 G3 F3 hc4
   have D2 : Dj [b1] [b3] := Dj.of (lt1 F1.lt) (low1 G3)
   have D3 : Dj [b2] [b3] := Dj.of F2.low (low1 G3)
   replace F1 := F1.chg hc4 notNil
   replace F2 := F2.chg hc4 Dj.nil
   replace hB := hB.inS hc4 inNil
   have hSz := hS
   replace hS := hS.inS hc4 inNil
   have Gz2 := low1 (Nat.le_trans hSz.size G3)
   replace G3 := Nat.le_trans hZ G3
   replace G3 := low1 G3
   replace hZ := Nat.le_trans hZ hc4.size
   refine wS_end (by kernel_rfl) ?_
   refine eX_KH hS ?_
   refine wH_done (by kernel_rfl) ?_
   refine eX_tail ?_
   refine wS_pure 1 [(7, .agg #[.slice (some ⟨b2, 0, none⟩) (List.replicate (Int.toNat p0) ((0 : Int))).length (Int.toNat p0), .slice (some ⟨b3, 0, none⟩) (List.replicate (Int.toNat p0) ((0 : Int))).length (Int.toNat p0)])] (by kernel_rfl) ?_
   refine wS_store (T := 58) (g := b1) (o := 0) (ad := ⟨b1, 0, none⟩) (v := .agg #[.slice (some ⟨b2, 0, none⟩) (List.replicate (Int.toNat p0) ((0 : Int))).length (Int.toNat p0), .slice (some ⟨b3, 0, none⟩) (List.replicate (Int.toNat p0) ((0 : Int))).length (Int.toNat p0)]) (vs := [.slice (some ⟨b2, 0, none⟩) (List.replicate (Int.toNat p0) ((0 : Int))).length (Int.toNat p0), .slice (some ⟨b3, 0, none⟩) (List.replicate (Int.toNat p0) ((0 : Int))).length (Int.toNat p0)]) (by kernel_rfl) (by rfl) sz58 (by rfl) (by rfl) F1 (by simp only [List.length_cons, List.length_nil]; omega) ?_
   intro w5 F4 hc5
   replace F2 := F2.chg hc5 (D1).symm
   replace F3 := F3.chg hc5 (D2).symm
   replace hB := hB.inS hc5 (inLow (low1 G1))
   replace hZ := Nat.le_trans hZ hc5.size
   replace F4 : Cl w5 b1 58 [.slice (some ⟨b2, 0, none⟩) (List.replicate (Int.toNat p0) ((0 : Int))).length (Int.toNat p0), .slice (some ⟨b3, 0, none⟩) (List.replicate (Int.toNat p0) ((0 : Int))).length (Int.toNat p0)] := F4
   clear F1
   refine wS_end (by rfl) ?_
   have hq : (some ((List.replicate (Int.toNat p0) ((0 : Int)), List.replicate (Int.toNat p0) ((0 : Int)))) : Option ((List (Int)) × (List (Int)))) = some _ := hm
   replace hq := someE hq
   subst hq
   exact eX_J (fun hst => ⟨List.replicate (Int.toNat p0) ((0 : Int)), (some ⟨b2, 0, none⟩), (Int.toNat p0), [b2], List.replicate (Int.toNat p0) ((0 : Int)), (some ⟨b3, 0, none⟩), (Int.toNat p0), [b3], rfl, Fr.of hst (by kernel_rfl), F4, F2, F3, G2, G3, D1, (D3).symm, D2, hB, hZ⟩)
  ·skip
   obtain ⟨_, hk3, hm⟩ := bindE hm
   replace hk3 := mkE hk3
   refine wS_make (enc := encI) (x0 := (0 : Int)) (d := 6) (t := 56) (T := 3) (k1 := .i64) (k2 := .i64) (m := p0) (by kernel_rfl) el56 encI_ok (by rfl) hk3.1 hk3.2 ?_
   intro b4 w6 G4 F5 hc6
   have D4 : Dj [b1] [b4] := Dj.of (lt1 F1.lt) (low1 G4)
   replace F1 := F1.chg hc6 notNil
   replace hB := hB.inS hc6 inNil
   have hSz := hS
   replace hS := hS.inS hc6 inNil
   have Gz3 := low1 (Nat.le_trans hSz.size G4)
   replace G4 := Nat.le_trans hZ G4
   replace G4 := low1 G4
   replace hZ := Nat.le_trans hZ hc6.size
   refine wS_end (by kernel_rfl) ?_
   refine eX_KH hS ?_
   refine wH_all [1] (by rfl) (by kernel_rfl) (by simp) ⟨⟨by kernel_rfl, ?_⟩, trivial⟩
   obtain ⟨_, hk4, hm⟩ := bindE hm
   replace hk4 := mkE hk4
   refine wS_make (enc := encI) (x0 := (0 : Int)) (d := 4) (t := 56) (T := 3) (k1 := .i64) (k2 := .i64) (m := p0) (by kernel_rfl) el56 encI_ok (by rfl) hk4.1 hk4.2 ?_
   intro b5 w7 G5 F6 hc7
   have D5 : Dj [b1] [b5] := Dj.of (lt1 F1.lt) (low1 G5)
   have D6 : Dj [b4] [b5] := Dj.of F5.low (low1 G5)
   replace F1 := F1.chg hc7 notNil
   replace F5 := F5.chg hc7 Dj.nil
   replace hB := hB.inS hc7 inNil
   have hSz := hS
   replace hS := hS.inS hc7 inNil
   have Gz4 := low1 (Nat.le_trans hSz.size G5)
   replace G5 := Nat.le_trans hZ G5
   replace G5 := low1 G5
   replace hZ := Nat.le_trans hZ hc7.size
   refine wS_end (by kernel_rfl) ?_
   refine eX_KH hS ?_
   refine wH_done (by kernel_rfl) ?_
   refine eX_tail ?_
   refine wS_pure 1 [(7, .agg #[.slice (some ⟨b5, 0, none⟩) (List.replicate (Int.toNat p0) ((0 : Int))).length (Int.toNat p0), .slice (some ⟨b4, 0, none⟩) (List.replicate (Int.toNat p0) ((0 : Int))).length (Int.toNat p0)])] (by kernel_rfl) ?_
   refine wS_store (T := 58) (g := b1) (o := 0) (ad := ⟨b1, 0, none⟩) (v := .agg #[.slice (some ⟨b5, 0, none⟩) (List.replicate (Int.toNat p0) ((0 : Int))).length (Int.toNat p0), .slice (some ⟨b4, 0, none⟩) (List.replicate (Int.toNat p0) ((0 : Int))).length (Int.toNat p0)]) (vs := [.slice (some ⟨b5, 0, none⟩) (List.replicate (Int.toNat p0) ((0 : Int))).length (Int.toNat p0), .slice (some ⟨b4, 0, none⟩) (List.replicate (Int.toNat p0) ((0 : Int))).length (Int.toNat p0)]) (by kernel_rfl) (by rfl) sz58 (by rfl) (by rfl) F1 (by simp only [List.length_cons, List.length_nil]; omega) ?_
   intro w8 F7 hc8
   replace F5 := F5.chg hc8 (D4).symm
   replace F6 := F6.chg hc8 (D5).symm
   replace hB := hB.inS hc8 (inLow (low1 G1))
   replace hZ := Nat.le_trans hZ hc8.size
   replace F7 : Cl w8 b1 58 [.slice (some ⟨b5, 0, none⟩) (List.replicate (Int.toNat p0) ((0 : Int))).length (Int.toNat p0), .slice (some ⟨b4, 0, none⟩) (List.replicate (Int.toNat p0) ((0 : Int))).length (Int.toNat p0)] := F7
   clear F1
   refine wS_end (by rfl) ?_
   have hq : (some ((List.replicate (Int.toNat p0) ((0 : Int)), List.replicate (Int.toNat p0) ((0 : Int)))) : Option ((List (Int)) × (List (Int)))) = some _ := hm
   replace hq := someE hq
   subst hq
   exact eX_J (fun hst => ⟨List.replicate (Int.toNat p0) ((0 : Int)), (some ⟨b5, 0, none⟩), (Int.toNat p0), [b5], List.replicate (Int.toNat p0) ((0 : Int)), (some ⟨b4, 0, none⟩), (Int.toNat p0), [b4], rfl, Fr.of hst (by kernel_rfl), F7, F6, F5, G5, G4, D5, D6, D4, hB, hZ⟩)
 ·rintro a' w9 ⟨l1, A1, cap1, fp1, l2, A2, cap2, fp2, hJ, hF1, F8, F9, F10, G6, G7, D7, D8, D9, hB, hZ⟩
  subst hJ
  refine Fr.goX hF1 (by kernel_rfl) ?_
  refine eX_then ?_
  refine cW_ret ?_
  have hq : (some ((l1, l2)) : Option (((List (Int)) × (List (Int))))) = some _ := hm
  replace hq := someE hq
  subst hq
  refine eX_ret (vs := [.agg #[.slice A1 (l1).length cap1, .slice A2 (l2).length cap2]]) [.cell 2 58] (by rfl) ⟨⟨⟨b1, 0, none⟩, by kernel_rfl, run_loadVarA (vs := [.slice A1 (l1).length cap1, .slice A2 (l2).length cap2]) vt58 (fun i u hu => by exact box_cells F8 0 hu (by rfl))⟩, trivial⟩ ?_
  exact ⟨A1, cap1, fp1, A2, cap2, fp2, rfl, F9, G6, F10, G7, (D8).symm, hB⟩

set_option maxRecDepth 100000 in
/-- impl.order).fewest$1 -/
theorem c_impl_order_fewest_1_bint_bimplorder_bint_bmapintint {R_impl_order_fewest : (List (Int)) → (List (Int)) → (Int) → (List (Int × Int)) → Option ((Int) × (List (Int × Int)))} (hR_impl_order_fewest : ∀ {w0 : World} {l0_0 : List (Int)} {A0_0 : Option Addr} {cap0_0 : Nat} {fp0_0 : List Nat} {l0_1 : List (Int)} {A0_1 : Option Addr} {cap0_1 : Nat} {fp0_1 : List Nat} {p1 : Int} {l2 : List (Int × Int)} {b2 : Nat} {r : (Int) × (List (Int × Int))} (hm : R_impl_order_fewest l0_0 l0_1 p1 l2 = some r) (F0_0 : Sl 1 encI w0 fp0_0 A0_0 l0_0) (F0_1 : Sl 1 encI w0 fp0_1 A0_1 l0_1) (F2 : Mp okI kI kI w0 b2 l2) (J2__0_0 : Dj [b2] fp0_0) (J2__0_1 : Dj [b2] fp0_1), Calls Tryd.prog 78 #[.agg #[.slice A0_0 (l0_0).length cap0_0, .slice A0_1 (l0_1).length cap0_1], .int .i64 (p1), .map (some b2)] w0 fun e w' => e = .returned (.int .i64 (r.1)) ∧ Mp okI kI kI w' b2 r.2 ∧ Chg ([b2] ++ []) w0 w') {w0 : World} {p0 : Int} {q1_0 : Int} {b1 : Nat} {l2_0 : List (Int)} {A2_0 : Option Addr} {cap2_0 : Nat} {fp2_0 : List Nat} {l2_1 : List (Int)} {A2_1 : Option Addr} {cap2_1 : Nat} {fp2_1 : List Nat} {b2 : Nat} {q3_0 : Int} {b3 : Nat} {l4_0 : List (Int × Int)} {b4_0 : Nat} {b4 : Nat} {r : (Int) × (List (Int × Int))} (hm : m_impl_order_fewest_1_bint_bimplorder_bint_bmapintint  R_impl_order_fewest p0 q1_0 l2_0 l2_1 q3_0 l4_0 = some r) (F1 : Cl w0 b1 3 [.int .i64 (q1_0)]) (F2_0 : Sl 1 encI w0 fp2_0 A2_0 l2_0) (F2_1 : Sl 1 encI w0 fp2_1 A2_1 l2_1) (F2 : Cl w0 b2 58 [.slice A2_0 (l2_0).length cap2_0, .slice A2_1 (l2_1).length cap2_1]) (F3 : Cl w0 b3 3 [.int .i64 (q3_0)]) (F4_0 : Mp okI kI kI w0 b4_0 l4_0) (F4 : Cl w0 b4 105 [.map (some b4_0)]) (J1__2_0 : Dj [b1] fp2_0) (J1__2_1 : Dj [b1] fp2_1) (J1__2 : Dj [b1] [b2]) (J1__3 : Dj [b1] [b3]) (J1__4_0 : Dj [b1] [b4_0]) (J1__4 : Dj [b1] [b4]) (J4_0__2_0 : Dj [b4_0] fp2_0) (J4_0__2_1 : Dj [b4_0] fp2_1) (J4_0__2 : Dj [b4_0] [b2]) (J4_0__3 : Dj [b4_0] [b3]) (J4_0__4 : Dj [b4_0] [b4]) :
  Calls Tryd.prog 102 #[.int .i64 (p0), .pointer (some ⟨b1, 0, none⟩), .pointer (some ⟨b2, 0, none⟩), .pointer (some ⟨b3, 0, none⟩), .pointer (some ⟨b4, 0, none⟩)] w0 fun e w' => e = .returned (.tuple #[]) ∧ Cl w' b1 3 [.int .i64 (r.1)] ∧ Mp okI kI kI w' b4_0 r.2 ∧ Chg ([b1] ++ ([b4_0] ++ [])) w0 w' := by
 have L1 := lt1 F1.lt
 have L2_0 := F2_0.low
 have L2_1 := F2_1.low
 have L2 := lt1 F2.lt
 have L3 := lt1 F3.lt
 have L4_0 := F4_0.low
 have L4 := lt1 F4.lt
 have hB : Chg ([b1] ++ ([b4_0] ++ [])) w0 w0 := Chg.refl _ _
 have hZ := Nat.le_refl w0.heap.size
 unfold m_impl_order_fewest_1_bint_bimplorder_bint_bmapintint at hm
 refine enterE (N := 15) Tryd.func102 (by rfl) Tryd.ntmps102 (by simp) [(0, .int .i64 (p0)), (1, .pointer (some ⟨b1, 0, none⟩)), (2, .pointer (some ⟨b2, 0, none⟩)), (3, .pointer (some ⟨b3, 0, none⟩)), (4, .pointer (some ⟨b4, 0, none⟩))] (by rfl) (by kernel_rfl) (fun a => ?_)
 refine cW_drawnTail [b4_0] 8 (by kernel_rfl) (by kernel_rfl) (fun w1 hc1 => ?_)
 replace F1 := F1.chg hc1 notNil
 replace F2_0 := F2_0.chg hc1 Dj.nil
 replace F2_1 := F2_1.chg hc1 Dj.nil
 replace F2 := F2.chg hc1 notNil
 replace F3 := F3.chg hc1 notNil
 replace F4_0 := F4_0.chg hc1 Dj.nil
 replace F4 := F4.chg hc1 notNil
 replace hB := hB.inS hc1 inNil
 replace hZ := Nat.le_trans hZ hc1.size
 have hS := Chg.refl [b4_0] w1
 have Z1 := F1
 have Z2 := F2_0
 have Z3 := F2_1
 have Z4 := F2
 have Z5 := F3
 have Z6 := F4_0
 have Z7 := F4
 refine wH_load1 (i := 0) (d := 6) (T := 3) (ad := ⟨b1, 0, none⟩) (v := .int .i64 (q1_0)) (by kernel_rfl) (qT qZ) (by kernel_rfl) (by kernel_rfl) vt3 (fun W hW => (Z1.chg hW (dj1 J1__4_0)).cell 0) ?_
 refine wH_loadA (i := 1) (d := 7) (T := 58) (ad := ⟨b2, 0, none⟩) (vs := [.slice A2_0 (l2_0).length cap2_0, .slice A2_1 (l2_1).length cap2_1]) (by kernel_rfl) (qT qZ) (by kernel_rfl) (by kernel_rfl) vt58 (fun W hW i u hu => box_cells (Z4.chg hW (dj1 (J4_0__2).symm)) 0 hu (by rfl)) ?_
 refine wH_load1 (i := 2) (d := 8) (T := 3) (ad := ⟨b3, 0, none⟩) (v := .int .i64 (q3_0)) (by kernel_rfl) (qT qZ) (by kernel_rfl) (by kernel_rfl) vt3 (fun W hW => (Z5.chg hW (dj1 (J4_0__3).symm)).cell 0) ?_
 refine wH_take [3, 4] [4, 3, 2, 1, 0] [(10, .int .i64 (andNI q3_0 p0)), (9, .int .i64 (p0))] (by kernel_rfl) (qT qZ) (by kernel_rfl) ?_
 refine wH_load1 (i := 5) (d := 11) (T := 105) (ad := ⟨b4, 0, none⟩) (v := .map (some b4_0)) (by kernel_rfl) (qT qZ) (by kernel_rfl) (by kernel_rfl) vt105 (fun W hW => (Z7.chg hW (dj1 (J4_0__4).symm)).cell 0) ?_
 refine wH_all [6] (by rfl) (by kernel_rfl) (by simp) ⟨⟨by kernel_rfl, ?_⟩, trivial⟩
 obtain ⟨y1, hy1, hm⟩ := bindE hm
 refine wS_calls (d := 12) (f := 78) (vs := [.agg #[.slice A2_0 (l2_0).length cap2_0, .slice A2_1 (l2_1).length cap2_1], .int .i64 (andNI q3_0 p0), .map (some b4_0)]) (by kernel_rfl) ent78 (hR_impl_order_fewest hy1 F2_0 F2_1 F4_0 J4_0__2_0 J4_0__2_1) ?_
 rintro _ w2 ⟨rfl, F5, hc2⟩
 replace F1 := F1.chg hc2 (dj1 (Dj.app J1__4_0 Dj.nil))
 replace F2_0 := F2_0.chg hc2 (Dj.app (J4_0__2_0).symm Dj.nil)
 replace F2_1 := F2_1.chg hc2 (Dj.app (J4_0__2_1).symm Dj.nil)
 replace F2 := F2.chg hc2 (dj1 (Dj.app (J4_0__2).symm Dj.nil))
 replace F3 := F3.chg hc2 (dj1 (Dj.app (J4_0__3).symm Dj.nil))
 replace F4 := F4.chg hc2 (dj1 (Dj.app (J4_0__4).symm Dj.nil))
 replace hB := hB.inS hc2 (inApp (inMem (fun x hx => (List.mem_append_right _ (List.mem_append_left _ hx)))) inNil)
 have hSz := hS
 replace hS := hS.trans (hc2.more (fun x hx => by simpa using hx))
 replace hZ := Nat.le_trans hZ hc2.size
 clear F4_0
 refine ⟨.int .i64 (y1.1), rfl, ?_⟩
 refine wS_end (by kernel_rfl) ?_
 refine eX_KH hS ?_
 refine wH_take [7] [7, 6, 5, 4, 3, 2, 1, 0] [(13, .int .i64 (wr (y1.1 + 1)))] (by kernel_rfl) (qT qZ) (by kernel_rfl) ?_
 refine wH_done (by kernel_rfl) ?_
 refine eX_tail ?_
 refine wS_pure 1 [(14, .int .i64 (if (wr (y1.1 + 1)) < q1_0 then (wr (y1.1 + 1)) else q1_0))] (by kernel_rfl) ?_
 refine wS_store (T := 3) (g := b1) (o := 0) (ad := ⟨b1, 0, none⟩) (v := .int .i64 (if (wr (y1.1 + 1)) < q1_0 then (wr (y1.1 + 1)) else q1_0)) (vs := [.int .i64 (if (wr (y1.1 + 1)) < q1_0 then (wr (y1.1 + 1)) else q1_0)]) (by kernel_rfl) (by rfl) sz3 (by rfl) (by rfl) F1 (by simp only [List.length_cons, List.length_nil]; omega) ?_
 intro w3 F6 hc3
 replace F2_0 := F2_0.chg hc3 (J1__2_0).symm
 replace F2_1 := F2_1.chg hc3 (J1__2_1).symm
 replace F2 := F2.chg hc3 (dj1 (J1__2).symm)
 replace F3 := F3.chg hc3 (dj1 (J1__3).symm)
 replace F5 := F5.chg hc3 (J1__4_0).symm
 replace F4 := F4.chg hc3 (dj1 (J1__4).symm)
 replace hB := hB.inS hc3 (inMem (fun x hx => (List.mem_append_left _ hx)))
 replace hZ := Nat.le_trans hZ hc3.size
 replace F6 : Cl w3 b1 3 [.int .i64 (if (wr (y1.1 + 1)) < q1_0 then (wr (y1.1 + 1)) else q1_0)] := F6
 clear F1
 refine wS_end (by rfl) ?_
 have hq : (some ((if (wr (y1.1 + 1)) < q1_0 then (wr (y1.1 + 1)) else q1_0, y1.2)) : Option ((Int) × (List (Int × Int)))) = some _ := hm
 replace hq := someE hq
 subst hq
 refine eX_fall (vs := []) [] (by rfl) trivial ?_
 exact ⟨rfl, F6, F5, hB⟩

set_option maxRecDepth 100000 in
/-- impl.order).first$1 -/
theorem c_impl_order_first_1_bfuncint_impl_order_fewest_1_bint_bimplorder_bint_bmapintint_bint_bimplorder_bfuncintint_self_body {R_impl_order_fewest : (List (Int)) → (List (Int)) → (Int) → (List (Int × Int)) → Option ((Int) × (List (Int × Int)))} (hR_impl_order_fewest : ∀ {w0 : World} {l0_0 : List (Int)} {A0_0 : Option Addr} {cap0_0 : Nat} {fp0_0 : List Nat} {l0_1 : List (Int)} {A0_1 : Option Addr} {cap0_1 : Nat} {fp0_1 : List Nat} {p1 : Int} {l2 : List (Int × Int)} {b2 : Nat} {r : (Int) × (List (Int × Int))} (hm : R_impl_order_fewest l0_0 l0_1 p1 l2 = some r) (F0_0 : Sl 1 encI w0 fp0_0 A0_0 l0_0) (F0_1 : Sl 1 encI w0 fp0_1 A0_1 l0_1) (F2 : Mp okI kI kI w0 b2 l2) (J2__0_0 : Dj [b2] fp0_0) (J2__0_1 : Dj [b2] fp0_1), Calls Tryd.prog 78 #[.agg #[.slice A0_0 (l0_0).length cap0_0, .slice A0_1 (l0_1).length cap0_1], .int .i64 (p1), .map (some b2)] w0 fun e w' => e = .returned (.int .i64 (r.1)) ∧ Mp okI kI kI w' b2 r.2 ∧ Chg ([b2] ++ []) w0 w') {R : (Int) → (Int) → (Int) → (List (Int)) → (List (Int)) → (Int) → (List (Int × Int)) → (List (Int)) → (List (Int)) → (List (Int)) → Option ((Int) × (List (Int × Int)))} (hR : ∀ {w0 : World} {p0 : Int} {p1 : Int} {q2_0_0_0 : Int} {b2_0_0 : Nat} {l2_0_1_0 : List (Int)} {A2_0_1_0 : Option Addr} {cap2_0_1_0 : Nat} {fp2_0_1_0 : List Nat} {l2_0_1_1 : List (Int)} {A2_0_1_1 : Option Addr} {cap2_0_1_1 : Nat} {fp2_0_1_1 : List Nat} {b2_0_1 : Nat} {q2_0_2_0 : Int} {b2_0_2 : Nat} {l2_0_3_0 : List (Int × Int)} {b2_0_3_0 : Nat} {b2_0_3 : Nat} {b2 : Nat} {l3_0 : List (Int)} {A3_0 : Option Addr} {cap3_0 : Nat} {fp3_0 : List Nat} {b3 : Nat} {l4_0 : List (Int)} {A4_0 : Option Addr} {cap4_0 : Nat} {fp4_0 : List Nat} {l4_1 : List (Int)} {A4_1 : Option Addr} {cap4_1 : Nat} {fp4_1 : List Nat} {b4 : Nat} {b5 : Nat} {r : (Int) × (List (Int × Int))} (hm : R p0 p1 q2_0_0_0 l2_0_1_0 l2_0_1_1 q2_0_2_0 l2_0_3_0 l3_0 l4_0 l4_1 = some r) (F2_0_0 : Cl w0 b2_0_0 3 [.int .i64 (q2_0_0_0)]) (F2_0_1_0 : Sl 1 encI w0 fp2_0_1_0 A2_0_1_0 l2_0_1_0) (F2_0_1_1 : Sl 1 encI w0 fp2_0_1_1 A2_0_1_1 l2_0_1_1) (F2_0_1 : Cl w0 b2_0_1 58 [.slice A2_0_1_0 (l2_0_1_0).length cap2_0_1_0, .slice A2_0_1_1 (l2_0_1_1).length cap2_0_1_1]) (F2_0_2 : Cl w0 b2_0_2 3 [.int .i64 (q2_0_2_0)]) (F2_0_3_0 : Mp okI kI kI w0 b2_0_3_0 l2_0_3_0) (F2_0_3 : Cl w0 b2_0_3 105 [.map (some b2_0_3_0)]) (F2 : Cl w0 b2 108 [.func (.func 102) #[] #[.pointer (some ⟨b2_0_0, 0, none⟩), .pointer (some ⟨b2_0_1, 0, none⟩), .pointer (some ⟨b2_0_2, 0, none⟩), .pointer (some ⟨b2_0_3, 0, none⟩)]]) (F3_0 : Sl 1 encI w0 fp3_0 A3_0 l3_0) (F3 : Cl w0 b3 56 [.slice A3_0 (l3_0).length cap3_0]) (F4_0 : Sl 1 encI w0 fp4_0 A4_0 l4_0) (F4_1 : Sl 1 encI w0 fp4_1 A4_1 l4_1) (F4 : Cl w0 b4 58 [.slice A4_0 (l4_0).length cap4_0, .slice A4_1 (l4_1).length cap4_1]) (F5 : Cl w0 b5 127 [.func (.func 103) #[] #[.pointer (some ⟨b2, 0, none⟩), .pointer (some ⟨b3, 0, none⟩), .pointer (some ⟨b4, 0, none⟩), .pointer (some ⟨b5, 0, none⟩)]]) (J2_0_0__2_0_1_0 : Dj [b2_0_0] fp2_0_1_0) (J2_0_0__2_0_1_1 : Dj [b2_0_0] fp2_0_1_1) (J2_0_0__2_0_1 : Dj [b2_0_0] [b2_0_1]) (J2_0_0__2_0_2 : Dj [b2_0_0] [b2_0_2]) (J2_0_0__2_0_3_0 : Dj [b2_0_0] [b2_0_3_0]) (J2_0_0__2_0_3 : Dj [b2_0_0] [b2_0_3]) (J2_0_0__2 : Dj [b2_0_0] [b2]) (J2_0_0__3_0 : Dj [b2_0_0] fp3_0) (J2_0_0__3 : Dj [b2_0_0] [b3]) (J2_0_0__4_0 : Dj [b2_0_0] fp4_0) (J2_0_0__4_1 : Dj [b2_0_0] fp4_1) (J2_0_0__4 : Dj [b2_0_0] [b4]) (J2_0_0__5 : Dj [b2_0_0] [b5]) (J2_0_3_0__2_0_1_0 : Dj [b2_0_3_0] fp2_0_1_0) (J2_0_3_0__2_0_1_1 : Dj [b2_0_3_0] fp2_0_1_1) (J2_0_3_0__2_0_1 : Dj [b2_0_3_0] [b2_0_1]) (J2_0_3_0__2_0_2 : Dj [b2_0_3_0] [b2_0_2]) (J2_0_3_0__2_0_3 : Dj [b2_0_3_0] [b2_0_3]) (J2_0_3_0__2 : Dj [b2_0_3_0] [b2]) (J2_0_3_0__3_0 : Dj [b2_0_3_0] fp3_0) (J2_0_3_0__3 : Dj [b2_0_3_0] [b3]) (J2_0_3_0__4_0 : Dj [b2_0_3_0] fp4_0) (J2_0_3_0__4_1 : Dj [b2_0_3_0] fp4_1) (J2_0_3_0__4 : Dj [b2_0_3_0] [b4]) (J2_0_3_0__5 : Dj [b2_0_3_0] [b5]), Calls Tryd.prog 103 #[.int .i64 (p0), .int .i64 (p1), .pointer (some ⟨b2, 0, none⟩), .pointer (some ⟨b3, 0, none⟩), .pointer (some ⟨b4, 0, none⟩), .pointer (some ⟨b5, 0, none⟩)] w0 fun e w' => e = .returned (.tuple #[]) ∧ Cl w' b2_0_0 3 [.int .i64 (r.1)] ∧ Mp okI kI kI w' b2_0_3_0 r.2 ∧ Chg ([b2_0_0] ++ ([b2_0_3_0] ++ [])) w0 w') {w0 : World} {p0 : Int} {p1 : Int} {q2_0_0_0 : Int} {b2_0_0 : Nat} {l2_0_1_0 : List (Int)} {A2_0_1_0 : Option Addr} {cap2_0_1_0 : Nat} {fp2_0_1_0 : List Nat} {l2_0_1_1 : List (Int)} {A2_0_1_1 : Option Addr} {cap2_0_1_1 : Nat} {fp2_0_1_1 : List Nat} {b2_0_1 : Nat} {q2_0_2_0 : Int} {b2_0_2 : Nat} {l2_0_3_0 : List (Int × Int)} {b2_0_3_0 : Nat} {b2_0_3 : Nat} {b2 : Nat} {l3_0 : List (Int)} {A3_0 : Option Addr} {cap3_0 : Nat} {fp3_0 : List Nat} {b3 : Nat} {l4_0 : List (Int)} {A4_0 : Option Addr} {cap4_0 : Nat} {fp4_0 : List Nat} {l4_1 : List (Int)} {A4_1 : Option Addr} {cap4_1 : Nat} {fp4_1 : List Nat} {b4 : Nat} {b5 : Nat} {r : (Int) × (List (Int × Int))} (hm : m_impl_order_first_1_bfuncint_impl_order_fewest_1_bint_bimplorder_bint_bmapintint_bint_bimplorder_bfuncintint_self_body  R_impl_order_fewest R p0 p1 q2_0_0_0 l2_0_1_0 l2_0_1_1 q2_0_2_0 l2_0_3_0 l3_0 l4_0 l4_1 = some r) (F2_0_0 : Cl w0 b2_0_0 3 [.int .i64 (q2_0_0_0)]) (F2_0_1_0 : Sl 1 encI w0 fp2_0_1_0 A2_0_1_0 l2_0_1_0) (F2_0_1_1 : Sl 1 encI w0 fp2_0_1_1 A2_0_1_1 l2_0_1_1) (F2_0_1 : Cl w0 b2_0_1 58 [.slice A2_0_1_0 (l2_0_1_0).length cap2_0_1_0, .slice A2_0_1_1 (l2_0_1_1).length cap2_0_1_1]) (F2_0_2 : Cl w0 b2_0_2 3 [.int .i64 (q2_0_2_0)]) (F2_0_3_0 : Mp okI kI kI w0 b2_0_3_0 l2_0_3_0) (F2_0_3 : Cl w0 b2_0_3 105 [.map (some b2_0_3_0)]) (F2 : Cl w0 b2 108 [.func (.func 102) #[] #[.pointer (some ⟨b2_0_0, 0, none⟩), .pointer (some ⟨b2_0_1, 0, none⟩), .pointer (some ⟨b2_0_2, 0, none⟩), .pointer (some ⟨b2_0_3, 0, none⟩)]]) (F3_0 : Sl 1 encI w0 fp3_0 A3_0 l3_0) (F3 : Cl w0 b3 56 [.slice A3_0 (l3_0).length cap3_0]) (F4_0 : Sl 1 encI w0 fp4_0 A4_0 l4_0) (F4_1 : Sl 1 encI w0 fp4_1 A4_1 l4_1) (F4 : Cl w0 b4 58 [.slice A4_0 (l4_0).length cap4_0, .slice A4_1 (l4_1).length cap4_1]) (F5 : Cl w0 b5 127 [.func (.func 103) #[] #[.pointer (some ⟨b2, 0, none⟩), .pointer (some ⟨b3, 0, none⟩), .pointer (some ⟨b4, 0, none⟩), .pointer (some ⟨b5, 0, none⟩)]]) (J2_0_0__2_0_1_0 : Dj [b2_0_0] fp2_0_1_0) (J2_0_0__2_0_1_1 : Dj [b2_0_0] fp2_0_1_1) (J2_0_0__2_0_1 : Dj [b2_0_0] [b2_0_1]) (J2_0_0__2_0_2 : Dj [b2_0_0] [b2_0_2]) (J2_0_0__2_0_3_0 : Dj [b2_0_0] [b2_0_3_0]) (J2_0_0__2_0_3 : Dj [b2_0_0] [b2_0_3]) (J2_0_0__2 : Dj [b2_0_0] [b2]) (J2_0_0__3_0 : Dj [b2_0_0] fp3_0) (J2_0_0__3 : Dj [b2_0_0] [b3]) (J2_0_0__4_0 : Dj [b2_0_0] fp4_0) (J2_0_0__4_1 : Dj [b2_0_0] fp4_1) (J2_0_0__4 : Dj [b2_0_0] [b4]) (J2_0_0__5 : Dj [b2_0_0] [b5]) (J2_0_3_0__2_0_1_0 : Dj [b2_0_3_0] fp2_0_1_0) (J2_0_3_0__2_0_1_1 : Dj [b2_0_3_0] fp2_0_1_1) (J2_0_3_0__2_0_1 : Dj [b2_0_3_0] [b2_0_1]) (J2_0_3_0__2_0_2 : Dj [b2_0_3_0] [b2_0_2]) (J2_0_3_0__2_0_3 : Dj [b2_0_3_0] [b2_0_3]) (J2_0_3_0__2 : Dj [b2_0_3_0] [b2]) (J2_0_3_0__3_0 : Dj [b2_0_3_0] fp3_0) (J2_0_3_0__3 : Dj [b2_0_3_0] [b3]) (J2_0_3_0__4_0 : Dj [b2_0_3_0] fp4_0) (J2_0_3_0__4_1 : Dj [b2_0_3_0] fp4_1) (J2_0_3_0__4 : Dj [b2_0_3_0] [b4]) (J2_0_3_0__5 : Dj [b2_0_3_0] [b5]) :
  Calls Tryd.prog 103 #[.int .i64 (p0), .int .i64 (p1), .pointer (some ⟨b2, 0, none⟩), .pointer (some ⟨b3, 0, none⟩), .pointer (some ⟨b4, 0, none⟩), .pointer (some ⟨b5, 0, none⟩)] w0 fun e w' => e = .returned (.tuple #[]) ∧ Cl w' b2_0_0 3 [.int .i64 (r.1)] ∧ Mp okI kI kI w' b2_0_3_0 r.2 ∧ Chg ([b2_0_0] ++ ([b2_0_3_0] ++ [])) w0 w' := by
 have L2_0_0 := lt1 F2_0_0.lt
 have L2_0_1_0 := F2_0_1_0.low
 have L2_0_1_1 := F2_0_1_1.low
 have L2_0_1 := lt1 F2_0_1.lt
 have L2_0_2 := lt1 F2_0_2.lt
 have L2_0_3_0 := F2_0_3_0.low
 have L2_0_3 := lt1 F2_0_3.lt
 have L2 := lt1 F2.lt
 have L3_0 := F3_0.low
 have L3 := lt1 F3.lt
 have L4_0 := F4_0.low
 have L4_1 := F4_1.low
 have L4 := lt1 F4.lt
 have L5 := lt1 F5.lt
 have hB : Chg ([b2_0_0] ++ ([b2_0_3_0] ++ [])) w0 w0 := Chg.refl _ _
 have hZ := Nat.le_refl w0.heap.size
 unfold m_impl_order_first_1_bfuncint_impl_order_fewest_1_bint_bimplorder_bint_bmapintint_bint_bimplorder_bfuncintint_self_body at hm
 refine enterE (N := 43) Tryd.func103 (by rfl) Tryd.ntmps103 (by simp) [(0, .int .i64 (p0)), (1, .int .i64 (p1)), (2, .pointer (some ⟨b2, 0, none⟩)), (3, .pointer (some ⟨b3, 0, none⟩)), (4, .pointer (some ⟨b4, 0, none⟩)), (5, .pointer (some ⟨b5, 0, none⟩))] (by rfl) (by kernel_rfl) (fun a => ?_)
 obtain ⟨s1, hs1, hm⟩ := bindE hm
 refine cW_cut (fun a' w' => ∃ x1 : Int, ∃ l1 : List (Int × Int), (x1, l1) = s1 ∧ Fr 43 [] a' ∧ Cl w' b2_0_0 3 [.int .i64 (x1)] ∧ Mp okI kI kI w' b2_0_3_0 l1 ∧ Chg ([b2_0_0] ++ ([b2_0_3_0] ++ [])) w0 w' ∧ w0.heap.size ≤ w'.heap.size) ?_ ?_
 ·have hm := hs1
  refine cW_seq ?_
  obtain ⟨s2, hs2, hm⟩ := bindE hm
  refine cW_cut (fun a' w' => ∃ x2 : Int, ∃ l2 : List (Int × Int), (x2, l2) = s2 ∧ Fr 43 [(0, .int .i64 (p0)), (1, .int .i64 (p1)), (3, .pointer (some ⟨b3, 0, none⟩)), (4, .pointer (some ⟨b4, 0, none⟩)), (5, .pointer (some ⟨b5, 0, none⟩))] a' ∧ Cl w' b2_0_0 3 [.int .i64 (x2)] ∧ Sl 1 encI w' fp2_0_1_0 A2_0_1_0 l2_0_1_0 ∧ Sl 1 encI w' fp2_0_1_1 A2_0_1_1 l2_0_1_1 ∧ Cl w' b2_0_1 58 [.slice A2_0_1_0 (l2_0_1_0).length cap2_0_1_0, .slice A2_0_1_1 (l2_0_1_1).length cap2_0_1_1] ∧ Cl w' b2_0_2 3 [.int .i64 (q2_0_2_0)] ∧ Mp okI kI kI w' b2_0_3_0 l2 ∧ Cl w' b2_0_3 105 [.map (some b2_0_3_0)] ∧ Cl w' b2 108 [.func (.func 102) #[] #[.pointer (some ⟨b2_0_0, 0, none⟩), .pointer (some ⟨b2_0_1, 0, none⟩), .pointer (some ⟨b2_0_2, 0, none⟩), .pointer (some ⟨b2_0_3, 0, none⟩)]] ∧ Sl 1 encI w' fp3_0 A3_0 l3_0 ∧ Cl w' b3 56 [.slice A3_0 (l3_0).length cap3_0] ∧ Sl 1 encI w' fp4_0 A4_0 l4_0 ∧ Sl 1 encI w' fp4_1 A4_1 l4_1 ∧ Cl w' b4 58 [.slice A4_0 (l4_0).length cap4_0, .slice A4_1 (l4_1).length cap4_1] ∧ Cl w' b5 127 [.func (.func 103) #[] #[.pointer (some ⟨b2, 0, none⟩), .pointer (some ⟨b3, 0, none⟩), .pointer (some ⟨b4, 0, none⟩), .pointer (some ⟨b5, 0, none⟩)]] ∧ Chg ([b2_0_0] ++ ([b2_0_3_0] ++ [])) w0 w' ∧ w0.heap.size ≤ w'.heap.size) ?_ ?_
  ·have hm := hs2
   refine cW_seq ?_
   refine cW_region ?_
   refine wS_pure 2 [(10, .bool (p1 != 0)), (9, .int .i64 (p1))] (by kernel_rfl) ?_
   refine wS_end (by rfl) ?_
   refine eX_then ?_
   refine cW_cond (t := p1 != 0) (by kernel_rfl) (fun hb1 => ?_) (fun hb1 => ?_)
   ·have hm := condT hb1 hm
    refine cW_region ?_
    refine wS_load1 (d := 11) (T := 108) (ad := ⟨b2, 0, none⟩) (v := .func (.func 102) #[] #[.pointer (some ⟨b2_0_0, 0, none⟩), .pointer (some ⟨b2_0_1, 0, none⟩), .pointer (some ⟨b2_0_2, 0, none⟩), .pointer (some ⟨b2_0_3, 0, none⟩)]) (by kernel_rfl) vt108 ((F2).cell 0) ?_
    refine wS_pure 1 [(12, .int .i64 (p1))] (by kernel_rfl) ?_
    obtain ⟨y1, hy1, hm⟩ := bindE hm
    refine wS_calls (d := 13) (f := 102) (vs := [.int .i64 (p1), .pointer (some ⟨b2_0_0, 0, none⟩), .pointer (some ⟨b2_0_1, 0, none⟩), .pointer (some ⟨b2_0_2, 0, none⟩), .pointer (some ⟨b2_0_3, 0, none⟩)]) (by kernel_rfl) ent102 (c_impl_order_fewest_1_bint_bimplorder_bint_bmapintint hR_impl_order_fewest hy1 F2_0_0 F2_0_1_0 F2_0_1_1 F2_0_1 F2_0_2 F2_0_3_0 F2_0_3 J2_0_0__2_0_1_0 J2_0_0__2_0_1_1 J2_0_0__2_0_1 J2_0_0__2_0_2 J2_0_0__2_0_3_0 J2_0_0__2_0_3 J2_0_3_0__2_0_1_0 J2_0_3_0__2_0_1_1 J2_0_3_0__2_0_1 J2_0_3_0__2_0_2 J2_0_3_0__2_0_3) ?_
    rintro _ w1 ⟨rfl, F1, F6, hc1⟩
    replace F2_0_1_0 := F2_0_1_0.chg hc1 (Dj.app (J2_0_0__2_0_1_0).symm (Dj.app (J2_0_3_0__2_0_1_0).symm Dj.nil))
    replace F2_0_1_1 := F2_0_1_1.chg hc1 (Dj.app (J2_0_0__2_0_1_1).symm (Dj.app (J2_0_3_0__2_0_1_1).symm Dj.nil))
    replace F2_0_1 := F2_0_1.chg hc1 (dj1 (Dj.app (J2_0_0__2_0_1).symm (Dj.app (J2_0_3_0__2_0_1).symm Dj.nil)))
    replace F2_0_2 := F2_0_2.chg hc1 (dj1 (Dj.app (J2_0_0__2_0_2).symm (Dj.app (J2_0_3_0__2_0_2).symm Dj.nil)))
    replace F2_0_3 := F2_0_3.chg hc1 (dj1 (Dj.app (J2_0_0__2_0_3).symm (Dj.app (J2_0_3_0__2_0_3).symm Dj.nil)))
    replace F2 := F2.chg hc1 (dj1 (Dj.app (J2_0_0__2).symm (Dj.app (J2_0_3_0__2).symm Dj.nil)))
    replace F3_0 := F3_0.chg hc1 (Dj.app (J2_0_0__3_0).symm (Dj.app (J2_0_3_0__3_0).symm Dj.nil))
    replace F3 := F3.chg hc1 (dj1 (Dj.app (J2_0_0__3).symm (Dj.app (J2_0_3_0__3).symm Dj.nil)))
    replace F4_0 := F4_0.chg hc1 (Dj.app (J2_0_0__4_0).symm (Dj.app (J2_0_3_0__4_0).symm Dj.nil))
    replace F4_1 := F4_1.chg hc1 (Dj.app (J2_0_0__4_1).symm (Dj.app (J2_0_3_0__4_1).symm Dj.nil))
    replace F4 := F4.chg hc1 (dj1 (Dj.app (J2_0_0__4).symm (Dj.app (J2_0_3_0__4).symm Dj.nil)))
    replace F5 := F5.chg hc1 (dj1 (Dj.app (J2_0_0__5).symm (Dj.app (J2_0_3_0__5).symm Dj.nil)))
    replace hB := hB.inS hc1 (inApp (inMem (fun x hx => (List.mem_append_left _ hx))) (inApp (inMem (fun x hx => (List.mem_append_right _ (List.mem_append_left _ hx)))) inNil))
    replace hZ := Nat.le_trans hZ hc1.size
    clear F2_0_0
    clear F2_0_3_0
    refine ⟨.tuple #[], rfl, ?_⟩
    refine wS_end (by rfl) ?_
    have hq : (some ((y1.1, y1.2)) : Option (Int × (List (Int × Int)))) = some _ := hm
    replace hq := someE hq
    subst hq
    exact eX_J (fun hst => ⟨y1.1, y1.2, rfl, Fr.of hst (by kernel_rfl), F1, F2_0_1_0, F2_0_1_1, F2_0_1, F2_0_2, F6, F2_0_3, F2, F3_0, F3, F4_0, F4_1, F4, F5, hB, hZ⟩)
   ·have hm := condF hb1 hm
    refine cW_skip ?_
    have hq : (some ((q2_0_0_0, l2_0_3_0)) : Option (Int × (List (Int × Int)))) = some _ := hm
    replace hq := someE hq
    subst hq
    exact eX_J (fun hst => ⟨q2_0_0_0, l2_0_3_0, rfl, Fr.of hst (by kernel_rfl), F2_0_0, F2_0_1_0, F2_0_1_1, F2_0_1, F2_0_2, F2_0_3_0, F2_0_3, F2, F3_0, F3, F4_0, F4_1, F4, F5, hB, hZ⟩)
  ·rintro a' w2 ⟨x2, l2, hJ, hF1, F7, F8, F9, F10, F11, F12, F13, F14, F15, F16, F17, F18, F19, F20, hB, hZ⟩
   subst hJ
   refine Fr.goX hF1 (by kernel_rfl) ?_
   refine eX_then ?_
   refine cW_seq ?_
   refine cW_region ?_
   refine wS_pure 2 [(8, .int .i64 (p0)), (14, .int .i64 (p0))] (by kernel_rfl) ?_
   refine wS_end (by rfl) ?_
   refine eX_then ?_
   obtain ⟨r1, hr1, hm⟩ := bindE hm
   have hm1 := hm
   refine cW_cut (fun a' w' => ∃ x3 : Int, ∃ l3 : List (Int × Int), (x3, l3) = r1 ∧ Fr 43 [] a' ∧ Cl w' b2_0_0 3 [.int .i64 (x3)] ∧ Mp okI kI kI w' b2_0_3_0 l3 ∧ Chg ([b2_0_0] ++ ([b2_0_3_0] ++ [])) w0 w' ∧ w0.heap.size ≤ w'.heap.size) ?_ ?_
   ·refine cW_block ?_
    refine cW_loop _ (fun (s3 : Int × Int × (List (Int × Int))) a' w' => ∃ x4 : Int, ∃ x5 : Int, ∃ l4 : List (Int × Int), (x4, x5, l4) = s3 ∧ Fr 43 [(1, .int .i64 (p1)), (3, .pointer (some ⟨b3, 0, none⟩)), (4, .pointer (some ⟨b4, 0, none⟩)), (5, .pointer (some ⟨b5, 0, none⟩)), (8, .int .i64 (x4))] a' ∧ Cl w' b2_0_0 3 [.int .i64 (x5)] ∧ Sl 1 encI w' fp2_0_1_0 A2_0_1_0 l2_0_1_0 ∧ Sl 1 encI w' fp2_0_1_1 A2_0_1_1 l2_0_1_1 ∧ Cl w' b2_0_1 58 [.slice A2_0_1_0 (l2_0_1_0).length cap2_0_1_0, .slice A2_0_1_1 (l2_0_1_1).length cap2_0_1_1] ∧ Cl w' b2_0_2 3 [.int .i64 (q2_0_2_0)] ∧ Mp okI kI kI w' b2_0_3_0 l4 ∧ Cl w' b2_0_3 105 [.map (some b2_0_3_0)] ∧ Cl w' b2 108 [.func (.func 102) #[] #[.pointer (some ⟨b2_0_0, 0, none⟩), .pointer (some ⟨b2_0_1, 0, none⟩), .pointer (some ⟨b2_0_2, 0, none⟩), .pointer (some ⟨b2_0_3, 0, none⟩)]] ∧ Sl 1 encI w' fp3_0 A3_0 l3_0 ∧ Cl w' b3 56 [.slice A3_0 (l3_0).length cap3_0] ∧ Sl 1 encI w' fp4_0 A4_0 l4_0 ∧ Sl 1 encI w' fp4_1 A4_1 l4_1 ∧ Cl w' b4 58 [.slice A4_0 (l4_0).length cap4_0, .slice A4_1 (l4_1).length cap4_1] ∧ Cl w' b5 127 [.func (.func 103) #[] #[.pointer (some ⟨b2, 0, none⟩), .pointer (some ⟨b3, 0, none⟩), .pointer (some ⟨b4, 0, none⟩), .pointer (some ⟨b5, 0, none⟩)]] ∧ Chg ([b2_0_0] ++ ([b2_0_3_0] ++ [])) w0 w' ∧ w0.heap.size ≤ w'.heap.size) hr1 (fun hst => ⟨p0, x2, l2, rfl, Fr.of hst (by kernel_rfl), F7, F8, F9, F10, F11, F12, F13, F14, F15, F16, F17, F18, F19, F20, hB, hZ⟩) ?_
    rintro _ c1 a' w3 ⟨x4, x5, l4, rfl, hF2, F21, F22, F23, F24, F25, F26, F27, F28, F29, F30, F31, F32, F33, F34, hB, hZ⟩ hx1
    refine Fr.goOn hF2 (by kernel_rfl) ?_
    have hm := hx1
    unfold m_impl_order_first_1_bfuncint_impl_order_fewest_1_bint_bimplorder_bint_bmapintint_bint_bimplorder_bfuncintint_self_s2 at hm
    refine cW_seq ?_
    refine cW_seq ?_
    refine cW_region ?_
    refine wS_pure 1 [(15, .int .i64 (x4))] (by kernel_rfl) ?_
    refine wS_load1 (d := 16) (T := 56) (ad := ⟨b3, 0, none⟩) (v := .slice A3_0 (l3_0).length cap3_0) (by kernel_rfl) vt56 ((F30).cell 0) ?_
    refine wS_pure 2 [(18, .bool (decide (x4 < (((l3_0).length : Int))))), (17, .int .i64 (((l3_0).length : Int)))] (by kernel_rfl) ?_
    refine wS_end (by rfl) ?_
    refine eX_then ?_
    refine cW_cond (t := decide (x4 < (((l3_0).length : Int)))) (by kernel_rfl) (fun hb2 => ?_) (fun hb2 => ?_)
    ·have hm := condT hb2 hm
     refine cW_skip ?_
     refine eX_then ?_
     refine cW_seq ?_
     refine cW_block ?_
     obtain ⟨s4, hs3, hm⟩ := bindE hm
     refine cW_cut (fun a' w' => ∃ x6 : Int, ∃ l5 : List (Int × Int), (x6, l5) = s4 ∧ Fr 43 [(1, .int .i64 (p1)), (3, .pointer (some ⟨b3, 0, none⟩)), (4, .pointer (some ⟨b4, 0, none⟩)), (5, .pointer (some ⟨b5, 0, none⟩)), (8, .int .i64 (x4))] a' ∧ Cl w' b2_0_0 3 [.int .i64 (x6)] ∧ Sl 1 encI w' fp2_0_1_0 A2_0_1_0 l2_0_1_0 ∧ Sl 1 encI w' fp2_0_1_1 A2_0_1_1 l2_0_1_1 ∧ Cl w' b2_0_1 58 [.slice A2_0_1_0 (l2_0_1_0).length cap2_0_1_0, .slice A2_0_1_1 (l2_0_1_1).length cap2_0_1_1] ∧ Cl w' b2_0_2 3 [.int .i64 (q2_0_2_0)] ∧ Mp okI kI kI w' b2_0_3_0 l5 ∧ Cl w' b2_0_3 105 [.map (some b2_0_3_0)] ∧ Cl w' b2 108 [.func (.func 102) #[] #[.pointer (some ⟨b2_0_0, 0, none⟩), .pointer (some ⟨b2_0_1, 0, none⟩), .pointer (some ⟨b2_0_2, 0, none⟩), .pointer (some ⟨b2_0_3, 0, none⟩)]] ∧ Sl 1 encI w' fp3_0 A3_0 l3_0 ∧ Cl w' b3 56 [.slice A3_0 (l3_0).length cap3_0] ∧ Sl 1 encI w' fp4_0 A4_0 l4_0 ∧ Sl 1 encI w' fp4_1 A4_1 l4_1 ∧ Cl w' b4 58 [.slice A4_0 (l4_0).length cap4_0, .slice A4_1 (l4_1).length cap4_1] ∧ Cl w' b5 127 [.func (.func 103) #[] #[.pointer (some ⟨b2, 0, none⟩), .pointer (some ⟨b3, 0, none⟩), .pointer (some ⟨b4, 0, none⟩), .pointer (some ⟨b5, 0, none⟩)]] ∧ Chg ([b2_0_0] ++ ([b2_0_3_0] ++ [])) w0 w' ∧ w0.heap.size ≤ w'.heap.size) ?_ ?_
     ·have hm := hs3
      refine cW_seq ?_
      refine cW_drawnTail [] 9 (by kernel_rfl) (by kernel_rfl) (fun w4 hc2 => ?_)
      replace F21 := F21.chg hc2 notNil
      replace F22 := F22.chg hc2 Dj.nil
      replace F23 := F23.chg hc2 Dj.nil
      replace F24 := F24.chg hc2 notNil
      replace F25 := F25.chg hc2 notNil
      replace F26 := F26.chg hc2 Dj.nil
      replace F27 := F27.chg hc2 notNil
      replace F28 := F28.chg hc2 notNil
      replace F29 := F29.chg hc2 Dj.nil
      replace F30 := F30.chg hc2 notNil
      replace F31 := F31.chg hc2 Dj.nil
      replace F32 := F32.chg hc2 Dj.nil
      replace F33 := F33.chg hc2 notNil
      replace F34 := F34.chg hc2 notNil
      replace hB := hB.inS hc2 inNil
      replace hZ := Nat.le_trans hZ hc2.size
      have hS := Chg.refl [] w4
      have Z1 := F21
      have Z2 := F22
      have Z3 := F23
      have Z4 := F24
      have Z5 := F25
      have Z6 := F26
      have Z7 := F27
      have Z8 := F28
      have Z9 := F29
      have Z10 := F30
      have Z11 := F31
      have Z12 := F32
      have Z13 := F33
      have Z14 := F34
      refine wH_take [0] [0] [(21, .pointer (some ⟨b4, 0, none⟩))] (by kernel_rfl) (qT (qT (qT (qB (qT (qL (qB (qT (qT qZ))))))))) (by kernel_rfl) ?_
      refine wH_load1 (i := 1) (d := 22) (T := 56) (ad := ⟨b4, 0, none⟩) (v := .slice A4_0 (l4_0).length cap4_0) (by kernel_rfl) (qT (qT (qT (qB (qT (qL (qB (qT (qT qZ))))))))) (by kernel_rfl) (by kernel_rfl) vt56 (fun W hW => (Z13.chg hW notNil).cell 0) ?_
      refine wH_load1 (i := 2) (d := 23) (T := 56) (ad := ⟨b3, 0, none⟩) (v := .slice A3_0 (l3_0).length cap3_0) (by kernel_rfl) (qT (qT (qT (qB (qT (qL (qB (qT (qT qZ))))))))) (by kernel_rfl) (by kernel_rfl) vt56 (fun W hW => (Z10.chg hW notNil).cell 0) ?_
      refine wH_take [3] [3, 2, 1, 0] [(24, .int .i64 (x4))] (by kernel_rfl) (qT (qT (qT (qB (qT (qL (qB (qT (qT qZ))))))))) (by kernel_rfl) ?_
      obtain ⟨x7, hx2, hm⟩ := bindE hm
      refine wH_idx (i := 4) (d := 25) (T := 56) (A := A3_0) (n := (l3_0).length) (cap := cap3_0) (kd := .i64) (m := x4) (by kernel_rfl) (qT (qT (qT (qB (qT (qL (qB (qT (qT qZ))))))))) (by kernel_rfl) (by kernel_rfl) sl56 (F29.is hx2) ?_
      refine wH_load1 (i := 5) (d := 26) (T := 3) (ad := (elA A3_0 1 (x4) 0)) (v := .int .i64 (x7)) (by kernel_rfl) (qT (qT (qT (qB (qT (qL (qB (qT (qT qZ))))))))) (by kernel_rfl) (by kernel_rfl) vt3 (fun W hW => Sl.cell (Z9.chg hW Dj.nil) hx2 0 (by rfl)) ?_
      obtain ⟨x8, hx3, hm⟩ := bindE hm
      refine wH_idx (i := 6) (d := 27) (T := 56) (A := A4_0) (n := (l4_0).length) (cap := cap4_0) (kd := .i64) (m := x7) (by kernel_rfl) (qT (qT (qT (qB (qT (qL (qB (qT (qT qZ))))))))) (by kernel_rfl) (by kernel_rfl) sl56 (F31.is hx3) ?_
      refine wH_load1 (i := 7) (d := 28) (T := 3) (ad := (elA A4_0 1 (x7) 0)) (v := .int .i64 (x8)) (by kernel_rfl) (qT (qT (qT (qB (qT (qL (qB (qT (qT qZ))))))))) (by kernel_rfl) (by kernel_rfl) vt3 (fun W hW => Sl.cell (Z11.chg hW Dj.nil) hx3 0 (by rfl)) ?_
      refine wH_take [8] [8, 7, 6, 5, 4, 3, 2, 1, 0] [(29, .int .i64 (p1))] (by kernel_rfl) (qT (qT (qT (qB (qT (qL (qB (qT (qT qZ))))))))) (by kernel_rfl) ?_
      refine wH_done (by kernel_rfl) ?_
      refine eX_tail ?_
      refine wS_pure 2 [(31, .bool ((andI x8 p1) == 0)), (30, .int .i64 (andI x8 p1))] (by kernel_rfl) ?_
      refine wS_end (by rfl) ?_
      refine eX_then ?_
      refine cW_cond (t := (andI x8 p1) == 0) (by kernel_rfl) (fun hb3 => ?_) (fun hb3 => ?_)
      ·have hm := condT hb3 hm
       refine cW_drawnTail [] 10 (by kernel_rfl) (by kernel_rfl) (fun w5 hc3 => ?_)
       replace F21 := F21.chg hc3 notNil
       replace F22 := F22.chg hc3 Dj.nil
       replace F23 := F23.chg hc3 Dj.nil
       replace F24 := F24.chg hc3 notNil
       replace F25 := F25.chg hc3 notNil
       replace F26 := F26.chg hc3 Dj.nil
       replace F27 := F27.chg hc3 notNil
       replace F28 := F28.chg hc3 notNil
       replace F29 := F29.chg hc3 Dj.nil
       replace F30 := F30.chg hc3 notNil
       replace F31 := F31.chg hc3 Dj.nil
       replace F32 := F32.chg hc3 Dj.nil
       replace F33 := F33.chg hc3 notNil
       replace F34 := F34.chg hc3 notNil
       replace hB := hB.inS hc3 inNil
       replace hZ := Nat.le_trans hZ hc3.size
       have hS := Chg.refl [] w5
       have Z15 := F21
       have Z16 := F22
       have Z17 := F23
       have Z18 := F24
       have Z19 := F25
       have Z20 := F26
       have Z21 := F27
       have Z22 := F28
       have Z23 := F29
       have Z24 := F30
       have Z25 := F31
       have Z26 := F32
       have Z27 := F33
       have Z28 := F34
       refine wH_load1 (i := 0) (d := 32) (T := 127) (ad := ⟨b5, 0, none⟩) (v := .func (.func 103) #[] #[.pointer (some ⟨b2, 0, none⟩), .pointer (some ⟨b3, 0, none⟩), .pointer (some ⟨b4, 0, none⟩), .pointer (some ⟨b5, 0, none⟩)]) (by kernel_rfl) (qT (qT (qB (qT (qL (qB (qT (qT qZ)))))))) (by kernel_rfl) (by kernel_rfl) vt127 (fun W hW => (Z28.chg hW notNil).cell 0) ?_
       refine wH_take [1, 2, 3] [3, 2, 1, 0] [(35, .int .i64 (p1)), (34, .int .i64 (wr (x4 + 1))), (33, .int .i64 (x4))] (by kernel_rfl) (qT (qT (qB (qT (qL (qB (qT (qT qZ)))))))) (by kernel_rfl) ?_
       refine wH_load1 (i := 4) (d := 36) (T := 56) (ad := ⟨b3, 0, none⟩) (v := .slice A3_0 (l3_0).length cap3_0) (by kernel_rfl) (qT (qT (qB (qT (qL (qB (qT (qT qZ)))))))) (by kernel_rfl) (by kernel_rfl) vt56 (fun W hW => (Z24.chg hW notNil).cell 0) ?_
       refine wH_take [5] [5, 4, 3, 2, 1, 0] [(37, .int .i64 (x4))] (by kernel_rfl) (qT (qT (qB (qT (qL (qB (qT (qT qZ)))))))) (by kernel_rfl) ?_
       obtain ⟨x9, hx4, hm⟩ := bindE hm
       refine wH_idx (i := 6) (d := 38) (T := 56) (A := A3_0) (n := (l3_0).length) (cap := cap3_0) (kd := .i64) (m := x4) (by kernel_rfl) (qT (qT (qB (qT (qL (qB (qT (qT qZ)))))))) (by kernel_rfl) (by kernel_rfl) sl56 (F29.is hx4) ?_
       refine wH_load1 (i := 7) (d := 39) (T := 3) (ad := (elA A3_0 1 (x4) 0)) (v := .int .i64 (x9)) (by kernel_rfl) (qT (qT (qB (qT (qL (qB (qT (qT qZ)))))))) (by kernel_rfl) (by kernel_rfl) vt3 (fun W hW => Sl.cell (Z23.chg hW Dj.nil) hx4 0 (by rfl)) ?_
       obtain ⟨u1, hu1, hm⟩ := bindE hm
       refine wH_shl (i := 8) (d := 40) (x := 1) (y := x9) (yk := .i64) (by kernel_rfl) (qT (qT (qB (qT (qL (qB (qT (qT qZ)))))))) (by kernel_rfl) (by kernel_rfl) (p0E hu1) ?_
       refine wH_take [9] [9, 8, 7, 6, 5, 4, 3, 2, 1, 0] [(41, .int .i64 (orI p1 (shlI 1 x9)))] (by kernel_rfl) (qT (qT (qB (qT (qL (qB (qT (qT qZ)))))))) (by kernel_rfl) ?_
       refine wH_done (by kernel_rfl) ?_
       refine eX_tail ?_
       obtain ⟨y2, hy2, hm⟩ := bindE hm
       refine wS_calls (d := 42) (f := 103) (vs := [.int .i64 (wr (x4 + 1)), .int .i64 (orI p1 (shlI 1 x9)), .pointer (some ⟨b2, 0, none⟩), .pointer (some ⟨b3, 0, none⟩), .pointer (some ⟨b4, 0, none⟩), .pointer (some ⟨b5, 0, none⟩)]) (by kernel_rfl) ent103 (hR hy2 F21 F22 F23 F24 F25 F26 F27 F28 F29 F30 F31 F32 F33 F34 J2_0_0__2_0_1_0 J2_0_0__2_0_1_1 J2_0_0__2_0_1 J2_0_0__2_0_2 J2_0_0__2_0_3_0 J2_0_0__2_0_3 J2_0_0__2 J2_0_0__3_0 J2_0_0__3 J2_0_0__4_0 J2_0_0__4_1 J2_0_0__4 J2_0_0__5 J2_0_3_0__2_0_1_0 J2_0_3_0__2_0_1_1 J2_0_3_0__2_0_1 J2_0_3_0__2_0_2 J2_0_3_0__2_0_3 J2_0_3_0__2 J2_0_3_0__3_0 J2_0_3_0__3 J2_0_3_0__4_0 J2_0_3_0__4_1 J2_0_3_0__4 J2_0_3_0__5) ?_
       rintro _ w6 ⟨rfl, F35, F36, hc4⟩
       replace F22 := F22.chg hc4 (Dj.app (J2_0_0__2_0_1_0).symm (Dj.app (J2_0_3_0__2_0_1_0).symm Dj.nil))
       replace F23 := F23.chg hc4 (Dj.app (J2_0_0__2_0_1_1).symm (Dj.app (J2_0_3_0__2_0_1_1).symm Dj.nil))
       replace F24 := F24.chg hc4 (dj1 (Dj.app (J2_0_0__2_0_1).symm (Dj.app (J2_0_3_0__2_0_1).symm Dj.nil)))
       replace F25 := F25.chg hc4 (dj1 (Dj.app (J2_0_0__2_0_2).symm (Dj.app (J2_0_3_0__2_0_2).symm Dj.nil)))
       replace F27 := F27.chg hc4 (dj1 (Dj.app (J2_0_0__2_0_3).symm (Dj.app (J2_0_3_0__2_0_3).symm Dj.nil)))
       replace F28 := F28.chg hc4 (dj1 (Dj.app (J2_0_0__2).symm (Dj.app (J2_0_3_0__2).symm Dj.nil)))
       replace F29 := F29.chg hc4 (Dj.app (J2_0_0__3_0).symm (Dj.app (J2_0_3_0__3_0).symm Dj.nil))
       replace F30 := F30.chg hc4 (dj1 (Dj.app (J2_0_0__3).symm (Dj.app (J2_0_3_0__3).symm Dj.nil)))
       replace F31 := F31.chg hc4 (Dj.app (J2_0_0__4_0).symm (Dj.app (J2_0_3_0__4_0).symm Dj.nil))
       replace F32 := F32.chg hc4 (Dj.app (J2_0_0__4_1).symm (Dj.app (J2_0_3_0__4_1).symm Dj.nil))
       replace F33 := F33.chg hc4 (dj1 (Dj.app (J2_0_0__4).symm (Dj.app (J2_0_3_0__4).symm Dj.nil)))
       replace F34 := F34.chg hc4 (dj1 (Dj.app (J2_0_0__5).symm (Dj.app (J2_0_3_0__5).symm Dj.nil)))
       replace hB := hB.inS hc4 (inApp (inMem (fun x hx => (List.mem_append_left _ hx))) (inApp (inMem (fun x hx => (List.mem_append_right _ (List.mem_append_left _ hx)))) inNil))
       replace hZ := Nat.le_trans hZ hc4.size
       clear F21
       clear F26
       refine ⟨.tuple #[], rfl, ?_⟩
       refine wS_end (by rfl) ?_
       have hq : (some ((y2.1, y2.2)) : Option (Int × (List (Int × Int)))) = some _ := hm
       replace hq := someE hq
       subst hq
       exact eX_J (fun hst => ⟨y2.1, y2.2, rfl, Fr.of hst (by kernel_rfl), F35, F22, F23, F24, F25, F36, F27, F28, F29, F30, F31, F32, F33, F34, hB, hZ⟩)
      ·have hm := condF hb3 hm
       refine cW_skip ?_
       have hq : (some ((x5, l4)) : Option (Int × (List (Int × Int)))) = some _ := hm
       replace hq := someE hq
       subst hq
       exact eX_J (fun hst => ⟨x5, l4, rfl, Fr.of hst (by kernel_rfl), F21, F22, F23, F24, F25, F26, F27, F28, F29, F30, F31, F32, F33, F34, hB, hZ⟩)
     ·rintro a' w7 ⟨x6, l5, hJ, hF3, F37, F38, F39, F40, F41, F42, F43, F44, F45, F46, F47, F48, F49, F50, hB, hZ⟩
      subst hJ
      refine Fr.goX hF3 (by kernel_rfl) ?_
      refine eX_block ?_
      refine eX_then ?_
      refine cW_region ?_
      refine wS_pure 3 [(8, .int .i64 (wr (x4 + 1))), (20, .int .i64 (wr (x4 + 1))), (19, .int .i64 (x4))] (by kernel_rfl) ?_
      refine wS_end (by rfl) ?_
      have hq : (some (Ctl.next ((wr (x4 + 1), x6, l5))) : Option (Ctl (Int × Int × (List (Int × Int))) (Int × (List (Int × Int))))) = some _ := hm
      replace hq := someE hq
      subst hq
      exact eX_next hx1 (fun hst => ⟨wr (x4 + 1), x6, l5, rfl, Fr.of hst (by kernel_rfl), F37, F38, F39, F40, F41, F42, F43, F44, F45, F46, F47, F48, F49, F50, hB, hZ⟩)
    ·have hm := condF hb2 hm
     refine cW_exit ?_
     refine eX_then_exit ?_
     have hq : (some (Ctl.out ((x5, l4))) : Option (Ctl (Int × Int × (List (Int × Int))) (Int × (List (Int × Int))))) = some _ := hm
     replace hq := someE hq
     subst hq
     refine eX_outX hx1 (fun hr2 => ?_)
     replace hr2 := hr2.symm
     subst hr2
     refine eX_block_hit ?_
     exact eX_J (fun hst => ⟨x5, l4, rfl, Fr.of hst (by kernel_rfl), F21, F26, hB, hZ⟩)
   ·rintro a' w8 ⟨x3, l3, hJ, hF4, F51, F52, hB, hZ⟩
    subst hJ
    refine Fr.goX hF4 (by kernel_rfl) ?_
    have hq : (some ((x3, l3)) : Option (Int × (List (Int × Int)))) = some _ := hm
    replace hq := someE hq
    subst hq
    exact eX_J (fun hst => ⟨x3, l3, rfl, Fr.of hst (by kernel_rfl), F51, F52, hB, hZ⟩)
 ·rintro a' w9 ⟨x1, l1, hJ, hF5, F53, F54, hB, hZ⟩
  subst hJ
  refine Fr.goX hF5 (by kernel_rfl) ?_
  have hq : (some ((x1, l1)) : Option ((Int) × (List (Int × Int)))) = some _ := hm
  replace hq := someE hq
  subst hq
  refine eX_fall (vs := []) [] (by rfl) trivial ?_
  exact ⟨rfl, F53, F54, hB⟩
set_option maxRecDepth 100000 in
theorem c_impl_order_first_1_bfuncint_impl_order_fewest_1_bint_bimplorder_bint_bmapintint_bint_bimplorder_bfuncintint_self {R_impl_order_fewest : (List (Int)) → (List (Int)) → (Int) → (List (Int × Int)) → Option ((Int) × (List (Int × Int)))} (hR_impl_order_fewest : ∀ {w0 : World} {l0_0 : List (Int)} {A0_0 : Option Addr} {cap0_0 : Nat} {fp0_0 : List Nat} {l0_1 : List (Int)} {A0_1 : Option Addr} {cap0_1 : Nat} {fp0_1 : List Nat} {p1 : Int} {l2 : List (Int × Int)} {b2 : Nat} {r : (Int) × (List (Int × Int))} (hm : R_impl_order_fewest l0_0 l0_1 p1 l2 = some r) (F0_0 : Sl 1 encI w0 fp0_0 A0_0 l0_0) (F0_1 : Sl 1 encI w0 fp0_1 A0_1 l0_1) (F2 : Mp okI kI kI w0 b2 l2) (J2__0_0 : Dj [b2] fp0_0) (J2__0_1 : Dj [b2] fp0_1), Calls Tryd.prog 78 #[.agg #[.slice A0_0 (l0_0).length cap0_0, .slice A0_1 (l0_1).length cap0_1], .int .i64 (p1), .map (some b2)] w0 fun e w' => e = .returned (.int .i64 (r.1)) ∧ Mp okI kI kI w' b2 r.2 ∧ Chg ([b2] ++ []) w0 w') (n : Nat) : ∀ {w0 : World} {p0 : Int} {p1 : Int} {q2_0_0_0 : Int} {b2_0_0 : Nat} {l2_0_1_0 : List (Int)} {A2_0_1_0 : Option Addr} {cap2_0_1_0 : Nat} {fp2_0_1_0 : List Nat} {l2_0_1_1 : List (Int)} {A2_0_1_1 : Option Addr} {cap2_0_1_1 : Nat} {fp2_0_1_1 : List Nat} {b2_0_1 : Nat} {q2_0_2_0 : Int} {b2_0_2 : Nat} {l2_0_3_0 : List (Int × Int)} {b2_0_3_0 : Nat} {b2_0_3 : Nat} {b2 : Nat} {l3_0 : List (Int)} {A3_0 : Option Addr} {cap3_0 : Nat} {fp3_0 : List Nat} {b3 : Nat} {l4_0 : List (Int)} {A4_0 : Option Addr} {cap4_0 : Nat} {fp4_0 : List Nat} {l4_1 : List (Int)} {A4_1 : Option Addr} {cap4_1 : Nat} {fp4_1 : List Nat} {b4 : Nat} {b5 : Nat} {r : (Int) × (List (Int × Int))} (hm : m_impl_order_first_1_bfuncint_impl_order_fewest_1_bint_bimplorder_bint_bmapintint_bint_bimplorder_bfuncintint_self R_impl_order_fewest n p0 p1 q2_0_0_0 l2_0_1_0 l2_0_1_1 q2_0_2_0 l2_0_3_0 l3_0 l4_0 l4_1 = some r) (F2_0_0 : Cl w0 b2_0_0 3 [.int .i64 (q2_0_0_0)]) (F2_0_1_0 : Sl 1 encI w0 fp2_0_1_0 A2_0_1_0 l2_0_1_0) (F2_0_1_1 : Sl 1 encI w0 fp2_0_1_1 A2_0_1_1 l2_0_1_1) (F2_0_1 : Cl w0 b2_0_1 58 [.slice A2_0_1_0 (l2_0_1_0).length cap2_0_1_0, .slice A2_0_1_1 (l2_0_1_1).length cap2_0_1_1]) (F2_0_2 : Cl w0 b2_0_2 3 [.int .i64 (q2_0_2_0)]) (F2_0_3_0 : Mp okI kI kI w0 b2_0_3_0 l2_0_3_0) (F2_0_3 : Cl w0 b2_0_3 105 [.map (some b2_0_3_0)]) (F2 : Cl w0 b2 108 [.func (.func 102) #[] #[.pointer (some ⟨b2_0_0, 0, none⟩), .pointer (some ⟨b2_0_1, 0, none⟩), .pointer (some ⟨b2_0_2, 0, none⟩), .pointer (some ⟨b2_0_3, 0, none⟩)]]) (F3_0 : Sl 1 encI w0 fp3_0 A3_0 l3_0) (F3 : Cl w0 b3 56 [.slice A3_0 (l3_0).length cap3_0]) (F4_0 : Sl 1 encI w0 fp4_0 A4_0 l4_0) (F4_1 : Sl 1 encI w0 fp4_1 A4_1 l4_1) (F4 : Cl w0 b4 58 [.slice A4_0 (l4_0).length cap4_0, .slice A4_1 (l4_1).length cap4_1]) (F5 : Cl w0 b5 127 [.func (.func 103) #[] #[.pointer (some ⟨b2, 0, none⟩), .pointer (some ⟨b3, 0, none⟩), .pointer (some ⟨b4, 0, none⟩), .pointer (some ⟨b5, 0, none⟩)]]) (J2_0_0__2_0_1_0 : Dj [b2_0_0] fp2_0_1_0) (J2_0_0__2_0_1_1 : Dj [b2_0_0] fp2_0_1_1) (J2_0_0__2_0_1 : Dj [b2_0_0] [b2_0_1]) (J2_0_0__2_0_2 : Dj [b2_0_0] [b2_0_2]) (J2_0_0__2_0_3_0 : Dj [b2_0_0] [b2_0_3_0]) (J2_0_0__2_0_3 : Dj [b2_0_0] [b2_0_3]) (J2_0_0__2 : Dj [b2_0_0] [b2]) (J2_0_0__3_0 : Dj [b2_0_0] fp3_0) (J2_0_0__3 : Dj [b2_0_0] [b3]) (J2_0_0__4_0 : Dj [b2_0_0] fp4_0) (J2_0_0__4_1 : Dj [b2_0_0] fp4_1) (J2_0_0__4 : Dj [b2_0_0] [b4]) (J2_0_0__5 : Dj [b2_0_0] [b5]) (J2_0_3_0__2_0_1_0 : Dj [b2_0_3_0] fp2_0_1_0) (J2_0_3_0__2_0_1_1 : Dj [b2_0_3_0] fp2_0_1_1) (J2_0_3_0__2_0_1 : Dj [b2_0_3_0] [b2_0_1]) (J2_0_3_0__2_0_2 : Dj [b2_0_3_0] [b2_0_2]) (J2_0_3_0__2_0_3 : Dj [b2_0_3_0] [b2_0_3]) (J2_0_3_0__2 : Dj [b2_0_3_0] [b2]) (J2_0_3_0__3_0 : Dj [b2_0_3_0] fp3_0) (J2_0_3_0__3 : Dj [b2_0_3_0] [b3]) (J2_0_3_0__4_0 : Dj [b2_0_3_0] fp4_0) (J2_0_3_0__4_1 : Dj [b2_0_3_0] fp4_1) (J2_0_3_0__4 : Dj [b2_0_3_0] [b4]) (J2_0_3_0__5 : Dj [b2_0_3_0] [b5]), Calls Tryd.prog 103 #[.int .i64 (p0), .int .i64 (p1), .pointer (some ⟨b2, 0, none⟩), .pointer (some ⟨b3, 0, none⟩), .pointer (some ⟨b4, 0, none⟩), .pointer (some ⟨b5, 0, none⟩)] w0 fun e w' => e = .returned (.tuple #[]) ∧ Cl w' b2_0_0 3 [.int .i64 (r.1)] ∧ Mp okI kI kI w' b2_0_3_0 r.2 ∧ Chg ([b2_0_0] ++ ([b2_0_3_0] ++ [])) w0 w' := by
 induction n with
 | zero => intro w0 p0 p1 q2_0_0_0 b2_0_0 l2_0_1_0 A2_0_1_0 cap2_0_1_0 fp2_0_1_0 l2_0_1_1 A2_0_1_1 cap2_0_1_1 fp2_0_1_1 b2_0_1 q2_0_2_0 b2_0_2 l2_0_3_0 b2_0_3_0 b2_0_3 b2 l3_0 A3_0 cap3_0 fp3_0 b3 l4_0 A4_0 cap4_0 fp4_0 l4_1 A4_1 cap4_1 fp4_1 b4 b5 r hm F2_0_0 F2_0_1_0 F2_0_1_1 F2_0_1 F2_0_2 F2_0_3_0 F2_0_3 F2 F3_0 F3 F4_0 F4_1 F4 F5 J2_0_0__2_0_1_0 J2_0_0__2_0_1_1 J2_0_0__2_0_1 J2_0_0__2_0_2 J2_0_0__2_0_3_0 J2_0_0__2_0_3 J2_0_0__2 J2_0_0__3_0 J2_0_0__3 J2_0_0__4_0 J2_0_0__4_1 J2_0_0__4 J2_0_0__5 J2_0_3_0__2_0_1_0 J2_0_3_0__2_0_1_1 J2_0_3_0__2_0_1 J2_0_3_0__2_0_2 J2_0_3_0__2_0_3 J2_0_3_0__2 J2_0_3_0__3_0 J2_0_3_0__3 J2_0_3_0__4_0 J2_0_3_0__4_1 J2_0_3_0__4 J2_0_3_0__5; exact nomatch (show (none : Option ((Int) × (List (Int × Int)))) = some r from hm)
 | succ n ih => intro w0 p0 p1 q2_0_0_0 b2_0_0 l2_0_1_0 A2_0_1_0 cap2_0_1_0 fp2_0_1_0 l2_0_1_1 A2_0_1_1 cap2_0_1_1 fp2_0_1_1 b2_0_1 q2_0_2_0 b2_0_2 l2_0_3_0 b2_0_3_0 b2_0_3 b2 l3_0 A3_0 cap3_0 fp3_0 b3 l4_0 A4_0 cap4_0 fp4_0 l4_1 A4_1 cap4_1 fp4_1 b4 b5 r hm F2_0_0 F2_0_1_0 F2_0_1_1 F2_0_1 F2_0_2 F2_0_3_0 F2_0_3 F2 F3_0 F3 F4_0 F4_1 F4 F5 J2_0_0__2_0_1_0 J2_0_0__2_0_1_1 J2_0_0__2_0_1 J2_0_0__2_0_2 J2_0_0__2_0_3_0 J2_0_0__2_0_3 J2_0_0__2 J2_0_0__3_0 J2_0_0__3 J2_0_0__4_0 J2_0_0__4_1 J2_0_0__4 J2_0_0__5 J2_0_3_0__2_0_1_0 J2_0_3_0__2_0_1_1 J2_0_3_0__2_0_1 J2_0_3_0__2_0_2 J2_0_3_0__2_0_3 J2_0_3_0__2 J2_0_3_0__3_0 J2_0_3_0__3 J2_0_3_0__4_0 J2_0_3_0__4_1 J2_0_3_0__4 J2_0_3_0__5; exact c_impl_order_first_1_bfuncint_impl_order_fewest_1_bint_bimplorder_bint_bmapintint_bint_bimplorder_bfuncintint_self_body hR_impl_order_fewest ih hm F2_0_0 F2_0_1_0 F2_0_1_1 F2_0_1 F2_0_2 F2_0_3_0 F2_0_3 F2 F3_0 F3 F4_0 F4_1 F4 F5 J2_0_0__2_0_1_0 J2_0_0__2_0_1_1 J2_0_0__2_0_1 J2_0_0__2_0_2 J2_0_0__2_0_3_0 J2_0_0__2_0_3 J2_0_0__2 J2_0_0__3_0 J2_0_0__3 J2_0_0__4_0 J2_0_0__4_1 J2_0_0__4 J2_0_0__5 J2_0_3_0__2_0_1_0 J2_0_3_0__2_0_1_1 J2_0_3_0__2_0_1 J2_0_3_0__2_0_2 J2_0_3_0__2_0_3 J2_0_3_0__2 J2_0_3_0__3_0 J2_0_3_0__3 J2_0_3_0__4_0 J2_0_3_0__4_1 J2_0_3_0__4 J2_0_3_0__5


set_option maxRecDepth 100000 in
/-- impl.order).first -/
theorem c_impl_order_first_impl_order_fewest_1_bint_bimplorder_bint_bmapintint {R_impl_order_fewest : (List (Int)) → (List (Int)) → (Int) → (List (Int × Int)) → Option ((Int) × (List (Int × Int)))} (hR_impl_order_fewest : ∀ {w0 : World} {l0_0 : List (Int)} {A0_0 : Option Addr} {cap0_0 : Nat} {fp0_0 : List Nat} {l0_1 : List (Int)} {A0_1 : Option Addr} {cap0_1 : Nat} {fp0_1 : List Nat} {p1 : Int} {l2 : List (Int × Int)} {b2 : Nat} {r : (Int) × (List (Int × Int))} (hm : R_impl_order_fewest l0_0 l0_1 p1 l2 = some r) (F0_0 : Sl 1 encI w0 fp0_0 A0_0 l0_0) (F0_1 : Sl 1 encI w0 fp0_1 A0_1 l0_1) (F2 : Mp okI kI kI w0 b2 l2) (J2__0_0 : Dj [b2] fp0_0) (J2__0_1 : Dj [b2] fp0_1), Calls Tryd.prog 78 #[.agg #[.slice A0_0 (l0_0).length cap0_0, .slice A0_1 (l0_1).length cap0_1], .int .i64 (p1), .map (some b2)] w0 fun e w' => e = .returned (.int .i64 (r.1)) ∧ Mp okI kI kI w' b2 r.2 ∧ Chg ([b2] ++ []) w0 w') {w0 : World} {l0_0 : List (Int)} {A0_0 : Option Addr} {cap0_0 : Nat} {fp0_0 : List Nat} {l0_1 : List (Int)} {A0_1 : Option Addr} {cap0_1 : Nat} {fp0_1 : List Nat} {p1 : Int} {q2_0_0 : Int} {b2_0 : Nat} {l2_1_0 : List (Int)} {A2_1_0 : Option Addr} {cap2_1_0 : Nat} {fp2_1_0 : List Nat} {l2_1_1 : List (Int)} {A2_1_1 : Option Addr} {cap2_1_1 : Nat} {fp2_1_1 : List Nat} {b2_1 : Nat} {q2_2_0 : Int} {b2_2 : Nat} {l2_3_0 : List (Int × Int)} {b2_3_0 : Nat} {b2_3 : Nat} {r : (Int) × (List (Int × Int))} (hm : m_impl_order_first_impl_order_fewest_1_bint_bimplorder_bint_bmapintint  R_impl_order_fewest l0_0 l0_1 p1 q2_0_0 l2_1_0 l2_1_1 q2_2_0 l2_3_0 = some r) (F0_0 : Sl 1 encI w0 fp0_0 A0_0 l0_0) (F0_1 : Sl 1 encI w0 fp0_1 A0_1 l0_1) (F2_0 : Cl w0 b2_0 3 [.int .i64 (q2_0_0)]) (F2_1_0 : Sl 1 encI w0 fp2_1_0 A2_1_0 l2_1_0) (F2_1_1 : Sl 1 encI w0 fp2_1_1 A2_1_1 l2_1_1) (F2_1 : Cl w0 b2_1 58 [.slice A2_1_0 (l2_1_0).length cap2_1_0, .slice A2_1_1 (l2_1_1).length cap2_1_1]) (F2_2 : Cl w0 b2_2 3 [.int .i64 (q2_2_0)]) (F2_3_0 : Mp okI kI kI w0 b2_3_0 l2_3_0) (F2_3 : Cl w0 b2_3 105 [.map (some b2_3_0)]) (J2_0__0_0 : Dj [b2_0] fp0_0) (J2_0__0_1 : Dj [b2_0] fp0_1) (J2_0__2_1_0 : Dj [b2_0] fp2_1_0) (J2_0__2_1_1 : Dj [b2_0] fp2_1_1) (J2_0__2_1 : Dj [b2_0] [b2_1]) (J2_0__2_2 : Dj [b2_0] [b2_2]) (J2_0__2_3_0 : Dj [b2_0] [b2_3_0]) (J2_0__2_3 : Dj [b2_0] [b2_3]) (J2_3_0__0_0 : Dj [b2_3_0] fp0_0) (J2_3_0__0_1 : Dj [b2_3_0] fp0_1) (J2_3_0__2_1_0 : Dj [b2_3_0] fp2_1_0) (J2_3_0__2_1_1 : Dj [b2_3_0] fp2_1_1) (J2_3_0__2_1 : Dj [b2_3_0] [b2_1]) (J2_3_0__2_2 : Dj [b2_3_0] [b2_2]) (J2_3_0__2_3 : Dj [b2_3_0] [b2_3]) :
  Calls Tryd.prog 79 #[.agg #[.slice A0_0 (l0_0).length cap0_0, .slice A0_1 (l0_1).length cap0_1], .int .i64 (p1), .func (.func 102) #[] #[.pointer (some ⟨b2_0, 0, none⟩), .pointer (some ⟨b2_1, 0, none⟩), .pointer (some ⟨b2_2, 0, none⟩), .pointer (some ⟨b2_3, 0, none⟩)]] w0 fun e w' => e = .returned (.tuple #[]) ∧ Cl w' b2_0 3 [.int .i64 (r.1)] ∧ Mp okI kI kI w' b2_3_0 r.2 ∧ Chg ([b2_0] ++ ([b2_3_0] ++ [])) w0 w' := by
 have L0_0 := F0_0.low
 have L0_1 := F0_1.low
 have L2_0 := lt1 F2_0.lt
 have L2_1_0 := F2_1_0.low
 have L2_1_1 := F2_1_1.low
 have L2_1 := lt1 F2_1.lt
 have L2_2 := lt1 F2_2.lt
 have L2_3_0 := F2_3_0.low
 have L2_3 := lt1 F2_3.lt
 have hB : Chg ([b2_0] ++ ([b2_3_0] ++ [])) w0 w0 := Chg.refl _ _
 have hZ := Nat.le_refl w0.heap.size
 unfold m_impl_order_first_impl_order_fewest_1_bint_bimplorder_bint_bmapintint at hm
 refine enterE (N := 39) Tryd.func79 (by rfl) Tryd.ntmps79 (by simp) [(0, .agg #[.slice A0_0 (l0_0).length cap0_0, .slice A0_1 (l0_1).length cap0_1]), (1, .int .i64 (p1)), (2, .func (.func 102) #[] #[.pointer (some ⟨b2_0, 0, none⟩), .pointer (some ⟨b2_1, 0, none⟩), .pointer (some ⟨b2_2, 0, none⟩), .pointer (some ⟨b2_3, 0, none⟩)])] (by rfl) (by kernel_rfl) (fun a => ?_)
 refine cW_seq ?_
 refine cW_region ?_
 refine wS_box (d := 3) (T := 58) (x := .agg #[.slice A0_0 (l0_0).length cap0_0, .slice A0_1 (l0_1).length cap0_1]) (by kernel_rfl) ?_
 intro b1 w1 G1 F1 hc1
 replace F1 : Cl w1 b1 58 [.slice A0_0 (l0_0).length cap0_0, .slice A0_1 (l0_1).length cap0_1] := F1
 replace F0_0 := F0_0.chg hc1 Dj.nil
 replace F0_1 := F0_1.chg hc1 Dj.nil
 replace F2_0 := F2_0.chg hc1 notNil
 replace F2_1_0 := F2_1_0.chg hc1 Dj.nil
 replace F2_1_1 := F2_1_1.chg hc1 Dj.nil
 replace F2_1 := F2_1.chg hc1 notNil
 replace F2_2 := F2_2.chg hc1 notNil
 replace F2_3_0 := F2_3_0.chg hc1 Dj.nil
 replace F2_3 := F2_3.chg hc1 notNil
 replace hB := hB.inS hc1 inNil
 replace G1 := Nat.le_trans hZ G1
 replace hZ := Nat.le_trans hZ hc1.size
 refine wS_box (d := 5) (T := 108) (x := .func (.func 102) #[] #[.pointer (some ⟨b2_0, 0, none⟩), .pointer (some ⟨b2_1, 0, none⟩), .pointer (some ⟨b2_2, 0, none⟩), .pointer (some ⟨b2_3, 0, none⟩)]) (by kernel_rfl) ?_
 intro b2 w2 G2 F2 hc2
 replace F2 : Cl w2 b2 108 [.func (.func 102) #[] #[.pointer (some ⟨b2_0, 0, none⟩), .pointer (some ⟨b2_1, 0, none⟩), .pointer (some ⟨b2_2, 0, none⟩), .pointer (some ⟨b2_3, 0, none⟩)]] := F2
 have D1 : Dj [b1] [b2] := Dj.of (lt1 F1.lt) (low1 G2)
 replace F0_0 := F0_0.chg hc2 Dj.nil
 replace F0_1 := F0_1.chg hc2 Dj.nil
 replace F2_0 := F2_0.chg hc2 notNil
 replace F2_1_0 := F2_1_0.chg hc2 Dj.nil
 replace F2_1_1 := F2_1_1.chg hc2 Dj.nil
 replace F2_1 := F2_1.chg hc2 notNil
 replace F2_2 := F2_2.chg hc2 notNil
 replace F2_3_0 := F2_3_0.chg hc2 Dj.nil
 replace F2_3 := F2_3.chg hc2 notNil
 replace F1 := F1.chg hc2 notNil
 replace hB := hB.inS hc2 inNil
 replace G2 := Nat.le_trans hZ G2
 replace hZ := Nat.le_trans hZ hc2.size
 refine wS_end (by rfl) ?_
 refine eX_then ?_
 refine cW_seq ?_
 refine cW_region ?_
 refine wS_bs0 (α := Int) (enc := encI) (d := 9) (t := 56) (T := 3) (by kernel_rfl) el56 ?_
 intro b3 w3 G3 F3 hc3
 have D2 : Dj [b1] [b3] := Dj.of (lt1 F1.lt) (low1 G3)
 have D3 : Dj [b2] [b3] := Dj.of (lt1 F2.lt) (low1 G3)
 replace F0_0 := F0_0.chg hc3 Dj.nil
 replace F0_1 := F0_1.chg hc3 Dj.nil
 replace F2_0 := F2_0.chg hc3 notNil
 replace F2_1_0 := F2_1_0.chg hc3 Dj.nil
 replace F2_1_1 := F2_1_1.chg hc3 Dj.nil
 replace F2_1 := F2_1.chg hc3 notNil
 replace F2_2 := F2_2.chg hc3 notNil
 replace F2_3_0 := F2_3_0.chg hc3 Dj.nil
 replace F2_3 := F2_3.chg hc3 notNil
 replace F1 := F1.chg hc3 notNil
 replace F2 := F2.chg hc3 notNil
 replace hB := hB.inS hc3 inNil
 replace G3 := Nat.le_trans hZ G3
 replace G3 := low1 G3
 replace hZ := Nat.le_trans hZ hc3.size
 refine wS_alloc (d := 6) (T := 56) (z := .slice none 0 0) (by kernel_rfl) (by kernel_rfl) ?_
 intro b4 w4 G4 F4 hc4
 replace F4 : Cl w4 b4 56 [.slice none 0 0] := F4
 have D4 : Dj [b1] [b4] := Dj.of (lt1 F1.lt) (low1 G4)
 have D5 : Dj [b2] [b4] := Dj.of (lt1 F2.lt) (low1 G4)
 have D6 : Dj [b3] [b4] := Dj.of F3.low (low1 G4)
 replace F0_0 := F0_0.chg hc4 Dj.nil
 replace F0_1 := F0_1.chg hc4 Dj.nil
 replace F2_0 := F2_0.chg hc4 notNil
 replace F2_1_0 := F2_1_0.chg hc4 Dj.nil
 replace F2_1_1 := F2_1_1.chg hc4 Dj.nil
 replace F2_1 := F2_1.chg hc4 notNil
 replace F2_2 := F2_2.chg hc4 notNil
 replace F2_3_0 := F2_3_0.chg hc4 Dj.nil
 replace F2_3 := F2_3.chg hc4 notNil
 replace F1 := F1.chg hc4 notNil
 replace F2 := F2.chg hc4 notNil
 replace F3 := F3.chg hc4 Dj.nil
 replace hB := hB.inS hc4 inNil
 replace G4 := Nat.le_trans hZ G4
 replace hZ := Nat.le_trans hZ hc4.size
 refine wS_store (T := 56) (g := b4) (o := 0) (ad := ⟨b4, 0, none⟩) (v := .slice (some ⟨b3, 0, none⟩) (([] : List (Int))).length 0) (vs := [.slice (some ⟨b3, 0, none⟩) (([] : List (Int))).length 0]) (by kernel_rfl) (by rfl) sz56 (by rfl) (by rfl) F4 (by simp only [List.length_cons, List.length_nil]; omega) ?_
 intro w5 F5 hc5
 replace F0_0 := F0_0.chg hc5 (Dj.of L0_0 (low1 G4))
 replace F0_1 := F0_1.chg hc5 (Dj.of L0_1 (low1 G4))
 replace F2_0 := F2_0.chg hc5 (dj1 (Dj.of L2_0 (low1 G4)))
 replace F2_1_0 := F2_1_0.chg hc5 (Dj.of L2_1_0 (low1 G4))
 replace F2_1_1 := F2_1_1.chg hc5 (Dj.of L2_1_1 (low1 G4))
 replace F2_1 := F2_1.chg hc5 (dj1 (Dj.of L2_1 (low1 G4)))
 replace F2_2 := F2_2.chg hc5 (dj1 (Dj.of L2_2 (low1 G4)))
 replace F2_3_0 := F2_3_0.chg hc5 (Dj.of L2_3_0 (low1 G4))
 replace F2_3 := F2_3.chg hc5 (dj1 (Dj.of L2_3 (low1 G4)))
 replace F1 := F1.chg hc5 (dj1 D4)
 replace F2 := F2.chg hc5 (dj1 D5)
 replace F3 := F3.chg hc5 D6
 replace hB := hB.inS hc5 (inLow (low1 G4))
 replace hZ := Nat.le_trans hZ hc5.size
 replace F5 : Cl w5 b4 56 [.slice (some ⟨b3, 0, none⟩) (([] : List (Int))).length 0] := F5
 clear F4
 refine wS_end (by rfl) ?_
 refine eX_then ?_
 refine cW_seq ?_
 refine cW_seq ?_
 refine cW_region ?_
 refine wS_pure 1 [(10, .pointer (some ⟨b1, 0, none⟩))] (by kernel_rfl) ?_
 refine wS_load1 (d := 11) (T := 56) (ad := ⟨b1, 0, none⟩) (v := .slice A0_0 (l0_0).length cap0_0) (by kernel_rfl) vt56 ((F1).cell 0) ?_
 refine wS_pure 2 [(13, .int .i64 (0)), (12, .int .i64 (((l0_0).length : Int)))] (by kernel_rfl) ?_
 refine wS_end (by rfl) ?_
 refine eX_then ?_
 obtain ⟨r1, hr1, hm⟩ := bindE hm
 have hm1 := hm
 refine cW_cut (fun a' w' => ∃ l1 : List (Int), ∃ A1 : Option Addr, ∃ cap1 : Nat, ∃ fp1 : List Nat, l1 = r1 ∧ Fr 39 [(3, .pointer (some ⟨b1, 0, none⟩)), (5, .pointer (some ⟨b2, 0, none⟩)), (6, .pointer (some ⟨b4, 0, none⟩))] a' ∧ Sl 1 encI w' fp0_0 A0_0 l0_0 ∧ Sl 1 encI w' fp0_1 A0_1 l0_1 ∧ Cl w' b2_0 3 [.int .i64 (q2_0_0)] ∧ Sl 1 encI w' fp2_1_0 A2_1_0 l2_1_0 ∧ Sl 1 encI w' fp2_1_1 A2_1_1 l2_1_1 ∧ Cl w' b2_1 58 [.slice A2_1_0 (l2_1_0).length cap2_1_0, .slice A2_1_1 (l2_1_1).length cap2_1_1] ∧ Cl w' b2_2 3 [.int .i64 (q2_2_0)] ∧ Mp okI kI kI w' b2_3_0 l2_3_0 ∧ Cl w' b2_3 105 [.map (some b2_3_0)] ∧ Cl w' b1 58 [.slice A0_0 (l0_0).length cap0_0, .slice A0_1 (l0_1).length cap0_1] ∧ Cl w' b2 108 [.func (.func 102) #[] #[.pointer (some ⟨b2_0, 0, none⟩), .pointer (some ⟨b2_1, 0, none⟩), .pointer (some ⟨b2_2, 0, none⟩), .pointer (some ⟨b2_3, 0, none⟩)]] ∧ Cl w' b4 56 [.slice A1 (l1).length cap1] ∧ Ow 1 encI 3 w' fp1 A1 cap1 l1 ∧ (∀ x ∈ fp1, w0.heap.size ≤ x) ∧ Dj [b1] fp1 ∧ Dj [b2] fp1 ∧ Dj [b4] fp1 ∧ Chg ([b2_0] ++ ([b2_3_0] ++ [])) w0 w' ∧ w0.heap.size ≤ w'.heap.size) ?_ ?_
 ·refine cW_block ?_
  refine cW_loop _ (fun (s1 : Int × (List (Int))) a' w' => ∃ x1 : Int, ∃ l3 : List (Int), ∃ A3 : Option Addr, ∃ cap3 : Nat, ∃ fp2 : List Nat, (x1, l3) = s1 ∧ Fr 39 [(1, .int .i64 (p1)), (3, .pointer (some ⟨b1, 0, none⟩)), (5, .pointer (some ⟨b2, 0, none⟩)), (6, .pointer (some ⟨b4, 0, none⟩)), (12, .int .i64 (((l0_0).length : Int))), (13, .int .i64 (x1))] a' ∧ Sl 1 encI w' fp0_0 A0_0 l0_0 ∧ Sl 1 encI w' fp0_1 A0_1 l0_1 ∧ Cl w' b2_0 3 [.int .i64 (q2_0_0)] ∧ Sl 1 encI w' fp2_1_0 A2_1_0 l2_1_0 ∧ Sl 1 encI w' fp2_1_1 A2_1_1 l2_1_1 ∧ Cl w' b2_1 58 [.slice A2_1_0 (l2_1_0).length cap2_1_0, .slice A2_1_1 (l2_1_1).length cap2_1_1] ∧ Cl w' b2_2 3 [.int .i64 (q2_2_0)] ∧ Mp okI kI kI w' b2_3_0 l2_3_0 ∧ Cl w' b2_3 105 [.map (some b2_3_0)] ∧ Cl w' b1 58 [.slice A0_0 (l0_0).length cap0_0, .slice A0_1 (l0_1).length cap0_1] ∧ Cl w' b2 108 [.func (.func 102) #[] #[.pointer (some ⟨b2_0, 0, none⟩), .pointer (some ⟨b2_1, 0, none⟩), .pointer (some ⟨b2_2, 0, none⟩), .pointer (some ⟨b2_3, 0, none⟩)]] ∧ Cl w' b4 56 [.slice A3 (l3).length cap3] ∧ Ow 1 encI 3 w' fp2 A3 cap3 l3 ∧ (∀ x ∈ fp2, w0.heap.size ≤ x) ∧ Dj [b1] fp2 ∧ Dj [b2] fp2 ∧ Dj [b4] fp2 ∧ Chg ([b2_0] ++ ([b2_3_0] ++ [])) w0 w' ∧ w0.heap.size ≤ w'.heap.size) hr1 (fun hst => ⟨0, ([] : List (Int)), (some ⟨b3, 0, none⟩), 0, [b3], rfl, Fr.of hst (by kernel_rfl), F0_0, F0_1, F2_0, F2_1_0, F2_1_1, F2_1, F2_2, F2_3_0, F2_3, F1, F2, F5, F3, G3, D2, D3, (D6).symm, hB, hZ⟩) ?_
  rintro _ c1 a' w6 ⟨x1, l3, A3, cap3, fp2, rfl, hF1, F6, F7, F8, F9, F10, F11, F12, F13, F14, F15, F16, F17, F18, G5, D7, D8, D9, hB, hZ⟩ hx1
  refine Fr.goOn hF1 (by kernel_rfl) ?_
  have hm := hx1
  unfold m_impl_order_first_impl_order_fewest_1_bint_bimplorder_bint_bmapintint_s1 at hm
  refine cW_seq ?_
  refine cW_region ?_
  refine wS_pure 1 [(14, .bool (decide (x1 < (((l0_0).length : Int)))))] (by kernel_rfl) ?_
  refine wS_end (by rfl) ?_
  refine eX_then ?_
  refine cW_seq ?_
  refine cW_cond (t := decide (x1 < (((l0_0).length : Int)))) (by kernel_rfl) (fun hb1 => ?_) (fun hb1 => ?_)
  ·have hm := condT hb1 hm
   refine cW_skip ?_
   refine eX_then ?_
   refine cW_seq ?_
   refine cW_block ?_
   obtain ⟨s2, hs1, hm⟩ := bindE hm
   refine cW_cut (fun a' w' => ∃ l4 : List (Int), ∃ A4 : Option Addr, ∃ cap4 : Nat, ∃ fp3 : List Nat, l4 = s2 ∧ Fr 39 [(1, .int .i64 (p1)), (3, .pointer (some ⟨b1, 0, none⟩)), (5, .pointer (some ⟨b2, 0, none⟩)), (6, .pointer (some ⟨b4, 0, none⟩)), (12, .int .i64 (((l0_0).length : Int))), (13, .int .i64 (x1))] a' ∧ Sl 1 encI w' fp0_0 A0_0 l0_0 ∧ Sl 1 encI w' fp0_1 A0_1 l0_1 ∧ Cl w' b2_0 3 [.int .i64 (q2_0_0)] ∧ Sl 1 encI w' fp2_1_0 A2_1_0 l2_1_0 ∧ Sl 1 encI w' fp2_1_1 A2_1_1 l2_1_1 ∧ Cl w' b2_1 58 [.slice A2_1_0 (l2_1_0).length cap2_1_0, .slice A2_1_1 (l2_1_1).length cap2_1_1] ∧ Cl w' b2_2 3 [.int .i64 (q2_2_0)] ∧ Mp okI kI kI w' b2_3_0 l2_3_0 ∧ Cl w' b2_3 105 [.map (some b2_3_0)] ∧ Cl w' b1 58 [.slice A0_0 (l0_0).length cap0_0, .slice A0_1 (l0_1).length cap0_1] ∧ Cl w' b2 108 [.func (.func 102) #[] #[.pointer (some ⟨b2_0, 0, none⟩), .pointer (some ⟨b2_1, 0, none⟩), .pointer (some ⟨b2_2, 0, none⟩), .pointer (some ⟨b2_3, 0, none⟩)]] ∧ Cl w' b4 56 [.slice A4 (l4).length cap4] ∧ Ow 1 encI 3 w' fp3 A4 cap4 l4 ∧ (∀ x ∈ fp3, w0.heap.size ≤ x) ∧ Dj [b1] fp3 ∧ Dj [b2] fp3 ∧ Dj [b4] fp3 ∧ Chg ([b2_0] ++ ([b2_3_0] ++ [])) w0 w' ∧ w0.heap.size ≤ w'.heap.size) ?_ ?_
   ·have hm := hs1
    refine cW_seq ?_
    refine cW_region ?_
    refine wS_pure 2 [(7, .int .i64 (x1)), (15, .int .i64 (x1))] (by kernel_rfl) ?_
    refine wS_end (by rfl) ?_
    refine eX_then ?_
    refine cW_seq ?_
    refine cW_region ?_
    refine wS_pure 2 [(17, .int .i64 (x1)), (16, .int .i64 (p1))] (by kernel_rfl) ?_
    obtain ⟨u1, hu1, hm⟩ := bindE hm
    refine wS_shr (d := 18) (x := p1) (y := x1) (yk := .i64) (by kernel_rfl) (p0E hu1) ?_
    refine wS_pure 3 [(21, .bool ((andI (shrI p1 x1) 1) == 1)), (20, .bool ((andI (shrI p1 x1) 1) == 1)), (19, .int .i64 (andI (shrI p1 x1) 1))] (by kernel_rfl) ?_
    refine wS_bool ((andI (shrI p1 x1) 1) == 1) (fun hb2 => ?_) (fun hb2 => ?_)
    ·have hm := condT hb2 hm
     rewrite [hb2]
     refine wS_pure 1 [(22, .pointer (some ⟨b1, 1, none⟩))] (by kernel_rfl) ?_
     refine wS_load1 (d := 23) (T := 56) (ad := ⟨b1, 1, none⟩) (v := .slice A0_1 (l0_1).length cap0_1) (by kernel_rfl) vt56 ((F15).cell 1) ?_
     refine wS_pure 1 [(24, .int .i64 (x1))] (by kernel_rfl) ?_
     obtain ⟨x2, hx2, hm⟩ := bindE hm
     refine wS_idx (d := 25) (T := 56) (A := A0_1) (n := (l0_1).length) (cap := cap0_1) (kd := .i64) (m := x1) (by kernel_rfl) sl56 (F7.is hx2) ?_
     refine wS_load1 (d := 26) (T := 3) (ad := (elA A0_1 1 (x1) 0)) (v := .int .i64 (x2)) (by kernel_rfl) vt3 (Sl.cell F7 hx2 0 (by rfl)) ?_
     refine wS_pure 4 [(30, .bool ((andI x2 p1) == 0)), (29, .bool ((andI x2 p1) == 0)), (28, .int .i64 (andI x2 p1)), (27, .int .i64 (p1))] (by kernel_rfl) ?_
     refine wS_end (by rfl) ?_
     refine eX_then ?_
     refine cW_prune [(1, .int .i64 (p1)), (3, .pointer (some ⟨b1, 0, none⟩)), (5, .pointer (some ⟨b2, 0, none⟩)), (6, .pointer (some ⟨b4, 0, none⟩)), (7, .int .i64 (x1)), (12, .int .i64 (((l0_0).length : Int))), (13, .int .i64 (x1)), (30, .bool ((andI x2 p1) == 0))] (by kernel_rfl) (by kernel_rfl) (fun a1 => ?_)
     refine cW_cond (t := (andI x2 p1) == 0) (by kernel_rfl) (fun hb3 => ?_) (fun hb3 => ?_)
     ·have hm := condT hb3 hm
      refine cW_region ?_
      refine wS_load1 (d := 31) (T := 56) (ad := ⟨b4, 0, none⟩) (v := .slice A3 (l3).length cap3) (by kernel_rfl) vt56 ((F17).cell 0) ?_
      refine wS_pure 1 [(32, .int .i64 (x1))] (by kernel_rfl) ?_
      refine wS_bs (enc := encI) ([x1] : List (Int)) [.int .i64 (x1)] (d := 33) (t := 56) (T := 3) (n := 1) (ps := [(0, .int .i64 (x1))]) (by kernel_rfl) el56 encI_ok (by rfl) (by omega) (by omega) (by kernel_rfl) (by rfl) ?_
      intro b5 w7 G6 F19 hc6
      have D10 : Dj [b1] [b5] := Dj.of (lt1 F15.lt) (low1 G6)
      have D11 : Dj [b2] [b5] := Dj.of (lt1 F16.lt) (low1 G6)
      have D12 : Dj [b4] [b5] := Dj.of (lt1 F17.lt) (low1 G6)
      have D13 : Dj fp2 [b5] := Dj.of F18.low (low1 G6)
      replace F6 := F6.chg hc6 Dj.nil
      replace F7 := F7.chg hc6 Dj.nil
      replace F8 := F8.chg hc6 notNil
      replace F9 := F9.chg hc6 Dj.nil
      replace F10 := F10.chg hc6 Dj.nil
      replace F11 := F11.chg hc6 notNil
      replace F12 := F12.chg hc6 notNil
      replace F13 := F13.chg hc6 Dj.nil
      replace F14 := F14.chg hc6 notNil
      replace F15 := F15.chg hc6 notNil
      replace F16 := F16.chg hc6 notNil
      replace F17 := F17.chg hc6 notNil
      replace F18 := F18.chg hc6 Dj.nil
      replace hB := hB.inS hc6 inNil
      replace G6 := Nat.le_trans hZ G6
      replace G6 := low1 G6
      replace hZ := Nat.le_trans hZ hc6.size
      obtain ⟨_, hk1, hm⟩ := bindE hm
      replace hk1 := apE hk1
      refine wS_append (enc := encI) (l := (l3 : List (Int))) (l2 := (([x1] : List (Int)) : List (Int))) (d := 34) (t := 56) (T := 3) (A := A3) (A2 := (some ⟨b5, 0, none⟩)) (cap := cap3) (cap2 := 1) (by kernel_rfl) el56 encI_ok F18 (F19.sl encI_ok) (by rfl) hk1 ?_
      intro w8 fp4 A5 cap5 F20 hc7 hp1
      have G7 := low_ap G5 hZ hp1
      have D14 : Dj [b1] fp4 := Dj.ap D7 (lt1 F15.lt) hp1
      have D15 : Dj [b2] fp4 := Dj.ap D8 (lt1 F16.lt) hp1
      have D16 : Dj [b4] fp4 := Dj.ap D9 (lt1 F17.lt) hp1
      have D17 : Dj [b5] fp4 := Dj.ap (D13).symm F19.low hp1
      replace F6 := F6.chg hc7 (Dj.of L0_0 G5)
      replace F7 := F7.chg hc7 (Dj.of L0_1 G5)
      replace F8 := F8.chg hc7 (dj1 (Dj.of L2_0 G5))
      replace F9 := F9.chg hc7 (Dj.of L2_1_0 G5)
      replace F10 := F10.chg hc7 (Dj.of L2_1_1 G5)
      replace F11 := F11.chg hc7 (dj1 (Dj.of L2_1 G5))
      replace F12 := F12.chg hc7 (dj1 (Dj.of L2_2 G5))
      replace F13 := F13.chg hc7 (Dj.of L2_3_0 G5)
      replace F14 := F14.chg hc7 (dj1 (Dj.of L2_3 G5))
      replace F15 := F15.chg hc7 (dj1 D7)
      replace F16 := F16.chg hc7 (dj1 D8)
      replace F17 := F17.chg hc7 (dj1 D9)
      replace F19 := F19.chg hc7 (D13).symm
      replace hB := hB.inS hc7 (inLow G5)
      replace hZ := Nat.le_trans hZ hc7.size
      refine wS_store (T := 56) (g := b4) (o := 0) (ad := ⟨b4, 0, none⟩) (v := .slice A5 (l3 ++ (([x1] : List (Int)))).length cap5) (vs := [.slice A5 (l3 ++ (([x1] : List (Int)))).length cap5]) (by kernel_rfl) (by rfl) sz56 (by rfl) (by rfl) F17 (by simp only [List.length_cons, List.length_nil]; omega) ?_
      intro w9 F21 hc8
      replace F6 := F6.chg hc8 (Dj.of L0_0 (low1 G4))
      replace F7 := F7.chg hc8 (Dj.of L0_1 (low1 G4))
      replace F8 := F8.chg hc8 (dj1 (Dj.of L2_0 (low1 G4)))
      replace F9 := F9.chg hc8 (Dj.of L2_1_0 (low1 G4))
      replace F10 := F10.chg hc8 (Dj.of L2_1_1 (low1 G4))
      replace F11 := F11.chg hc8 (dj1 (Dj.of L2_1 (low1 G4)))
      replace F12 := F12.chg hc8 (dj1 (Dj.of L2_2 (low1 G4)))
      replace F13 := F13.chg hc8 (Dj.of L2_3_0 (low1 G4))
      replace F14 := F14.chg hc8 (dj1 (Dj.of L2_3 (low1 G4)))
      replace F15 := F15.chg hc8 (dj1 D4)
      replace F16 := F16.chg hc8 (dj1 D5)
      replace F19 := F19.chg hc8 (D12).symm
      replace F20 := F20.chg hc8 (D16).symm
      replace hB := hB.inS hc8 (inLow (low1 G4))
      replace hZ := Nat.le_trans hZ hc8.size
      replace F21 : Cl w9 b4 56 [.slice A5 (l3 ++ (([x1] : List (Int)))).length cap5] := F21
      clear F17
      refine wS_end (by rfl) ?_
      have hq : (some (l3 ++ (([x1] : List (Int)))) : Option ((List (Int)))) = some _ := hm
      replace hq := someE hq
      subst hq
      exact eX_J (fun hst => ⟨l3 ++ (([x1] : List (Int))), A5, cap5, fp4, rfl, Fr.of hst (by kernel_rfl), F6, F7, F8, F9, F10, F11, F12, F13, F14, F15, F16, F21, F20, G7, D14, D15, D16, hB, hZ⟩)
     ·have hm := condF hb3 hm
      refine cW_skip ?_
      have hq : (some l3 : Option ((List (Int)))) = some _ := hm
      replace hq := someE hq
      subst hq
      exact eX_J (fun hst => ⟨l3, A3, cap3, fp2, rfl, Fr.of hst (by kernel_rfl), F6, F7, F8, F9, F10, F11, F12, F13, F14, F15, F16, F17, F18, G5, D7, D8, D9, hB, hZ⟩)
    ·have hm := condF hb2 hm
     rewrite [hb2]
     refine wS_pure 9 [(30, .bool (false)), (29, undef), (28, undef), (27, undef), (26, undef), (25, undef), (24, undef), (23, undef), (22, undef)] (by kernel_rfl) ?_
     refine wS_end (by rfl) ?_
     refine eX_then ?_
     refine cW_prune [(1, .int .i64 (p1)), (3, .pointer (some ⟨b1, 0, none⟩)), (5, .pointer (some ⟨b2, 0, none⟩)), (6, .pointer (some ⟨b4, 0, none⟩)), (7, .int .i64 (x1)), (12, .int .i64 (((l0_0).length : Int))), (13, .int .i64 (x1)), (30, .bool (false))] (by kernel_rfl) (by kernel_rfl) (fun a2 => ?_)
     refine cW_cond_f (by kernel_rfl) ?_
     refine cW_skip ?_
     have hq : (some l3 : Option ((List (Int)))) = some _ := hm
     replace hq := someE hq
     subst hq
     exact eX_J (fun hst => ⟨l3, A3, cap3, fp2, rfl, Fr.of hst (by kernel_rfl), F6, F7, F8, F9, F10, F11, F12, F13, F14, F15, F16, F17, F18, G5, D7, D8, D9, hB, hZ⟩)
   ·rintro a' w10 ⟨l4, A4, cap4, fp3, hJ, hF2, F22, F23, F24, F25, F26, F27, F28, F29, F30, F31, F32, F33, F34, G8, D18, D19, D20, hB, hZ⟩
    subst hJ
    refine Fr.goX hF2 (by kernel_rfl) ?_
    refine eX_block ?_
    refine eX_then ?_
    refine cW_region ?_
    refine wS_pure 2 [(13, .int .i64 (wr (x1 + 1))), (35, .int .i64 (wr (x1 + 1)))] (by kernel_rfl) ?_
    refine wS_end (by rfl) ?_
    have hq : (some (Ctl.next ((wr (x1 + 1), l4))) : Option (Ctl (Int × (List (Int))) ((List (Int))))) = some _ := hm
    replace hq := someE hq
    subst hq
    exact eX_next hx1 (fun hst => ⟨wr (x1 + 1), l4, A4, cap4, fp3, rfl, Fr.of hst (by kernel_rfl), F22, F23, F24, F25, F26, F27, F28, F29, F30, F31, F32, F33, F34, G8, D18, D19, D20, hB, hZ⟩)
  ·have hm := condF hb1 hm
   refine cW_exit ?_
   refine eX_then_exit ?_
   have hq : (some (Ctl.out l3) : Option (Ctl (Int × (List (Int))) ((List (Int))))) = some _ := hm
   replace hq := someE hq
   subst hq
   refine eX_outX hx1 (fun hr2 => ?_)
   replace hr2 := hr2.symm
   subst hr2
   refine eX_block_hit ?_
   exact eX_J (fun hst => ⟨l3, A3, cap3, fp2, rfl, Fr.of hst (by kernel_rfl), F6, F7, F8, F9, F10, F11, F12, F13, F14, F15, F16, F17, F18, G5, D7, D8, D9, hB, hZ⟩)
 ·rintro a' w11 ⟨l1, A1, cap1, fp1, hJ, hF3, F35, F36, F37, F38, F39, F40, F41, F42, F43, F44, F45, F46, F47, G9, D21, D22, D23, hB, hZ⟩
  subst hJ
  refine Fr.goX hF3 (by kernel_rfl) ?_
  refine eX_then ?_
  refine cW_seq ?_
  refine cW_region ?_
  refine wS_alloc (d := 8) (T := 127) (z := .nilFunc) (by kernel_rfl) (by kernel_rfl) ?_
  intro b6 w12 G10 F48 hc9
  replace F48 : Cl w12 b6 127 [.nilFunc] := F48
  have D24 : Dj [b1] [b6] := Dj.of (lt1 F44.lt) (low1 G10)
  have D25 : Dj [b2] [b6] := Dj.of (lt1 F45.lt) (low1 G10)
  have D26 : Dj [b4] [b6] := Dj.of (lt1 F46.lt) (low1 G10)
  have D27 : Dj fp1 [b6] := Dj.of F47.low (low1 G10)
  replace F35 := F35.chg hc9 Dj.nil
  replace F36 := F36.chg hc9 Dj.nil
  replace F37 := F37.chg hc9 notNil
  replace F38 := F38.chg hc9 Dj.nil
  replace F39 := F39.chg hc9 Dj.nil
  replace F40 := F40.chg hc9 notNil
  replace F41 := F41.chg hc9 notNil
  replace F42 := F42.chg hc9 Dj.nil
  replace F43 := F43.chg hc9 notNil
  replace F44 := F44.chg hc9 notNil
  replace F45 := F45.chg hc9 notNil
  replace F46 := F46.chg hc9 notNil
  replace F47 := F47.chg hc9 Dj.nil
  replace hB := hB.inS hc9 inNil
  replace G10 := Nat.le_trans hZ G10
  replace hZ := Nat.le_trans hZ hc9.size
  refine wS_end (by rfl) ?_
  refine eX_then ?_
  refine cW_seq ?_
  refine cW_region ?_
  refine wS_pure 1 [(36, .func (.func 103) #[] #[.pointer (some ⟨b2, 0, none⟩), .pointer (some ⟨b4, 0, none⟩), .pointer (some ⟨b1, 0, none⟩), .pointer (some ⟨b6, 0, none⟩)])] (by kernel_rfl) ?_
  refine wS_store (T := 127) (g := b6) (o := 0) (ad := ⟨b6, 0, none⟩) (v := .func (.func 103) #[] #[.pointer (some ⟨b2, 0, none⟩), .pointer (some ⟨b4, 0, none⟩), .pointer (some ⟨b1, 0, none⟩), .pointer (some ⟨b6, 0, none⟩)]) (vs := [.func (.func 103) #[] #[.pointer (some ⟨b2, 0, none⟩), .pointer (some ⟨b4, 0, none⟩), .pointer (some ⟨b1, 0, none⟩), .pointer (some ⟨b6, 0, none⟩)]]) (by kernel_rfl) (by rfl) sz127 (by rfl) (by rfl) F48 (by simp only [List.length_cons, List.length_nil]; omega) ?_
  intro w13 F49 hc10
  replace F35 := F35.chg hc10 (Dj.of L0_0 (low1 G10))
  replace F36 := F36.chg hc10 (Dj.of L0_1 (low1 G10))
  replace F37 := F37.chg hc10 (dj1 (Dj.of L2_0 (low1 G10)))
  replace F38 := F38.chg hc10 (Dj.of L2_1_0 (low1 G10))
  replace F39 := F39.chg hc10 (Dj.of L2_1_1 (low1 G10))
  replace F40 := F40.chg hc10 (dj1 (Dj.of L2_1 (low1 G10)))
  replace F41 := F41.chg hc10 (dj1 (Dj.of L2_2 (low1 G10)))
  replace F42 := F42.chg hc10 (Dj.of L2_3_0 (low1 G10))
  replace F43 := F43.chg hc10 (dj1 (Dj.of L2_3 (low1 G10)))
  replace F44 := F44.chg hc10 (dj1 D24)
  replace F45 := F45.chg hc10 (dj1 D25)
  replace F46 := F46.chg hc10 (dj1 D26)
  replace F47 := F47.chg hc10 D27
  replace hB := hB.inS hc10 (inLow (low1 G10))
  replace hZ := Nat.le_trans hZ hc10.size
  replace F49 : Cl w13 b6 127 [.func (.func 103) #[] #[.pointer (some ⟨b2, 0, none⟩), .pointer (some ⟨b4, 0, none⟩), .pointer (some ⟨b1, 0, none⟩), .pointer (some ⟨b6, 0, none⟩)]] := F49
  clear F48
  refine wS_end (by rfl) ?_
  refine eX_then ?_
  refine cW_region ?_
  refine wS_load1 (d := 37) (T := 127) (ad := ⟨b6, 0, none⟩) (v := .func (.func 103) #[] #[.pointer (some ⟨b2, 0, none⟩), .pointer (some ⟨b4, 0, none⟩), .pointer (some ⟨b1, 0, none⟩), .pointer (some ⟨b6, 0, none⟩)]) (by kernel_rfl) vt127 ((F49).cell 0) ?_
  obtain ⟨y1, hy1, hm⟩ := bindE hm
  refine wS_calls (d := 38) (f := 103) (vs := [.int .i64 (0), .int .i64 (0), .pointer (some ⟨b2, 0, none⟩), .pointer (some ⟨b4, 0, none⟩), .pointer (some ⟨b1, 0, none⟩), .pointer (some ⟨b6, 0, none⟩)]) (by kernel_rfl) ent103 (c_impl_order_first_1_bfuncint_impl_order_fewest_1_bint_bimplorder_bint_bmapintint_bint_bimplorder_bfuncintint_self hR_impl_order_fewest 64 hy1 F37 F38 F39 F40 F41 F42 F43 F45 (F47.sl encI_ok) F46 F35 F36 F44 F49 J2_0__2_1_0 J2_0__2_1_1 J2_0__2_1 J2_0__2_2 J2_0__2_3_0 J2_0__2_3 (Dj.of L2_0 (low1 G2)) (Dj.of L2_0 G9) (Dj.of L2_0 (low1 G4)) J2_0__0_0 J2_0__0_1 (Dj.of L2_0 (low1 G1)) (Dj.of L2_0 (low1 G10)) J2_3_0__2_1_0 J2_3_0__2_1_1 J2_3_0__2_1 J2_3_0__2_2 J2_3_0__2_3 (Dj.of L2_3_0 (low1 G2)) (Dj.of L2_3_0 G9) (Dj.of L2_3_0 (low1 G4)) J2_3_0__0_0 J2_3_0__0_1 (Dj.of L2_3_0 (low1 G1)) (Dj.of L2_3_0 (low1 G10))) ?_
  rintro _ w14 ⟨rfl, F50, F51, hc11⟩
  replace F35 := F35.chg hc11 (Dj.app (J2_0__0_0).symm (Dj.app (J2_3_0__0_0).symm Dj.nil))
  replace F36 := F36.chg hc11 (Dj.app (J2_0__0_1).symm (Dj.app (J2_3_0__0_1).symm Dj.nil))
  replace F38 := F38.chg hc11 (Dj.app (J2_0__2_1_0).symm (Dj.app (J2_3_0__2_1_0).symm Dj.nil))
  replace F39 := F39.chg hc11 (Dj.app (J2_0__2_1_1).symm (Dj.app (J2_3_0__2_1_1).symm Dj.nil))
  replace F40 := F40.chg hc11 (dj1 (Dj.app (J2_0__2_1).symm (Dj.app (J2_3_0__2_1).symm Dj.nil)))
  replace F41 := F41.chg hc11 (dj1 (Dj.app (J2_0__2_2).symm (Dj.app (J2_3_0__2_2).symm Dj.nil)))
  replace F43 := F43.chg hc11 (dj1 (Dj.app (J2_0__2_3).symm (Dj.app (J2_3_0__2_3).symm Dj.nil)))
  replace F44 := F44.chg hc11 (dj1 (Dj.app (Dj.of L2_0 (low1 G1)).symm (Dj.app (Dj.of L2_3_0 (low1 G1)).symm Dj.nil)))
  replace F45 := F45.chg hc11 (dj1 (Dj.app (Dj.of L2_0 (low1 G2)).symm (Dj.app (Dj.of L2_3_0 (low1 G2)).symm Dj.nil)))
  replace F46 := F46.chg hc11 (dj1 (Dj.app (Dj.of L2_0 (low1 G4)).symm (Dj.app (Dj.of L2_3_0 (low1 G4)).symm Dj.nil)))
  replace F47 := F47.chg hc11 (Dj.app (Dj.of L2_0 G9).symm (Dj.app (Dj.of L2_3_0 G9).symm Dj.nil))
  replace F49 := F49.chg hc11 (dj1 (Dj.app (Dj.of L2_0 (low1 G10)).symm (Dj.app (Dj.of L2_3_0 (low1 G10)).symm Dj.nil)))
  replace hB := hB.inS hc11 (inApp (inMem (fun x hx => (List.mem_append_left _ hx))) (inApp (inMem (fun x hx => (List.mem_append_right _ (List.mem_append_left _ hx)))) inNil))
  replace hZ := Nat.le_trans hZ hc11.size
  clear F37
  clear F42
  refine ⟨.tuple #[], rfl, ?_⟩
  refine wS_end (by rfl) ?_
  have hq : (some ((y1.1, y1.2)) : Option ((Int) × (List (Int × Int)))) = some _ := hm
  replace hq := someE hq
  subst hq
  refine eX_fall (vs := []) [] (by rfl) trivial ?_
  exact ⟨rfl, F50, F51, hB⟩

set_option maxRecDepth 100000 in
/-- impl.order).fewest -/
theorem c_impl_order_fewest_body {R : (List (Int)) → (List (Int)) → (Int) → (List (Int × Int)) → Option ((Int) × (List (Int × Int)))} (hR : ∀ {w0 : World} {l0_0 : List (Int)} {A0_0 : Option Addr} {cap0_0 : Nat} {fp0_0 : List Nat} {l0_1 : List (Int)} {A0_1 : Option Addr} {cap0_1 : Nat} {fp0_1 : List Nat} {p1 : Int} {l2 : List (Int × Int)} {b2 : Nat} {r : (Int) × (List (Int × Int))} (hm : R l0_0 l0_1 p1 l2 = some r) (F0_0 : Sl 1 encI w0 fp0_0 A0_0 l0_0) (F0_1 : Sl 1 encI w0 fp0_1 A0_1 l0_1) (F2 : Mp okI kI kI w0 b2 l2) (J2__0_0 : Dj [b2] fp0_0) (J2__0_1 : Dj [b2] fp0_1), Calls Tryd.prog 78 #[.agg #[.slice A0_0 (l0_0).length cap0_0, .slice A0_1 (l0_1).length cap0_1], .int .i64 (p1), .map (some b2)] w0 fun e w' => e = .returned (.int .i64 (r.1)) ∧ Mp okI kI kI w' b2 r.2 ∧ Chg ([b2] ++ []) w0 w') {w0 : World} {l0_0 : List (Int)} {A0_0 : Option Addr} {cap0_0 : Nat} {fp0_0 : List Nat} {l0_1 : List (Int)} {A0_1 : Option Addr} {cap0_1 : Nat} {fp0_1 : List Nat} {p1 : Int} {l2 : List (Int × Int)} {b2 : Nat} {r : (Int) × (List (Int × Int))} (hm : m_impl_order_fewest_body R l0_0 l0_1 p1 l2 = some r) (F0_0 : Sl 1 encI w0 fp0_0 A0_0 l0_0) (F0_1 : Sl 1 encI w0 fp0_1 A0_1 l0_1) (F2 : Mp okI kI kI w0 b2 l2) (J2__0_0 : Dj [b2] fp0_0) (J2__0_1 : Dj [b2] fp0_1) :
  Calls Tryd.prog 78 #[.agg #[.slice A0_0 (l0_0).length cap0_0, .slice A0_1 (l0_1).length cap0_1], .int .i64 (p1), .map (some b2)] w0 fun e w' => e = .returned (.int .i64 (r.1)) ∧ Mp okI kI kI w' b2 r.2 ∧ Chg ([b2] ++ []) w0 w' := by
 have L0_0 := F0_0.low
 have L0_1 := F0_1.low
 have L2 := F2.low
 have hB : Chg ([b2] ++ []) w0 w0 := Chg.refl _ _
 have hZ := Nat.le_refl w0.heap.size
 unfold m_impl_order_fewest_body at hm
 refine enterE (N := 32) Tryd.func78 (by rfl) Tryd.ntmps78 (by simp) [(0, .agg #[.slice A0_0 (l0_0).length cap0_0, .slice A0_1 (l0_1).length cap0_1]), (1, .int .i64 (p1)), (2, .map (some b2))] (by rfl) (by kernel_rfl) (fun a => ?_)
 refine cW_seq ?_
 refine cW_region ?_
 refine wS_box (d := 3) (T := 58) (x := .agg #[.slice A0_0 (l0_0).length cap0_0, .slice A0_1 (l0_1).length cap0_1]) (by kernel_rfl) ?_
 intro b1 w1 G1 F1 hc1
 replace F1 : Cl w1 b1 58 [.slice A0_0 (l0_0).length cap0_0, .slice A0_1 (l0_1).length cap0_1] := F1
 replace F0_0 := F0_0.chg hc1 Dj.nil
 replace F0_1 := F0_1.chg hc1 Dj.nil
 replace F2 := F2.chg hc1 Dj.nil
 replace hB := hB.inS hc1 inNil
 replace G1 := Nat.le_trans hZ G1
 replace hZ := Nat.le_trans hZ hc1.size
 refine wS_box (d := 4) (T := 3) (x := .int .i64 (p1)) (by kernel_rfl) ?_
 intro b3 w2 G2 F3 hc2
 replace F3 : Cl w2 b3 3 [.int .i64 (p1)] := F3
 have D1 : Dj [b1] [b3] := Dj.of (lt1 F1.lt) (low1 G2)
 replace F0_0 := F0_0.chg hc2 Dj.nil
 replace F0_1 := F0_1.chg hc2 Dj.nil
 replace F2 := F2.chg hc2 Dj.nil
 replace F1 := F1.chg hc2 notNil
 replace hB := hB.inS hc2 inNil
 replace G2 := Nat.le_trans hZ G2
 replace hZ := Nat.le_trans hZ hc2.size
 refine wS_box (d := 5) (T := 105) (x := .map (some b2)) (by kernel_rfl) ?_
 intro b4 w3 G3 F4 hc3
 replace F4 : Cl w3 b4 105 [.map (some b2)] := F4
 have D2 : Dj [b1] [b4] := Dj.of (lt1 F1.lt) (low1 G3)
 have D3 : Dj [b3] [b4] := Dj.of (lt1 F3.lt) (low1 G3)
 replace F0_0 := F0_0.chg hc3 Dj.nil
 replace F0_1 := F0_1.chg hc3 Dj.nil
 replace F2 := F2.chg hc3 Dj.nil
 replace F1 := F1.chg hc3 notNil
 replace F3 := F3.chg hc3 notNil
 replace hB := hB.inS hc3 inNil
 replace G3 := Nat.le_trans hZ G3
 replace hZ := Nat.le_trans hZ hc3.size
 refine wS_pure 1 [(6, .int .i64 (0))] (by kernel_rfl) ?_
 refine wS_end (by rfl) ?_
 refine eX_then ?_
 refine cW_seq ?_
 refine cW_seq ?_
 refine cW_region ?_
 refine wS_load1 (d := 10) (T := 3) (ad := ⟨b3, 0, none⟩) (v := .int .i64 (p1)) (by kernel_rfl) vt3 ((F3).cell 0) ?_
 refine wS_pure 1 [(11, .bool (p1 == 0))] (by kernel_rfl) ?_
 refine wS_end (by rfl) ?_
 refine eX_then ?_
 refine cW_cond (t := p1 == 0) (by kernel_rfl) (fun hb1 => ?_) (fun hb1 => ?_)
 ·have hm := condT hb1 hm
  refine cW_seq ?_
  refine cW_region ?_
  refine wS_pure 1 [(6, .int .i64 (0))] (by kernel_rfl) ?_
  refine wS_end (by rfl) ?_
  refine eX_then ?_
  refine cW_ret ?_
  refine eX_then_ret ?_
  have hq : (some ((0, l2)) : Option ((Int) × (List (Int × Int)))) = some _ := hm
  replace hq := someE hq
  subst hq
  refine eX_ret (vs := [.int .i64 (0)]) [.tmp 6] (by rfl) ⟨by (show lkE _ _ _ = _); kernel_rfl, trivial⟩ ?_
  exact ⟨rfl, F2, hB⟩
 ·have hm := condF hb1 hm
  refine cW_skip ?_
  refine eX_then ?_
  refine cW_seq ?_
  refine cW_seq ?_
  refine cW_region ?_
  refine wS_load1 (d := 13) (T := 105) (ad := ⟨b4, 0, none⟩) (v := .map (some b2)) (by kernel_rfl) vt105 ((F4).cell 0) ?_
  refine wS_load1 (d := 14) (T := 3) (ad := ⟨b3, 0, none⟩) (v := .int .i64 (p1)) (by kernel_rfl) vt3 ((F3).cell 0) ?_
  obtain ⟨_, hk1, hm⟩ := bindE hm
  refine wS_lookOk (k := p1) (d := 15) (T := 105) (by kernel_rfl) rfl mk105 mp105 F2 (mpE hk1) ?_
  refine wS_pure 5 [(8, .bool ((mget l2 p1).isSome)), (7, .int .i64 ((mget l2 p1).getD 0)), (17, .bool ((mget l2 p1).isSome)), (16, .int .i64 ((mget l2 p1).getD 0)), (12, .tuple #[.int .i64 ((mget l2 p1).getD 0), .bool ((mget l2 p1).isSome)])] (by kernel_rfl) ?_
  refine wS_end (by rfl) ?_
  refine eX_then ?_
  refine cW_seq ?_
  refine cW_region ?_
  refine wS_pure 1 [(18, .bool ((mget l2 p1).isSome))] (by kernel_rfl) ?_
  refine wS_end (by rfl) ?_
  refine eX_then ?_
  refine cW_cond (t := (mget l2 p1).isSome) (by kernel_rfl) (fun hb2 => ?_) (fun hb2 => ?_)
  ·have hm := condT hb2 hm
   refine cW_seq ?_
   refine cW_region ?_
   refine wS_pure 2 [(6, .int .i64 ((mget l2 p1).getD 0)), (19, .int .i64 ((mget l2 p1).getD 0))] (by kernel_rfl) ?_
   refine wS_end (by rfl) ?_
   refine eX_then ?_
   refine cW_ret ?_
   refine eX_then_ret ?_
   have hq : (some (((mget l2 p1).getD 0, l2)) : Option ((Int) × (List (Int × Int)))) = some _ := hm
   replace hq := someE hq
   subst hq
   refine eX_ret (vs := [.int .i64 ((mget l2 p1).getD 0)]) [.tmp 6] (by rfl) ⟨by (show lkE _ _ _ = _); kernel_rfl, trivial⟩ ?_
   exact ⟨rfl, F2, hB⟩
  ·have hm := condF hb2 hm
   refine cW_skip ?_
   refine eX_then ?_
   refine cW_seq ?_
   refine cW_region ?_
   refine wS_pure 1 [(20, .pointer (some ⟨b1, 0, none⟩))] (by kernel_rfl) ?_
   refine wS_load1 (d := 21) (T := 56) (ad := ⟨b1, 0, none⟩) (v := .slice A0_0 (l0_0).length cap0_0) (by kernel_rfl) vt56 ((F1).cell 0) ?_
   refine wS_pure 2 [(23, .int .i64 (wr ((((l0_0).length : Int)) + 1))), (22, .int .i64 (((l0_0).length : Int)))] (by kernel_rfl) ?_
   refine wS_alloc (d := 9) (T := 3) (z := .int .i64 (0)) (by kernel_rfl) (by kernel_rfl) ?_
   intro b5 w4 G4 F5 hc4
   replace F5 : Cl w4 b5 3 [.int .i64 (0)] := F5
   have D4 : Dj [b1] [b5] := Dj.of (lt1 F1.lt) (low1 G4)
   have D5 : Dj [b3] [b5] := Dj.of (lt1 F3.lt) (low1 G4)
   have D6 : Dj [b4] [b5] := Dj.of (lt1 F4.lt) (low1 G4)
   replace F0_0 := F0_0.chg hc4 Dj.nil
   replace F0_1 := F0_1.chg hc4 Dj.nil
   replace F2 := F2.chg hc4 Dj.nil
   replace F1 := F1.chg hc4 notNil
   replace F3 := F3.chg hc4 notNil
   replace F4 := F4.chg hc4 notNil
   replace hB := hB.inS hc4 inNil
   replace G4 := Nat.le_trans hZ G4
   replace hZ := Nat.le_trans hZ hc4.size
   refine wS_store (T := 3) (g := b5) (o := 0) (ad := ⟨b5, 0, none⟩) (v := .int .i64 (wr ((((l0_0).length : Int)) + 1))) (vs := [.int .i64 (wr ((((l0_0).length : Int)) + 1))]) (by kernel_rfl) (by rfl) sz3 (by rfl) (by rfl) F5 (by simp only [List.length_cons, List.length_nil]; omega) ?_
   intro w5 F6 hc5
   replace F0_0 := F0_0.chg hc5 (Dj.of L0_0 (low1 G4))
   replace F0_1 := F0_1.chg hc5 (Dj.of L0_1 (low1 G4))
   replace F2 := F2.chg hc5 (Dj.of L2 (low1 G4))
   replace F1 := F1.chg hc5 (dj1 D4)
   replace F3 := F3.chg hc5 (dj1 D5)
   replace F4 := F4.chg hc5 (dj1 D6)
   replace hB := hB.inS hc5 (inLow (low1 G4))
   replace hZ := Nat.le_trans hZ hc5.size
   replace F6 : Cl w5 b5 3 [.int .i64 (wr ((((l0_0).length : Int)) + 1))] := F6
   clear F5
   refine wS_end (by rfl) ?_
   refine eX_then ?_
   refine cW_seq ?_
   refine cW_region ?_
   refine wS_loadA (d := 24) (T := 58) (ad := ⟨b1, 0, none⟩) (vs := [.slice A0_0 (l0_0).length cap0_0, .slice A0_1 (l0_1).length cap0_1]) (by kernel_rfl) vt58 (fun i u hu => box_cells F1 0 hu (by rfl)) ?_
   refine wS_load1 (d := 25) (T := 3) (ad := ⟨b3, 0, none⟩) (v := .int .i64 (p1)) (by kernel_rfl) vt3 ((F3).cell 0) ?_
   refine wS_pure 1 [(26, .func (.func 102) #[] #[.pointer (some ⟨b5, 0, none⟩), .pointer (some ⟨b1, 0, none⟩), .pointer (some ⟨b3, 0, none⟩), .pointer (some ⟨b4, 0, none⟩)])] (by kernel_rfl) ?_
   obtain ⟨y1, hy1, hm⟩ := bindE hm
   refine wS_calls (d := 27) (f := 79) (vs := [.agg #[.slice A0_0 (l0_0).length cap0_0, .slice A0_1 (l0_1).length cap0_1], .int .i64 (p1), .func (.func 102) #[] #[.pointer (some ⟨b5, 0, none⟩), .pointer (some ⟨b1, 0, none⟩), .pointer (some ⟨b3, 0, none⟩), .pointer (some ⟨b4, 0, none⟩)]]) (by kernel_rfl) ent79 (c_impl_order_first_impl_order_fewest_1_bint_bimplorder_bint_bmapintint hR hy1 F0_0 F0_1 F6 F0_0 F0_1 F1 F3 F2 F4 (Dj.of L0_0 (low1 G4)).symm (Dj.of L0_1 (low1 G4)).symm (Dj.of L0_0 (low1 G4)).symm (Dj.of L0_1 (low1 G4)).symm (D4).symm (D5).symm (Dj.of L2 (low1 G4)).symm (D6).symm J2__0_0 J2__0_1 J2__0_0 J2__0_1 (Dj.of L2 (low1 G1)) (Dj.of L2 (low1 G2)) (Dj.of L2 (low1 G3))) ?_
   rintro _ w6 ⟨rfl, F7, F8, hc6⟩
   replace F0_0 := F0_0.chg hc6 (Dj.app (Dj.of L0_0 (low1 G4)) (Dj.app (J2__0_0).symm Dj.nil))
   replace F0_1 := F0_1.chg hc6 (Dj.app (Dj.of L0_1 (low1 G4)) (Dj.app (J2__0_1).symm Dj.nil))
   replace F1 := F1.chg hc6 (dj1 (Dj.app D4 (Dj.app (Dj.of L2 (low1 G1)).symm Dj.nil)))
   replace F3 := F3.chg hc6 (dj1 (Dj.app D5 (Dj.app (Dj.of L2 (low1 G2)).symm Dj.nil)))
   replace F4 := F4.chg hc6 (dj1 (Dj.app D6 (Dj.app (Dj.of L2 (low1 G3)).symm Dj.nil)))
   replace hB := hB.inS hc6 (inApp (inLow (low1 G4)) (inApp (inMem (fun x hx => (List.mem_append_left _ hx))) inNil))
   replace hZ := Nat.le_trans hZ hc6.size
   clear F6
   clear F2
   refine ⟨.tuple #[], rfl, ?_⟩
   refine wS_end (by rfl) ?_
   refine eX_then ?_
   refine cW_prune [(4, .pointer (some ⟨b3, 0, none⟩)), (5, .pointer (some ⟨b4, 0, none⟩)), (9, .pointer (some ⟨b5, 0, none⟩))] (by kernel_rfl) (by kernel_rfl) (fun a1 => ?_)
   refine cW_seq ?_
   refine cW_region ?_
   refine wS_load1 (d := 28) (T := 105) (ad := ⟨b4, 0, none⟩) (v := .map (some b2)) (by kernel_rfl) vt105 ((F4).cell 0) ?_
   refine wS_load1 (d := 29) (T := 3) (ad := ⟨b3, 0, none⟩) (v := .int .i64 (p1)) (by kernel_rfl) vt3 ((F3).cell 0) ?_
   refine wS_load1 (d := 30) (T := 3) (ad := ⟨b5, 0, none⟩) (v := .int .i64 (y1.1)) (by kernel_rfl) vt3 ((F7).cell 0) ?_
   obtain ⟨_, hk2, hm⟩ := bindE hm
   refine wS_mup (k := p1) (x := y1.1) (T := 105) (by kernel_rfl) rfl rfl mk105 mp105 F8 (mpE hk2) ?_
   intro w7 F9 hc7
   replace F0_0 := F0_0.chg hc7 (J2__0_0).symm
   replace F0_1 := F0_1.chg hc7 (J2__0_1).symm
   replace F1 := F1.chg hc7 (dj1 (Dj.of L2 (low1 G1)).symm)
   replace F3 := F3.chg hc7 (dj1 (Dj.of L2 (low1 G2)).symm)
   replace F4 := F4.chg hc7 (dj1 (Dj.of L2 (low1 G3)).symm)
   replace F7 := F7.chg hc7 (dj1 (Dj.of L2 (low1 G4)).symm)
   replace hB := hB.inS hc7 (inMem (fun x hx => (List.mem_append_left _ hx)))
   replace hZ := Nat.le_trans hZ hc7.size
   clear F8
   refine wS_end (by rfl) ?_
   refine eX_then ?_
   refine cW_seq ?_
   refine cW_region ?_
   refine wS_load1 (d := 31) (T := 3) (ad := ⟨b5, 0, none⟩) (v := .int .i64 (y1.1)) (by kernel_rfl) vt3 ((F7).cell 0) ?_
   refine wS_pure 1 [(6, .int .i64 (y1.1))] (by kernel_rfl) ?_
   refine wS_end (by rfl) ?_
   refine eX_then ?_
   refine cW_ret ?_
   have hq : (some ((y1.1, mup y1.2 p1 y1.1)) : Option ((Int) × (List (Int × Int)))) = some _ := hm
   replace hq := someE hq
   subst hq
   refine eX_ret (vs := [.int .i64 (y1.1)]) [.tmp 6] (by rfl) ⟨by (show lkE _ _ _ = _); kernel_rfl, trivial⟩ ?_
   exact ⟨rfl, F9, hB⟩
set_option maxRecDepth 100000 in
theorem c_impl_order_fewest (n : Nat) : ∀ {w0 : World} {l0_0 : List (Int)} {A0_0 : Option Addr} {cap0_0 : Nat} {fp0_0 : List Nat} {l0_1 : List (Int)} {A0_1 : Option Addr} {cap0_1 : Nat} {fp0_1 : List Nat} {p1 : Int} {l2 : List (Int × Int)} {b2 : Nat} {r : (Int) × (List (Int × Int))} (hm : m_impl_order_fewest n l0_0 l0_1 p1 l2 = some r) (F0_0 : Sl 1 encI w0 fp0_0 A0_0 l0_0) (F0_1 : Sl 1 encI w0 fp0_1 A0_1 l0_1) (F2 : Mp okI kI kI w0 b2 l2) (J2__0_0 : Dj [b2] fp0_0) (J2__0_1 : Dj [b2] fp0_1), Calls Tryd.prog 78 #[.agg #[.slice A0_0 (l0_0).length cap0_0, .slice A0_1 (l0_1).length cap0_1], .int .i64 (p1), .map (some b2)] w0 fun e w' => e = .returned (.int .i64 (r.1)) ∧ Mp okI kI kI w' b2 r.2 ∧ Chg ([b2] ++ []) w0 w' := by
 induction n with
 | zero => intro w0 l0_0 A0_0 cap0_0 fp0_0 l0_1 A0_1 cap0_1 fp0_1 p1 l2 b2 r hm F0_0 F0_1 F2 J2__0_0 J2__0_1; exact nomatch (show (none : Option ((Int) × (List (Int × Int)))) = some r from hm)
 | succ n ih => intro w0 l0_0 A0_0 cap0_0 fp0_0 l0_1 A0_1 cap0_1 fp0_1 p1 l2 b2 r hm F0_0 F0_1 F2 J2__0_0 J2__0_1; exact c_impl_order_fewest_body ih hm F0_0 F0_1 F2 J2__0_0 J2__0_1


set_option maxRecDepth 100000 in
/-- impl.order).best$1 -/
theorem c_impl_order_best_1_bint_bimplorder_bint_bmapintint_bint {w0 : World} {p0 : Int} {q1_0 : Int} {b1 : Nat} {l2_0 : List (Int)} {A2_0 : Option Addr} {cap2_0 : Nat} {fp2_0 : List Nat} {l2_1 : List (Int)} {A2_1 : Option Addr} {cap2_1 : Nat} {fp2_1 : List Nat} {b2 : Nat} {q3_0 : Int} {b3 : Nat} {l4_0 : List (Int × Int)} {b4_0 : Nat} {b4 : Nat} {q5_0 : Int} {b5 : Nat} {r : (Int) × (List (Int × Int))} (hm : m_impl_order_best_1_bint_bimplorder_bint_bmapintint_bint p0 q1_0 l2_0 l2_1 q3_0 l4_0 q5_0 = some r) (F1 : Cl w0 b1 3 [.int .i64 (q1_0)]) (F2_0 : Sl 1 encI w0 fp2_0 A2_0 l2_0) (F2_1 : Sl 1 encI w0 fp2_1 A2_1 l2_1) (F2 : Cl w0 b2 58 [.slice A2_0 (l2_0).length cap2_0, .slice A2_1 (l2_1).length cap2_1]) (F3 : Cl w0 b3 3 [.int .i64 (q3_0)]) (F4_0 : Mp okI kI kI w0 b4_0 l4_0) (F4 : Cl w0 b4 105 [.map (some b4_0)]) (F5 : Cl w0 b5 3 [.int .i64 (q5_0)]) (J1__2_0 : Dj [b1] fp2_0) (J1__2_1 : Dj [b1] fp2_1) (J1__2 : Dj [b1] [b2]) (J1__3 : Dj [b1] [b3]) (J1__4_0 : Dj [b1] [b4_0]) (J1__4 : Dj [b1] [b4]) (J1__5 : Dj [b1] [b5]) (J4_0__2_0 : Dj [b4_0] fp2_0) (J4_0__2_1 : Dj [b4_0] fp2_1) (J4_0__2 : Dj [b4_0] [b2]) (J4_0__3 : Dj [b4_0] [b3]) (J4_0__4 : Dj [b4_0] [b4]) (J4_0__5 : Dj [b4_0] [b5]) :
  Calls Tryd.prog 80 #[.int .i64 (p0), .pointer (some ⟨b1, 0, none⟩), .pointer (some ⟨b2, 0, none⟩), .pointer (some ⟨b3, 0, none⟩), .pointer (some ⟨b4, 0, none⟩), .pointer (some ⟨b5, 0, none⟩)] w0 fun e w' => e = .returned (.tuple #[]) ∧ Cl w' b1 3 [.int .i64 (r.1)] ∧ Mp okI kI kI w' b4_0 r.2 ∧ Chg ([b1] ++ ([b4_0] ++ [])) w0 w' := by
 have L1 := lt1 F1.lt
 have L2_0 := F2_0.low
 have L2_1 := F2_1.low
 have L2 := lt1 F2.lt
 have L3 := lt1 F3.lt
 have L4_0 := F4_0.low
 have L4 := lt1 F4.lt
 have L5 := lt1 F5.lt
 have hB : Chg ([b1] ++ ([b4_0] ++ [])) w0 w0 := Chg.refl _ _
 have hZ := Nat.le_refl w0.heap.size
 unfold m_impl_order_best_1_bint_bimplorder_bint_bmapintint_bint at hm
 refine enterE (N := 20) Tryd.func80 (by rfl) Tryd.ntmps80 (by simp) [(0, .int .i64 (p0)), (1, .pointer (some ⟨b1, 0, none⟩)), (2, .pointer (some ⟨b2, 0, none⟩)), (3, .pointer (some ⟨b3, 0, none⟩)), (4, .pointer (some ⟨b4, 0, none⟩)), (5, .pointer (some ⟨b5, 0, none⟩))] (by rfl) (by kernel_rfl) (fun a => ?_)
 obtain ⟨s1, hs1, hm⟩ := bindE hm
 refine cW_cut (fun a' w' => ∃ x1 : Int, ∃ l1 : List (Int × Int), (x1, l1) = s1 ∧ Fr 20 [] a' ∧ Cl w' b1 3 [.int .i64 (x1)] ∧ Mp okI kI kI w' b4_0 l1 ∧ Chg ([b1] ++ ([b4_0] ++ [])) w0 w' ∧ w0.heap.size ≤ w'.heap.size) ?_ ?_
 ·have hm := hs1
  refine cW_seq ?_
  refine cW_drawnTail [b4_0] 10 (by kernel_rfl) (by kernel_rfl) (fun w1 hc1 => ?_)
  replace F1 := F1.chg hc1 notNil
  replace F2_0 := F2_0.chg hc1 Dj.nil
  replace F2_1 := F2_1.chg hc1 Dj.nil
  replace F2 := F2.chg hc1 notNil
  replace F3 := F3.chg hc1 notNil
  replace F4_0 := F4_0.chg hc1 Dj.nil
  replace F4 := F4.chg hc1 notNil
  replace F5 := F5.chg hc1 notNil
  replace hB := hB.inS hc1 inNil
  replace hZ := Nat.le_trans hZ hc1.size
  have hS := Chg.refl [b4_0] w1
  have Z1 := F1
  have Z2 := F2_0
  have Z3 := F2_1
  have Z4 := F2
  have Z5 := F3
  have Z6 := F4_0
  have Z7 := F4
  have Z8 := F5
  refine wH_load1 (i := 0) (d := 7) (T := 3) (ad := ⟨b1, 0, none⟩) (v := .int .i64 (q1_0)) (by kernel_rfl) (qT (qT (qT qZ))) (by kernel_rfl) (by kernel_rfl) vt3 (fun W hW => (Z1.chg hW (dj1 J1__4_0)).cell 0) ?_
  refine wH_take [1, 2] [2, 1, 0] [(9, .bool (q1_0 == 0)), (8, .bool (q1_0 == 0))] (by kernel_rfl) (qT (qT (qT qZ))) (by kernel_rfl) ?_
  refine wH_bool (q1_0 == 0) (fun hb1 => ?_) (fun hb1 => ?_)
  ·have hm := condT hb1 hm
   rewrite [hb1]
   refine wH_loadA (i := 3) (d := 10) (T := 58) (ad := ⟨b2, 0, none⟩) (vs := [.slice A2_0 (l2_0).length cap2_0, .slice A2_1 (l2_1).length cap2_1]) (by kernel_rfl) (qT (qT (qT qZ))) (by kernel_rfl) (by kernel_rfl) vt58 (fun W hW i u hu => box_cells (Z4.chg hW (dj1 (J4_0__2).symm)) 0 hu (by rfl)) ?_
   refine wH_load1 (i := 4) (d := 11) (T := 3) (ad := ⟨b3, 0, none⟩) (v := .int .i64 (q3_0)) (by kernel_rfl) (qT (qT (qT qZ))) (by kernel_rfl) (by kernel_rfl) vt3 (fun W hW => (Z5.chg hW (dj1 (J4_0__3).symm)).cell 0) ?_
   refine wH_take [5, 6] [6, 5, 4, 3, 2, 1, 0] [(13, .int .i64 (andNI q3_0 p0)), (12, .int .i64 (p0))] (by kernel_rfl) (qT (qT (qT qZ))) (by kernel_rfl) ?_
   refine wH_load1 (i := 7) (d := 14) (T := 105) (ad := ⟨b4, 0, none⟩) (v := .map (some b4_0)) (by kernel_rfl) (qT (qT (qT qZ))) (by kernel_rfl) (by kernel_rfl) vt105 (fun W hW => (Z7.chg hW (dj1 (J4_0__4).symm)).cell 0) ?_
   refine wH_load1 (i := 9) (d := 16) (T := 3) (ad := ⟨b5, 0, none⟩) (v := .int .i64 (q5_0)) (by kernel_rfl) (qT (qT (qT qZ))) (by kernel_rfl) (by kernel_rfl) vt3 (fun W hW => (Z8.chg hW (dj1 (J4_0__5).symm)).cell 0) ?_
   refine wH_all [8] (by rfl) (by kernel_rfl) (by simp) ⟨⟨by kernel_rfl, ?_⟩, trivial⟩
   obtain ⟨y1, hy1, hm⟩ := bindE hm
   refine wS_calls (d := 15) (f := 78) (vs := [.agg #[.slice A2_0 (l2_0).length cap2_0, .slice A2_1 (l2_1).length cap2_1], .int .i64 (andNI q3_0 p0), .map (some b4_0)]) (by kernel_rfl) ent78 (c_impl_order_fewest 64 hy1 F2_0 F2_1 F4_0 J4_0__2_0 J4_0__2_1) ?_
   rintro _ w2 ⟨rfl, F6, hc2⟩
   replace F1 := F1.chg hc2 (dj1 (Dj.app J1__4_0 Dj.nil))
   replace F2_0 := F2_0.chg hc2 (Dj.app (J4_0__2_0).symm Dj.nil)
   replace F2_1 := F2_1.chg hc2 (Dj.app (J4_0__2_1).symm Dj.nil)
   replace F2 := F2.chg hc2 (dj1 (Dj.app (J4_0__2).symm Dj.nil))
   replace F3 := F3.chg hc2 (dj1 (Dj.app (J4_0__3).symm Dj.nil))
   replace F4 := F4.chg hc2 (dj1 (Dj.app (J4_0__4).symm Dj.nil))
   replace F5 := F5.chg hc2 (dj1 (Dj.app (J4_0__5).symm Dj.nil))
   replace hB := hB.inS hc2 (inApp (inMem (fun x hx => (List.mem_append_right _ (List.mem_append_left _ hx)))) inNil)
   have hSz := hS
   replace hS := hS.trans (hc2.more (fun x hx => by simpa using hx))
   replace hZ := Nat.le_trans hZ hc2.size
   clear F4_0
   refine ⟨.int .i64 (y1.1), rfl, ?_⟩
   refine wS_end (by kernel_rfl) ?_
   refine eX_KH hS ?_
   refine wH_done (by kernel_rfl) ?_
   refine eX_tail ?_
   refine wS_pure 2 [(18, .bool (y1.1 == q5_0)), (17, .bool (y1.1 == q5_0))] (by kernel_rfl) ?_
   refine wS_end (by rfl) ?_
   refine eX_then ?_
   refine cW_cond (t := y1.1 == q5_0) (by kernel_rfl) (fun hb2 => ?_) (fun hb2 => ?_)
   ·have hm := condT hb2 hm
    refine cW_region ?_
    refine wS_pure 1 [(19, .int .i64 (p0))] (by kernel_rfl) ?_
    refine wS_store (T := 3) (g := b1) (o := 0) (ad := ⟨b1, 0, none⟩) (v := .int .i64 (p0)) (vs := [.int .i64 (p0)]) (by kernel_rfl) (by rfl) sz3 (by rfl) (by rfl) F1 (by simp only [List.length_cons, List.length_nil]; omega) ?_
    intro w3 F7 hc3
    replace F2_0 := F2_0.chg hc3 (J1__2_0).symm
    replace F2_1 := F2_1.chg hc3 (J1__2_1).symm
    replace F2 := F2.chg hc3 (dj1 (J1__2).symm)
    replace F3 := F3.chg hc3 (dj1 (J1__3).symm)
    replace F6 := F6.chg hc3 (J1__4_0).symm
    replace F4 := F4.chg hc3 (dj1 (J1__4).symm)
    replace F5 := F5.chg hc3 (dj1 (J1__5).symm)
    replace hB := hB.inS hc3 (inMem (fun x hx => (List.mem_append_left _ hx)))
    replace hZ := Nat.le_trans hZ hc3.size
    replace F7 : Cl w3 b1 3 [.int .i64 (p0)] := F7
    clear F1
    refine wS_end (by rfl) ?_
    have hq : (some ((p0, y1.2)) : Option (Int × (List (Int × Int)))) = some _ := hm
    replace hq := someE hq
    subst hq
    exact eX_J (fun hst => ⟨p0, y1.2, rfl, Fr.of hst (by kernel_rfl), F7, F6, hB, hZ⟩)
   ·have hm := condF hb2 hm
    refine cW_skip ?_
    have hq : (some ((q1_0, y1.2)) : Option (Int × (List (Int × Int)))) = some _ := hm
    replace hq := someE hq
    subst hq
    exact eX_J (fun hst => ⟨q1_0, y1.2, rfl, Fr.of hst (by kernel_rfl), F1, F6, hB, hZ⟩)
  ·have hm := condF hb1 hm
   rewrite [hb1]
   refine wH_take [3, 4, 5, 6, 7, 8, 9] [9, 8, 7, 6, 5, 4, 3, 2, 1, 0] [(16, undef), (15, undef), (14, undef), (13, undef), (12, undef), (11, undef), (10, undef)] (by kernel_rfl) (qT (qT (qT qZ))) (by kernel_rfl) ?_
   refine wH_done (by kernel_rfl) ?_
   refine eX_tail ?_
   refine wS_pure 2 [(18, .bool (false)), (17, undef)] (by kernel_rfl) ?_
   refine wS_end (by rfl) ?_
   refine eX_then ?_
   refine cW_cond_f (by kernel_rfl) ?_
   refine cW_skip ?_
   have hq : (some ((q1_0, l4_0)) : Option (Int × (List (Int × Int)))) = some _ := hm
   replace hq := someE hq
   subst hq
   exact eX_J (fun hst => ⟨q1_0, l4_0, rfl, Fr.of hst (by kernel_rfl), F1, F4_0, hB, hZ⟩)
 ·rintro a' w4 ⟨x1, l1, hJ, hF1, F8, F9, hB, hZ⟩
  subst hJ
  refine Fr.goX hF1 (by kernel_rfl) ?_
  have hq : (some ((x1, l1)) : Option ((Int) × (List (Int × Int)))) = some _ := hm
  replace hq := someE hq
  subst hq
  refine eX_fall (vs := []) [] (by rfl) trivial ?_
  exact ⟨rfl, F8, F9, hB⟩

set_option maxRecDepth 100000 in
/-- impl.order).first$1 -/
theorem c_impl_order_first_1_bfuncint_impl_order_best_1_bint_bimplorder_bint_bmapintint_bint_bint_bimplorder_bfuncintint_self_body {R : (Int) → (Int) → (Int) → (List (Int)) → (List (Int)) → (Int) → (List (Int × Int)) → (Int) → (List (Int)) → (List (Int)) → (List (Int)) → Option ((Int) × (List (Int × Int)))} (hR : ∀ {w0 : World} {p0 : Int} {p1 : Int} {q2_0_0_0 : Int} {b2_0_0 : Nat} {l2_0_1_0 : List (Int)} {A2_0_1_0 : Option Addr} {cap2_0_1_0 : Nat} {fp2_0_1_0 : List Nat} {l2_0_1_1 : List (Int)} {A2_0_1_1 : Option Addr} {cap2_0_1_1 : Nat} {fp2_0_1_1 : List Nat} {b2_0_1 : Nat} {q2_0_2_0 : Int} {b2_0_2 : Nat} {l2_0_3_0 : List (Int × Int)} {b2_0_3_0 : Nat} {b2_0_3 : Nat} {q2_0_4_0 : Int} {b2_0_4 : Nat} {b2 : Nat} {l3_0 : List (Int)} {A3_0 : Option Addr} {cap3_0 : Nat} {fp3_0 : List Nat} {b3 : Nat} {l4_0 : List (Int)} {A4_0 : Option Addr} {cap4_0 : Nat} {fp4_0 : List Nat} {l4_1 : List (Int)} {A4_1 : Option Addr} {cap4_1 : Nat} {fp4_1 : List Nat} {b4 : Nat} {b5 : Nat} {r : (Int) × (List (Int × Int))} (hm : R p0 p1 q2_0_0_0 l2_0_1_0 l2_0_1_1 q2_0_2_0 l2_0_3_0 q2_0_4_0 l3_0 l4_0 l4_1 = some r) (F2_0_0 : Cl w0 b2_0_0 3 [.int .i64 (q2_0_0_0)]) (F2_0_1_0 : Sl 1 encI w0 fp2_0_1_0 A2_0_1_0 l2_0_1_0) (F2_0_1_1 : Sl 1 encI w0 fp2_0_1_1 A2_0_1_1 l2_0_1_1) (F2_0_1 : Cl w0 b2_0_1 58 [.slice A2_0_1_0 (l2_0_1_0).length cap2_0_1_0, .slice A2_0_1_1 (l2_0_1_1).length cap2_0_1_1]) (F2_0_2 : Cl w0 b2_0_2 3 [.int .i64 (q2_0_2_0)]) (F2_0_3_0 : Mp okI kI kI w0 b2_0_3_0 l2_0_3_0) (F2_0_3 : Cl w0 b2_0_3 105 [.map (some b2_0_3_0)]) (F2_0_4 : Cl w0 b2_0_4 3 [.int .i64 (q2_0_4_0)]) (F2 : Cl w0 b2 108 [.func (.func 80) #[] #[.pointer (some ⟨b2_0_0, 0, none⟩), .pointer (some ⟨b2_0_1, 0, none⟩), .pointer (some ⟨b2_0_2, 0, none⟩), .pointer (some ⟨b2_0_3, 0, none⟩), .pointer (some ⟨b2_0_4, 0, none⟩)]]) (F3_0 : Sl 1 encI w0 fp3_0 A3_0 l3_0) (F3 : Cl w0 b3 56 [.slice A3_0 (l3_0).length cap3_0]) (F4_0 : Sl 1 encI w0 fp4_0 A4_0 l4_0) (F4_1 : Sl 1 encI w0 fp4_1 A4_1 l4_1) (F4 : Cl w0 b4 58 [.slice A4_0 (l4_0).length cap4_0, .slice A4_1 (l4_1).length cap4_1]) (F5 : Cl w0 b5 127 [.func (.func 103) #[] #[.pointer (some ⟨b2, 0, none⟩), .pointer (some ⟨b3, 0, none⟩), .pointer (some ⟨b4, 0, none⟩), .pointer (some ⟨b5, 0, none⟩)]]) (J2_0_0__2_0_1_0 : Dj [b2_0_0] fp2_0_1_0) (J2_0_0__2_0_1_1 : Dj [b2_0_0] fp2_0_1_1) (J2_0_0__2_0_1 : Dj [b2_0_0] [b2_0_1]) (J2_0_0__2_0_2 : Dj [b2_0_0] [b2_0_2]) (J2_0_0__2_0_3_0 : Dj [b2_0_0] [b2_0_3_0]) (J2_0_0__2_0_3 : Dj [b2_0_0] [b2_0_3]) (J2_0_0__2_0_4 : Dj [b2_0_0] [b2_0_4]) (J2_0_0__2 : Dj [b2_0_0] [b2]) (J2_0_0__3_0 : Dj [b2_0_0] fp3_0) (J2_0_0__3 : Dj [b2_0_0] [b3]) (J2_0_0__4_0 : Dj [b2_0_0] fp4_0) (J2_0_0__4_1 : Dj [b2_0_0] fp4_1) (J2_0_0__4 : Dj [b2_0_0] [b4]) (J2_0_0__5 : Dj [b2_0_0] [b5]) (J2_0_3_0__2_0_1_0 : Dj [b2_0_3_0] fp2_0_1_0) (J2_0_3_0__2_0_1_1 : Dj [b2_0_3_0] fp2_0_1_1) (J2_0_3_0__2_0_1 : Dj [b2_0_3_0] [b2_0_1]) (J2_0_3_0__2_0_2 : Dj [b2_0_3_0] [b2_0_2]) (J2_0_3_0__2_0_3 : Dj [b2_0_3_0] [b2_0_3]) (J2_0_3_0__2_0_4 : Dj [b2_0_3_0] [b2_0_4]) (J2_0_3_0__2 : Dj [b2_0_3_0] [b2]) (J2_0_3_0__3_0 : Dj [b2_0_3_0] fp3_0) (J2_0_3_0__3 : Dj [b2_0_3_0] [b3]) (J2_0_3_0__4_0 : Dj [b2_0_3_0] fp4_0) (J2_0_3_0__4_1 : Dj [b2_0_3_0] fp4_1) (J2_0_3_0__4 : Dj [b2_0_3_0] [b4]) (J2_0_3_0__5 : Dj [b2_0_3_0] [b5]), Calls Tryd.prog 103 #[.int .i64 (p0), .int .i64 (p1), .pointer (some ⟨b2, 0, none⟩), .pointer (some ⟨b3, 0, none⟩), .pointer (some ⟨b4, 0, none⟩), .pointer (some ⟨b5, 0, none⟩)] w0 fun e w' => e = .returned (.tuple #[]) ∧ Cl w' b2_0_0 3 [.int .i64 (r.1)] ∧ Mp okI kI kI w' b2_0_3_0 r.2 ∧ Chg ([b2_0_0] ++ ([b2_0_3_0] ++ [])) w0 w') {w0 : World} {p0 : Int} {p1 : Int} {q2_0_0_0 : Int} {b2_0_0 : Nat} {l2_0_1_0 : List (Int)} {A2_0_1_0 : Option Addr} {cap2_0_1_0 : Nat} {fp2_0_1_0 : List Nat} {l2_0_1_1 : List (Int)} {A2_0_1_1 : Option Addr} {cap2_0_1_1 : Nat} {fp2_0_1_1 : List Nat} {b2_0_1 : Nat} {q2_0_2_0 : Int} {b2_0_2 : Nat} {l2_0_3_0 : List (Int × Int)} {b2_0_3_0 : Nat} {b2_0_3 : Nat} {q2_0_4_0 : Int} {b2_0_4 : Nat} {b2 : Nat} {l3_0 : List (Int)} {A3_0 : Option Addr} {cap3_0 : Nat} {fp3_0 : List Nat} {b3 : Nat} {l4_0 : List (Int)} {A4_0 : Option Addr} {cap4_0 : Nat} {fp4_0 : List Nat} {l4_1 : List (Int)} {A4_1 : Option Addr} {cap4_1 : Nat} {fp4_1 : List Nat} {b4 : Nat} {b5 : Nat} {r : (Int) × (List (Int × Int))} (hm : m_impl_order_first_1_bfuncint_impl_order_best_1_bint_bimplorder_bint_bmapintint_bint_bint_bimplorder_bfuncintint_self_body R p0 p1 q2_0_0_0 l2_0_1_0 l2_0_1_1 q2_0_2_0 l2_0_3_0 q2_0_4_0 l3_0 l4_0 l4_1 = some r) (F2_0_0 : Cl w0 b2_0_0 3 [.int .i64 (q2_0_0_0)]) (F2_0_1_0 : Sl 1 encI w0 fp2_0_1_0 A2_0_1_0 l2_0_1_0) (F2_0_1_1 : Sl 1 encI w0 fp2_0_1_1 A2_0_1_1 l2_0_1_1) (F2_0_1 : Cl w0 b2_0_1 58 [.slice A2_0_1_0 (l2_0_1_0).length cap2_0_1_0, .slice A2_0_1_1 (l2_0_1_1).length cap2_0_1_1]) (F2_0_2 : Cl w0 b2_0_2 3 [.int .i64 (q2_0_2_0)]) (F2_0_3_0 : Mp okI kI kI w0 b2_0_3_0 l2_0_3_0) (F2_0_3 : Cl w0 b2_0_3 105 [.map (some b2_0_3_0)]) (F2_0_4 : Cl w0 b2_0_4 3 [.int .i64 (q2_0_4_0)]) (F2 : Cl w0 b2 108 [.func (.func 80) #[] #[.pointer (some ⟨b2_0_0, 0, none⟩), .pointer (some ⟨b2_0_1, 0, none⟩), .pointer (some ⟨b2_0_2, 0, none⟩), .pointer (some ⟨b2_0_3, 0, none⟩), .pointer (some ⟨b2_0_4, 0, none⟩)]]) (F3_0 : Sl 1 encI w0 fp3_0 A3_0 l3_0) (F3 : Cl w0 b3 56 [.slice A3_0 (l3_0).length cap3_0]) (F4_0 : Sl 1 encI w0 fp4_0 A4_0 l4_0) (F4_1 : Sl 1 encI w0 fp4_1 A4_1 l4_1) (F4 : Cl w0 b4 58 [.slice A4_0 (l4_0).length cap4_0, .slice A4_1 (l4_1).length cap4_1]) (F5 : Cl w0 b5 127 [.func (.func 103) #[] #[.pointer (some ⟨b2, 0, none⟩), .pointer (some ⟨b3, 0, none⟩), .pointer (some ⟨b4, 0, none⟩), .pointer (some ⟨b5, 0, none⟩)]]) (J2_0_0__2_0_1_0 : Dj [b2_0_0] fp2_0_1_0) (J2_0_0__2_0_1_1 : Dj [b2_0_0] fp2_0_1_1) (J2_0_0__2_0_1 : Dj [b2_0_0] [b2_0_1]) (J2_0_0__2_0_2 : Dj [b2_0_0] [b2_0_2]) (J2_0_0__2_0_3_0 : Dj [b2_0_0] [b2_0_3_0]) (J2_0_0__2_0_3 : Dj [b2_0_0] [b2_0_3]) (J2_0_0__2_0_4 : Dj [b2_0_0] [b2_0_4]) (J2_0_0__2 : Dj [b2_0_0] [b2]) (J2_0_0__3_0 : Dj [b2_0_0] fp3_0) (J2_0_0__3 : Dj [b2_0_0] [b3]) (J2_0_0__4_0 : Dj [b2_0_0] fp4_0) (J2_0_0__4_1 : Dj [b2_0_0] fp4_1) (J2_0_0__4 : Dj [b2_0_0] [b4]) (J2_0_0__5 : Dj [b2_0_0] [b5]) (J2_0_3_0__2_0_1_0 : Dj [b2_0_3_0] fp2_0_1_0) (J2_0_3_0__2_0_1_1 : Dj [b2_0_3_0] fp2_0_1_1) (J2_0_3_0__2_0_1 : Dj [b2_0_3_0] [b2_0_1]) (J2_0_3_0__2_0_2 : Dj [b2_0_3_0] [b2_0_2]) (J2_0_3_0__2_0_3 : Dj [b2_0_3_0] [b2_0_3]) (J2_0_3_0__2_0_4 : Dj [b2_0_3_0] [b2_0_4]) (J2_0_3_0__2 : Dj [b2_0_3_0] [b2]) (J2_0_3_0__3_0 : Dj [b2_0_3_0] fp3_0) (J2_0_3_0__3 : Dj [b2_0_3_0] [b3]) (J2_0_3_0__4_0 : Dj [b2_0_3_0] fp4_0) (J2_0_3_0__4_1 : Dj [b2_0_3_0] fp4_1) (J2_0_3_0__4 : Dj [b2_0_3_0] [b4]) (J2_0_3_0__5 : Dj [b2_0_3_0] [b5]) :
  Calls Tryd.prog 103 #[.int .i64 (p0), .int .i64 (p1), .pointer (some ⟨b2, 0, none⟩), .pointer (some ⟨b3, 0, none⟩), .pointer (some ⟨b4, 0, none⟩), .pointer (some ⟨b5, 0, none⟩)] w0 fun e w' => e = .returned (.tuple #[]) ∧ Cl w' b2_0_0 3 [.int .i64 (r.1)] ∧ Mp okI kI kI w' b2_0_3_0 r.2 ∧ Chg ([b2_0_0] ++ ([b2_0_3_0] ++ [])) w0 w' := by
 have L2_0_0 := lt1 F2_0_0.lt
 have L2_0_1_0 := F2_0_1_0.low
 have L2_0_1_1 := F2_0_1_1.low
 have L2_0_1 := lt1 F2_0_1.lt
 have L2_0_2 := lt1 F2_0_2.lt
 have L2_0_3_0 := F2_0_3_0.low
 have L2_0_3 := lt1 F2_0_3.lt
 have L2_0_4 := lt1 F2_0_4.lt
 have L2 := lt1 F2.lt
 have L3_0 := F3_0.low
 have L3 := lt1 F3.lt
 have L4_0 := F4_0.low
 have L4_1 := F4_1.low
 have L4 := lt1 F4.lt
 have L5 := lt1 F5.lt
 have hB : Chg ([b2_0_0] ++ ([b2_0_3_0] ++ [])) w0 w0 := Chg.refl _ _
 have hZ := Nat.le_refl w0.heap.size
 unfold m_impl_order_first_1_bfuncint_impl_order_best_1_bint_bimplorder_bint_bmapintint_bint_bint_bimplorder_bfuncintint_self_body at hm
 refine enterE (N := 43) Tryd.func103 (by rfl) Tryd.ntmps103 (by simp) [(0, .int .i64 (p0)), (1, .int .i64 (p1)), (2, .pointer (some ⟨b2, 0, none⟩)), (3, .pointer (some ⟨b3, 0, none⟩)), (4, .pointer (some ⟨b4, 0, none⟩)), (5, .pointer (some ⟨b5, 0, none⟩))] (by rfl) (by kernel_rfl) (fun a => ?_)
 obtain ⟨s1, hs1, hm⟩ := bindE hm
 refine cW_cut (fun a' w' => ∃ x1 : Int, ∃ l1 : List (Int × Int), (x1, l1) = s1 ∧ Fr 43 [] a' ∧ Cl w' b2_0_0 3 [.int .i64 (x1)] ∧ Mp okI kI kI w' b2_0_3_0 l1 ∧ Chg ([b2_0_0] ++ ([b2_0_3_0] ++ [])) w0 w' ∧ w0.heap.size ≤ w'.heap.size) ?_ ?_
 ·have hm := hs1
  refine cW_seq ?_
  obtain ⟨s2, hs2, hm⟩ := bindE hm
  refine cW_cut (fun a' w' => ∃ x2 : Int, ∃ l2 : List (Int × Int), (x2, l2) = s2 ∧ Fr 43 [(0, .int .i64 (p0)), (1, .int .i64 (p1)), (3, .pointer (some ⟨b3, 0, none⟩)), (4, .pointer (some ⟨b4, 0, none⟩)), (5, .pointer (some ⟨b5, 0, none⟩))] a' ∧ Cl w' b2_0_0 3 [.int .i64 (x2)] ∧ Sl 1 encI w' fp2_0_1_0 A2_0_1_0 l2_0_1_0 ∧ Sl 1 encI w' fp2_0_1_1 A2_0_1_1 l2_0_1_1 ∧ Cl w' b2_0_1 58 [.slice A2_0_1_0 (l2_0_1_0).length cap2_0_1_0, .slice A2_0_1_1 (l2_0_1_1).length cap2_0_1_1] ∧ Cl w' b2_0_2 3 [.int .i64 (q2_0_2_0)] ∧ Mp okI kI kI w' b2_0_3_0 l2 ∧ Cl w' b2_0_3 105 [.map (some b2_0_3_0)] ∧ Cl w' b2_0_4 3 [.int .i64 (q2_0_4_0)] ∧ Cl w' b2 108 [.func (.func 80) #[] #[.pointer (some ⟨b2_0_0, 0, none⟩), .pointer (some ⟨b2_0_1, 0, none⟩), .pointer (some ⟨b2_0_2, 0, none⟩), .pointer (some ⟨b2_0_3, 0, none⟩), .pointer (some ⟨b2_0_4, 0, none⟩)]] ∧ Sl 1 encI w' fp3_0 A3_0 l3_0 ∧ Cl w' b3 56 [.slice A3_0 (l3_0).length cap3_0] ∧ Sl 1 encI w' fp4_0 A4_0 l4_0 ∧ Sl 1 encI w' fp4_1 A4_1 l4_1 ∧ Cl w' b4 58 [.slice A4_0 (l4_0).length cap4_0, .slice A4_1 (l4_1).length cap4_1] ∧ Cl w' b5 127 [.func (.func 103) #[] #[.pointer (some ⟨b2, 0, none⟩), .pointer (some ⟨b3, 0, none⟩), .pointer (some ⟨b4, 0, none⟩), .pointer (some ⟨b5, 0, none⟩)]] ∧ Chg ([b2_0_0] ++ ([b2_0_3_0] ++ [])) w0 w' ∧ w0.heap.size ≤ w'.heap.size) ?_ ?_
  ·have hm := hs2
   refine cW_seq ?_
   refine cW_region ?_
   refine wS_pure 2 [(10, .bool (p1 != 0)), (9, .int .i64 (p1))] (by kernel_rfl) ?_
   refine wS_end (by rfl) ?_
   refine eX_then ?_
   refine cW_cond (t := p1 != 0) (by kernel_rfl) (fun hb1 => ?_) (fun hb1 => ?_)
   ·have hm := condT hb1 hm
    refine cW_region ?_
    refine wS_load1 (d := 11) (T := 108) (ad := ⟨b2, 0, none⟩) (v := .func (.func 80) #[] #[.pointer (some ⟨b2_0_0, 0, none⟩), .pointer (some ⟨b2_0_1, 0, none⟩), .pointer (some ⟨b2_0_2, 0, none⟩), .pointer (some ⟨b2_0_3, 0, none⟩), .pointer (some ⟨b2_0_4, 0, none⟩)]) (by kernel_rfl) vt108 ((F2).cell 0) ?_
    refine wS_pure 1 [(12, .int .i64 (p1))] (by kernel_rfl) ?_
    obtain ⟨y1, hy1, hm⟩ := bindE hm
    refine wS_calls (d := 13) (f := 80) (vs := [.int .i64 (p1), .pointer (some ⟨b2_0_0, 0, none⟩), .pointer (some ⟨b2_0_1, 0, none⟩), .pointer (some ⟨b2_0_2, 0, none⟩), .pointer (some ⟨b2_0_3, 0, none⟩), .pointer (some ⟨b2_0_4, 0, none⟩)]) (by kernel_rfl) ent80 (c_impl_order_best_1_bint_bimplorder_bint_bmapintint_bint hy1 F2_0_0 F2_0_1_0 F2_0_1_1 F2_0_1 F2_0_2 F2_0_3_0 F2_0_3 F2_0_4 J2_0_0__2_0_1_0 J2_0_0__2_0_1_1 J2_0_0__2_0_1 J2_0_0__2_0_2 J2_0_0__2_0_3_0 J2_0_0__2_0_3 J2_0_0__2_0_4 J2_0_3_0__2_0_1_0 J2_0_3_0__2_0_1_1 J2_0_3_0__2_0_1 J2_0_3_0__2_0_2 J2_0_3_0__2_0_3 J2_0_3_0__2_0_4) ?_
    rintro _ w1 ⟨rfl, F1, F6, hc1⟩
    replace F2_0_1_0 := F2_0_1_0.chg hc1 (Dj.app (J2_0_0__2_0_1_0).symm (Dj.app (J2_0_3_0__2_0_1_0).symm Dj.nil))
    replace F2_0_1_1 := F2_0_1_1.chg hc1 (Dj.app (J2_0_0__2_0_1_1).symm (Dj.app (J2_0_3_0__2_0_1_1).symm Dj.nil))
    replace F2_0_1 := F2_0_1.chg hc1 (dj1 (Dj.app (J2_0_0__2_0_1).symm (Dj.app (J2_0_3_0__2_0_1).symm Dj.nil)))
    replace F2_0_2 := F2_0_2.chg hc1 (dj1 (Dj.app (J2_0_0__2_0_2).symm (Dj.app (J2_0_3_0__2_0_2).symm Dj.nil)))
    replace F2_0_3 := F2_0_3.chg hc1 (dj1 (Dj.app (J2_0_0__2_0_3).symm (Dj.app (J2_0_3_0__2_0_3).symm Dj.nil)))
    replace F2_0_4 := F2_0_4.chg hc1 (dj1 (Dj.app (J2_0_0__2_0_4).symm (Dj.app (J2_0_3_0__2_0_4).symm Dj.nil)))
    replace F2 := F2.chg hc1 (dj1 (Dj.app (J2_0_0__2).symm (Dj.app (J2_0_3_0__2).symm Dj.nil)))
    replace F3_0 := F3_0.chg hc1 (Dj.app (J2_0_0__3_0).symm (Dj.app (J2_0_3_0__3_0).symm Dj.nil))
    replace F3 := F3.chg hc1 (dj1 (Dj.app (J2_0_0__3).symm (Dj.app (J2_0_3_0__3).symm Dj.nil)))
    replace F4_0 := F4_0.chg hc1 (Dj.app (J2_0_0__4_0).symm (Dj.app (J2_0_3_0__4_0).symm Dj.nil))
    replace F4_1 := F4_1.chg hc1 (Dj.app (J2_0_0__4_1).symm (Dj.app (J2_0_3_0__4_1).symm Dj.nil))
    replace F4 := F4.chg hc1 (dj1 (Dj.app (J2_0_0__4).symm (Dj.app (J2_0_3_0__4).symm Dj.nil)))
    replace F5 := F5.chg hc1 (dj1 (Dj.app (J2_0_0__5).symm (Dj.app (J2_0_3_0__5).symm Dj.nil)))
    replace hB := hB.inS hc1 (inApp (inMem (fun x hx => (List.mem_append_left _ hx))) (inApp (inMem (fun x hx => (List.mem_append_right _ (List.mem_append_left _ hx)))) inNil))
    replace hZ := Nat.le_trans hZ hc1.size
    clear F2_0_0
    clear F2_0_3_0
    refine ⟨.tuple #[], rfl, ?_⟩
    refine wS_end (by rfl) ?_
    have hq : (some ((y1.1, y1.2)) : Option (Int × (List (Int × Int)))) = some _ := hm
    replace hq := someE hq
    subst hq
    exact eX_J (fun hst => ⟨y1.1, y1.2, rfl, Fr.of hst (by kernel_rfl), F1, F2_0_1_0, F2_0_1_1, F2_0_1, F2_0_2, F6, F2_0_3, F2_0_4, F2, F3_0, F3, F4_0, F4_1, F4, F5, hB, hZ⟩)
   ·have hm := condF hb1 hm
    refine cW_skip ?_
    have hq : (some ((q2_0_0_0, l2_0_3_0)) : Option (Int × (List (Int × Int)))) = some _ := hm
    replace hq := someE hq
    subst hq
    exact eX_J (fun hst => ⟨q2_0_0_0, l2_0_3_0, rfl, Fr.of hst (by kernel_rfl), F2_0_0, F2_0_1_0, F2_0_1_1, F2_0_1, F2_0_2, F2_0_3_0, F2_0_3, F2_0_4, F2, F3_0, F3, F4_0, F4_1, F4, F5, hB, hZ⟩)
  ·rintro a' w2 ⟨x2, l2, hJ, hF1, F7, F8, F9, F10, F11, F12, F13, F14, F15, F16, F17, F18, F19, F20, F21, hB, hZ⟩
   subst hJ
   refine Fr.goX hF1 (by kernel_rfl) ?_
   refine eX_then ?_
   refine cW_seq ?_
   refine cW_region ?_
   refine wS_pure 2 [(8, .int .i64 (p0)), (14, .int .i64 (p0))] (by kernel_rfl) ?_
   refine wS_end (by rfl) ?_
   refine eX_then ?_
   obtain ⟨r1, hr1, hm⟩ := bindE hm
   have hm1 := hm
   refine cW_cut (fun a' w' => ∃ x3 : Int, ∃ l3 : List (Int × Int), (x3, l3) = r1 ∧ Fr 43 [] a' ∧ Cl w' b2_0_0 3 [.int .i64 (x3)] ∧ Mp okI kI kI w' b2_0_3_0 l3 ∧ Chg ([b2_0_0] ++ ([b2_0_3_0] ++ [])) w0 w' ∧ w0.heap.size ≤ w'.heap.size) ?_ ?_
   ·refine cW_block ?_
    refine cW_loop _ (fun (s3 : Int × Int × (List (Int × Int))) a' w' => ∃ x4 : Int, ∃ x5 : Int, ∃ l4 : List (Int × Int), (x4, x5, l4) = s3 ∧ Fr 43 [(1, .int .i64 (p1)), (3, .pointer (some ⟨b3, 0, none⟩)), (4, .pointer (some ⟨b4, 0, none⟩)), (5, .pointer (some ⟨b5, 0, none⟩)), (8, .int .i64 (x4))] a' ∧ Cl w' b2_0_0 3 [.int .i64 (x5)] ∧ Sl 1 encI w' fp2_0_1_0 A2_0_1_0 l2_0_1_0 ∧ Sl 1 encI w' fp2_0_1_1 A2_0_1_1 l2_0_1_1 ∧ Cl w' b2_0_1 58 [.slice A2_0_1_0 (l2_0_1_0).length cap2_0_1_0, .slice A2_0_1_1 (l2_0_1_1).length cap2_0_1_1] ∧ Cl w' b2_0_2 3 [.int .i64 (q2_0_2_0)] ∧ Mp okI kI kI w' b2_0_3_0 l4 ∧ Cl w' b2_0_3 105 [.map (some b2_0_3_0)] ∧ Cl w' b2_0_4 3 [.int .i64 (q2_0_4_0)] ∧ Cl w' b2 108 [.func (.func 80) #[] #[.pointer (some ⟨b2_0_0, 0, none⟩), .pointer (some ⟨b2_0_1, 0, none⟩), .pointer (some ⟨b2_0_2, 0, none⟩), .pointer (some ⟨b2_0_3, 0, none⟩), .pointer (some ⟨b2_0_4, 0, none⟩)]] ∧ Sl 1 encI w' fp3_0 A3_0 l3_0 ∧ Cl w' b3 56 [.slice A3_0 (l3_0).length cap3_0] ∧ Sl 1 encI w' fp4_0 A4_0 l4_0 ∧ Sl 1 encI w' fp4_1 A4_1 l4_1 ∧ Cl w' b4 58 [.slice A4_0 (l4_0).length cap4_0, .slice A4_1 (l4_1).length cap4_1] ∧ Cl w' b5 127 [.func (.func 103) #[] #[.pointer (some ⟨b2, 0, none⟩), .pointer (some ⟨b3, 0, none⟩), .pointer (some ⟨b4, 0, none⟩), .pointer (some ⟨b5, 0, none⟩)]] ∧ Chg ([b2_0_0] ++ ([b2_0_3_0] ++ [])) w0 w' ∧ w0.heap.size ≤ w'.heap.size) hr1 (fun hst => ⟨p0, x2, l2, rfl, Fr.of hst (by kernel_rfl), F7, F8, F9, F10, F11, F12, F13, F14, F15, F16, F17, F18, F19, F20, F21, hB, hZ⟩) ?_
    rintro _ c1 a' w3 ⟨x4, x5, l4, rfl, hF2, F22, F23, F24, F25, F26, F27, F28, F29, F30, F31, F32, F33, F34, F35, F36, hB, hZ⟩ hx1
    refine Fr.goOn hF2 (by kernel_rfl) ?_
    have hm := hx1
    unfold m_impl_order_first_1_bfuncint_impl_order_best_1_bint_bimplorder_bint_bmapintint_bint_bint_bimplorder_bfuncintint_self_s2 at hm
    refine cW_seq ?_
    refine cW_seq ?_
    refine cW_region ?_
    refine wS_pure 1 [(15, .int .i64 (x4))] (by kernel_rfl) ?_
    refine wS_load1 (d := 16) (T := 56) (ad := ⟨b3, 0, none⟩) (v := .slice A3_0 (l3_0).length cap3_0) (by kernel_rfl) vt56 ((F32).cell 0) ?_
    refine wS_pure 2 [(18, .bool (decide (x4 < (((l3_0).length : Int))))), (17, .int .i64 (((l3_0).length : Int)))] (by kernel_rfl) ?_
    refine wS_end (by rfl) ?_
    refine eX_then ?_
    refine cW_cond (t := decide (x4 < (((l3_0).length : Int)))) (by kernel_rfl) (fun hb2 => ?_) (fun hb2 => ?_)
    ·have hm := condT hb2 hm
     refine cW_skip ?_
     refine eX_then ?_
     refine cW_seq ?_
     refine cW_block ?_
     obtain ⟨s4, hs3, hm⟩ := bindE hm
     refine cW_cut (fun a' w' => ∃ x6 : Int, ∃ l5 : List (Int × Int), (x6, l5) = s4 ∧ Fr 43 [(1, .int .i64 (p1)), (3, .pointer (some ⟨b3, 0, none⟩)), (4, .pointer (some ⟨b4, 0, none⟩)), (5, .pointer (some ⟨b5, 0, none⟩)), (8, .int .i64 (x4))] a' ∧ Cl w' b2_0_0 3 [.int .i64 (x6)] ∧ Sl 1 encI w' fp2_0_1_0 A2_0_1_0 l2_0_1_0 ∧ Sl 1 encI w' fp2_0_1_1 A2_0_1_1 l2_0_1_1 ∧ Cl w' b2_0_1 58 [.slice A2_0_1_0 (l2_0_1_0).length cap2_0_1_0, .slice A2_0_1_1 (l2_0_1_1).length cap2_0_1_1] ∧ Cl w' b2_0_2 3 [.int .i64 (q2_0_2_0)] ∧ Mp okI kI kI w' b2_0_3_0 l5 ∧ Cl w' b2_0_3 105 [.map (some b2_0_3_0)] ∧ Cl w' b2_0_4 3 [.int .i64 (q2_0_4_0)] ∧ Cl w' b2 108 [.func (.func 80) #[] #[.pointer (some ⟨b2_0_0, 0, none⟩), .pointer (some ⟨b2_0_1, 0, none⟩), .pointer (some ⟨b2_0_2, 0, none⟩), .pointer (some ⟨b2_0_3, 0, none⟩), .pointer (some ⟨b2_0_4, 0, none⟩)]] ∧ Sl 1 encI w' fp3_0 A3_0 l3_0 ∧ Cl w' b3 56 [.slice A3_0 (l3_0).length cap3_0] ∧ Sl 1 encI w' fp4_0 A4_0 l4_0 ∧ Sl 1 encI w' fp4_1 A4_1 l4_1 ∧ Cl w' b4 58 [.slice A4_0 (l4_0).length cap4_0, .slice A4_1 (l4_1).length cap4_1] ∧ Cl w' b5 127 [.func (.func 103) #[] #[.pointer (some ⟨b2, 0, none⟩), .pointer (some ⟨b3, 0, none⟩), .pointer (some ⟨b4, 0, none⟩), .pointer (some ⟨b5, 0, none⟩)]] ∧ Chg ([b2_0_0] ++ ([b2_0_3_0] ++ [])) w0 w' ∧ w0.heap.size ≤ w'.heap.size) ?_ ?_
     ·have hm := hs3
      refine cW_seq ?_
      refine cW_drawnTail [] 9 (by kernel_rfl) (by kernel_rfl) (fun w4 hc2 => ?_)
      replace F22 := F22.chg hc2 notNil
      replace F23 := F23.chg hc2 Dj.nil
      replace F24 := F24.chg hc2 Dj.nil
      replace F25 := F25.chg hc2 notNil
      replace F26 := F26.chg hc2 notNil
      replace F27 := F27.chg hc2 Dj.nil
      replace F28 := F28.chg hc2 notNil
      replace F29 := F29.chg hc2 notNil
      replace F30 := F30.chg hc2 notNil
      replace F31 := F31.chg hc2 Dj.nil
      replace F32 := F32.chg hc2 notNil
      replace F33 := F33.chg hc2 Dj.nil
      replace F34 := F34.chg hc2 Dj.nil
      replace F35 := F35.chg hc2 notNil
      replace F36 := F36.chg hc2 notNil
      replace hB := hB.inS hc2 inNil
      replace hZ := Nat.le_trans hZ hc2.size
      have hS := Chg.refl [] w4
      have Z1 := F22
      have Z2 := F23
      have Z3 := F24
      have Z4 := F25
      have Z5 := F26
      have Z6 := F27
      have Z7 := F28
      have Z8 := F29
      have Z9 := F30
      have Z10 := F31
      have Z11 := F32
      have Z12 := F33
      have Z13 := F34
      have Z14 := F35
      have Z15 := F36
      refine wH_take [0] [0] [(21, .pointer (some ⟨b4, 0, none⟩))] (by kernel_rfl) (qT (qT (qT (qB (qT (qL (qB (qT (qT qZ))))))))) (by kernel_rfl) ?_
      refine wH_load1 (i := 1) (d := 22) (T := 56) (ad := ⟨b4, 0, none⟩) (v := .slice A4_0 (l4_0).length cap4_0) (by kernel_rfl) (qT (qT (qT (qB (qT (qL (qB (qT (qT qZ))))))))) (by kernel_rfl) (by kernel_rfl) vt56 (fun W hW => (Z14.chg hW notNil).cell 0) ?_
      refine wH_load1 (i := 2) (d := 23) (T := 56) (ad := ⟨b3, 0, none⟩) (v := .slice A3_0 (l3_0).length cap3_0) (by kernel_rfl) (qT (qT (qT (qB (qT (qL (qB (qT (qT qZ))))))))) (by kernel_rfl) (by kernel_rfl) vt56 (fun W hW => (Z11.chg hW notNil).cell 0) ?_
      refine wH_take [3] [3, 2, 1, 0] [(24, .int .i64 (x4))] (by kernel_rfl) (qT (qT (qT (qB (qT (qL (qB (qT (qT qZ))))))))) (by kernel_rfl) ?_
      obtain ⟨x7, hx2, hm⟩ := bindE hm
      refine wH_idx (i := 4) (d := 25) (T := 56) (A := A3_0) (n := (l3_0).length) (cap := cap3_0) (kd := .i64) (m := x4) (by kernel_rfl) (qT (qT (qT (qB (qT (qL (qB (qT (qT qZ))))))))) (by kernel_rfl) (by kernel_rfl) sl56 (F31.is hx2) ?_
      refine wH_load1 (i := 5) (d := 26) (T := 3) (ad := (elA A3_0 1 (x4) 0)) (v := .int .i64 (x7)) (by kernel_rfl) (qT (qT (qT (qB (qT (qL (qB (qT (qT qZ))))))))) (by kernel_rfl) (by kernel_rfl) vt3 (fun W hW => Sl.cell (Z10.chg hW Dj.nil) hx2 0 (by rfl)) ?_
      obtain ⟨x8, hx3, hm⟩ := bindE hm
      refine wH_idx (i := 6) (d := 27) (T := 56) (A := A4_0) (n := (l4_0).length) (cap := cap4_0) (kd := .i64) (m := x7) (by kernel_rfl) (qT (qT (qT (qB (qT (qL (qB (qT (qT qZ))))))))) (by kernel_rfl) (by kernel_rfl) sl56 (F33.is hx3) ?_
      refine wH_load1 (i := 7) (d := 28) (T := 3) (ad := (elA A4_0 1 (x7) 0)) (v := .int .i64 (x8)) (by kernel_rfl) (qT (qT (qT (qB (qT (qL (qB (qT (qT qZ))))))))) (by kernel_rfl) (by kernel_rfl) vt3 (fun W hW => Sl.cell (Z12.chg hW Dj.nil) hx3 0 (by rfl)) ?_
      refine wH_take [8] [8, 7, 6, 5, 4, 3, 2, 1, 0] [(29, .int .i64 (p1))] (by kernel_rfl) (qT (qT (qT (qB (qT (qL (qB (qT (qT qZ))))))))) (by kernel_rfl) ?_
      refine wH_done (by kernel_rfl) ?_
      refine eX_tail ?_
      refine wS_pure 2 [(31, .bool ((andI x8 p1) == 0)), (30, .int .i64 (andI x8 p1))] (by kernel_rfl) ?_
      refine wS_end (by rfl) ?_
      refine eX_then ?_
      refine cW_cond (t := (andI x8 p1) == 0) (by kernel_rfl) (fun hb3 => ?_) (fun hb3 => ?_)
      ·have hm := condT hb3 hm
       refine cW_drawnTail [] 10 (by kernel_rfl) (by kernel_rfl) (fun w5 hc3 => ?_)
       replace F22 := F22.chg hc3 notNil
       replace F23 := F23.chg hc3 Dj.nil
       replace F24 := F24.chg hc3 Dj.nil
       replace F25 := F25.chg hc3 notNil
       replace F26 := F26.chg hc3 notNil
       replace F27 := F27.chg hc3 Dj.nil
       replace F28 := F28.chg hc3 notNil
       replace F29 := F29.chg hc3 notNil
       replace F30 := F30.chg hc3 notNil
       replace F31 := F31.chg hc3 Dj.nil
       replace F32 := F32.chg hc3 notNil
       replace F33 := F33.chg hc3 Dj.nil
       replace F34 := F34.chg hc3 Dj.nil
       replace F35 := F35.chg hc3 notNil
       replace F36 := F36.chg hc3 notNil
       replace hB := hB.inS hc3 inNil
       replace hZ := Nat.le_trans hZ hc3.size
       have hS := Chg.refl [] w5
       have Z16 := F22
       have Z17 := F23
       have Z18 := F24
       have Z19 := F25
       have Z20 := F26
       have Z21 := F27
       have Z22 := F28
       have Z23 := F29
       have Z24 := F30
       have Z25 := F31
       have Z26 := F32
       have Z27 := F33
       have Z28 := F34
       have Z29 := F35
       have Z30 := F36
       refine wH_load1 (i := 0) (d := 32) (T := 127) (ad := ⟨b5, 0, none⟩) (v := .func (.func 103) #[] #[.pointer (some ⟨b2, 0, none⟩), .pointer (some ⟨b3, 0, none⟩), .pointer (some ⟨b4, 0, none⟩), .pointer (some ⟨b5, 0, none⟩)]) (by kernel_rfl) (qT (qT (qB (qT (qL (qB (qT (qT qZ)))))))) (by kernel_rfl) (by kernel_rfl) vt127 (fun W hW => (Z30.chg hW notNil).cell 0) ?_
       refine wH_take [1, 2, 3] [3, 2, 1, 0] [(35, .int .i64 (p1)), (34, .int .i64 (wr (x4 + 1))), (33, .int .i64 (x4))] (by kernel_rfl) (qT (qT (qB (qT (qL (qB (qT (qT qZ)))))))) (by kernel_rfl) ?_
       refine wH_load1 (i := 4) (d := 36) (T := 56) (ad := ⟨b3, 0, none⟩) (v := .slice A3_0 (l3_0).length cap3_0) (by kernel_rfl) (qT (qT (qB (qT (qL (qB (qT (qT qZ)))))))) (by kernel_rfl) (by kernel_rfl) vt56 (fun W hW => (Z26.chg hW notNil).cell 0) ?_
       refine wH_take [5] [5, 4, 3, 2, 1, 0] [(37, .int .i64 (x4))] (by kernel_rfl) (qT (qT (qB (qT (qL (qB (qT (qT qZ)))))))) (by kernel_rfl) ?_
       obtain ⟨x9, hx4, hm⟩ := bindE hm
       refine wH_idx (i := 6) (d := 38) (T := 56) (A := A3_0) (n := (l3_0).length) (cap := cap3_0) (kd := .i64) (m := x4) (by kernel_rfl) (qT (qT (qB (qT (qL (qB (qT (qT qZ)))))))) (by kernel_rfl) (by kernel_rfl) sl56 (F31.is hx4) ?_
       refine wH_load1 (i := 7) (d := 39) (T := 3) (ad := (elA A3_0 1 (x4) 0)) (v := .int .i64 (x9)) (by kernel_rfl) (qT (qT (qB (qT (qL (qB (qT (qT qZ)))))))) (by kernel_rfl) (by kernel_rfl) vt3 (fun W hW => Sl.cell (Z25.chg hW Dj.nil) hx4 0 (by rfl)) ?_
       obtain ⟨u1, hu1, hm⟩ := bindE hm
       refine wH_shl (i := 8) (d := 40) (x := 1) (y := x9) (yk := .i64) (by kernel_rfl) (qT (qT (qB (qT (qL (qB (qT (qT qZ)))))))) (by kernel_rfl) (by kernel_rfl) (p0E hu1) ?_
       refine wH_take [9] [9, 8, 7, 6, 5, 4, 3, 2, 1, 0] [(41, .int .i64 (orI p1 (shlI 1 x9)))] (by kernel_rfl) (qT (qT (qB (qT (qL (qB (qT (qT qZ)))))))) (by kernel_rfl) ?_
       refine wH_done (by kernel_rfl) ?_
       refine eX_tail ?_
       obtain ⟨y2, hy2, hm⟩ := bindE hm
       refine wS_calls (d := 42) (f := 103) (vs := [.int .i64 (wr (x4 + 1)), .int .i64 (orI p1 (shlI 1 x9)), .pointer (some ⟨b2, 0, none⟩), .pointer (some ⟨b3, 0, none⟩), .pointer (some ⟨b4, 0, none⟩), .pointer (some ⟨b5, 0, none⟩)]) (by kernel_rfl) ent103 (hR hy2 F22 F23 F24 F25 F26 F27 F28 F29 F30 F31 F32 F33 F34 F35 F36 J2_0_0__2_0_1_0 J2_0_0__2_0_1_1 J2_0_0__2_0_1 J2_0_0__2_0_2 J2_0_0__2_0_3_0 J2_0_0__2_0_3 J2_0_0__2_0_4 J2_0_0__2 J2_0_0__3_0 J2_0_0__3 J2_0_0__4_0 J2_0_0__4_1 J2_0_0__4 J2_0_0__5 J2_0_3_0__2_0_1_0 J2_0_3_0__2_0_1_1 J2_0_3_0__2_0_1 J2_0_3_0__2_0_2 J2_0_3_0__2_0_3 J2_0_3_0__2_0_4 J2_0_3_0__2 J2_0_3_0__3_0 J2_0_3_0__3 J2_0_3_0__4_0 J2_0_3_0__4_1 J2_0_3_0__4 J2_0_3_0__5) ?_
       rintro _ w6 ⟨rfl, F37, F38, hc4⟩
       replace F23 := F23.chg hc4 (Dj.app (J2_0_0__2_0_1_0).symm (Dj.app (J2_0_3_0__2_0_1_0).symm Dj.nil))
       replace F24 := F24.chg hc4 (Dj.app (J2_0_0__2_0_1_1).symm (Dj.app (J2_0_3_0__2_0_1_1).symm Dj.nil))
       replace F25 := F25.chg hc4 (dj1 (Dj.app (J2_0_0__2_0_1).symm (Dj.app (J2_0_3_0__2_0_1).symm Dj.nil)))
       replace F26 := F26.chg hc4 (dj1 (Dj.app (J2_0_0__2_0_2).symm (Dj.app (J2_0_3_0__2_0_2).symm Dj.nil)))
       replace F28 := F28.chg hc4 (dj1 (Dj.app (J2_0_0__2_0_3).symm (Dj.app (J2_0_3_0__2_0_3).symm Dj.nil)))
       replace F29 := F29.chg hc4 (dj1 (Dj.app (J2_0_0__2_0_4).symm (Dj.app (J2_0_3_0__2_0_4).symm Dj.nil)))
       replace F30 := F30.chg hc4 (dj1 (Dj.app (J2_0_0__2).symm (Dj.app (J2_0_3_0__2).symm Dj.nil)))
       replace F31 := F31.chg hc4 (Dj.app (J2_0_0__3_0).symm (Dj.app (J2_0_3_0__3_0).symm Dj.nil))
       replace F32 := F32.chg hc4 (dj1 (Dj.app (J2_0_0__3).symm (Dj.app (J2_0_3_0__3).symm Dj.nil)))
       replace F33 := F33.chg hc4 (Dj.app (J2_0_0__4_0).symm (Dj.app (J2_0_3_0__4_0).symm Dj.nil))
       replace F34 := F34.chg hc4 (Dj.app (J2_0_0__4_1).symm (Dj.app (J2_0_3_0__4_1).symm Dj.nil))
       replace F35 := F35.chg hc4 (dj1 (Dj.app (J2_0_0__4).symm (Dj.app (J2_0_3_0__4).symm Dj.nil)))
       replace F36 := F36.chg hc4 (dj1 (Dj.app (J2_0_0__5).symm (Dj.app (J2_0_3_0__5).symm Dj.nil)))
       replace hB := hB.inS hc4 (inApp (inMem (fun x hx => (List.mem_append_left _ hx))) (inApp (inMem (fun x hx => (List.mem_append_right _ (List.mem_append_left _ hx)))) inNil))
       replace hZ := Nat.le_trans hZ hc4.size
       clear F22
       clear F27
       refine ⟨.tuple #[], rfl, ?_⟩
       refine wS_end (by rfl) ?_
       have hq : (some ((y2.1, y2.2)) : Option (Int × (List (Int × Int)))) = some _ := hm
       replace hq := someE hq
       subst hq
       exact eX_J (fun hst => ⟨y2.1, y2.2, rfl, Fr.of hst (by kernel_rfl), F37, F23, F24, F25, F26, F38, F28, F29, F30, F31, F32, F33, F34, F35, F36, hB, hZ⟩)
      ·have hm := condF hb3 hm
       refine cW_skip ?_
       have hq : (some ((x5, l4)) : Option (Int × (List (Int × Int)))) = some _ := hm
       replace hq := someE hq
       subst hq
       exact eX_J (fun hst => ⟨x5, l4, rfl, Fr.of hst (by kernel_rfl), F22, F23, F24, F25, F26, F27, F28, F29, F30, F31, F32, F33, F34, F35, F36, hB, hZ⟩)
     ·rintro a' w7 ⟨x6, l5, hJ, hF3, F39, F40, F41, F42, F43, F44, F45, F46, F47, F48, F49, F50, F51, F52, F53, hB, hZ⟩
      subst hJ
      refine Fr.goX hF3 (by kernel_rfl) ?_
      refine eX_block ?_
      refine eX_then ?_
      refine cW_region ?_
      refine wS_pure 3 [(8, .int .i64 (wr (x4 + 1))), (20, .int .i64 (wr (x4 + 1))), (19, .int .i64 (x4))] (by kernel_rfl) ?_
      refine wS_end (by rfl) ?_
      have hq : (some (Ctl.next ((wr (x4 + 1), x6, l5))) : Option (Ctl (Int × Int × (List (Int × Int))) (Int × (List (Int × Int))))) = some _ := hm
      replace hq := someE hq
      subst hq
      exact eX_next hx1 (fun hst => ⟨wr (x4 + 1), x6, l5, rfl, Fr.of hst (by kernel_rfl), F39, F40, F41, F42, F43, F44, F45, F46, F47, F48, F49, F50, F51, F52, F53, hB, hZ⟩)
    ·have hm := condF hb2 hm
     refine cW_exit ?_
     refine eX_then_exit ?_
     have hq : (some (Ctl.out ((x5, l4))) : Option (Ctl (Int × Int × (List (Int × Int))) (Int × (List (Int × Int))))) = some _ := hm
     replace hq := someE hq
     subst hq
     refine eX_outX hx1 (fun hr2 => ?_)
     replace hr2 := hr2.symm
     subst hr2
     refine eX_block_hit ?_
     exact eX_J (fun hst => ⟨x5, l4, rfl, Fr.of hst (by kernel_rfl), F22, F27, hB, hZ⟩)
   ·rintro a' w8 ⟨x3, l3, hJ, hF4, F54, F55, hB, hZ⟩
    subst hJ
    refine Fr.goX hF4 (by kernel_rfl) ?_
    have hq : (some ((x3, l3)) : Option (Int × (List (Int × Int)))) = some _ := hm
    replace hq := someE hq
    subst hq
    exact eX_J (fun hst => ⟨x3, l3, rfl, Fr.of hst (by kernel_rfl), F54, F55, hB, hZ⟩)
 ·rintro a' w9 ⟨x1, l1, hJ, hF5, F56, F57, hB, hZ⟩
  subst hJ
  refine Fr.goX hF5 (by kernel_rfl) ?_
  have hq : (some ((x1, l1)) : Option ((Int) × (List (Int × Int)))) = some _ := hm
  replace hq := someE hq
  subst hq
  refine eX_fall (vs := []) [] (by rfl) trivial ?_
  exact ⟨rfl, F56, F57, hB⟩
set_option maxRecDepth 100000 in
theorem c_impl_order_first_1_bfuncint_impl_order_best_1_bint_bimplorder_bint_bmapintint_bint_bint_bimplorder_bfuncintint_self (n : Nat) : ∀ {w0 : World} {p0 : Int} {p1 : Int} {q2_0_0_0 : Int} {b2_0_0 : Nat} {l2_0_1_0 : List (Int)} {A2_0_1_0 : Option Addr} {cap2_0_1_0 : Nat} {fp2_0_1_0 : List Nat} {l2_0_1_1 : List (Int)} {A2_0_1_1 : Option Addr} {cap2_0_1_1 : Nat} {fp2_0_1_1 : List Nat} {b2_0_1 : Nat} {q2_0_2_0 : Int} {b2_0_2 : Nat} {l2_0_3_0 : List (Int × Int)} {b2_0_3_0 : Nat} {b2_0_3 : Nat} {q2_0_4_0 : Int} {b2_0_4 : Nat} {b2 : Nat} {l3_0 : List (Int)} {A3_0 : Option Addr} {cap3_0 : Nat} {fp3_0 : List Nat} {b3 : Nat} {l4_0 : List (Int)} {A4_0 : Option Addr} {cap4_0 : Nat} {fp4_0 : List Nat} {l4_1 : List (Int)} {A4_1 : Option Addr} {cap4_1 : Nat} {fp4_1 : List Nat} {b4 : Nat} {b5 : Nat} {r : (Int) × (List (Int × Int))} (hm : m_impl_order_first_1_bfuncint_impl_order_best_1_bint_bimplorder_bint_bmapintint_bint_bint_bimplorder_bfuncintint_self n p0 p1 q2_0_0_0 l2_0_1_0 l2_0_1_1 q2_0_2_0 l2_0_3_0 q2_0_4_0 l3_0 l4_0 l4_1 = some r) (F2_0_0 : Cl w0 b2_0_0 3 [.int .i64 (q2_0_0_0)]) (F2_0_1_0 : Sl 1 encI w0 fp2_0_1_0 A2_0_1_0 l2_0_1_0) (F2_0_1_1 : Sl 1 encI w0 fp2_0_1_1 A2_0_1_1 l2_0_1_1) (F2_0_1 : Cl w0 b2_0_1 58 [.slice A2_0_1_0 (l2_0_1_0).length cap2_0_1_0, .slice A2_0_1_1 (l2_0_1_1).length cap2_0_1_1]) (F2_0_2 : Cl w0 b2_0_2 3 [.int .i64 (q2_0_2_0)]) (F2_0_3_0 : Mp okI kI kI w0 b2_0_3_0 l2_0_3_0) (F2_0_3 : Cl w0 b2_0_3 105 [.map (some b2_0_3_0)]) (F2_0_4 : Cl w0 b2_0_4 3 [.int .i64 (q2_0_4_0)]) (F2 : Cl w0 b2 108 [.func (.func 80) #[] #[.pointer (some ⟨b2_0_0, 0, none⟩), .pointer (some ⟨b2_0_1, 0, none⟩), .pointer (some ⟨b2_0_2, 0, none⟩), .pointer (some ⟨b2_0_3, 0, none⟩), .pointer (some ⟨b2_0_4, 0, none⟩)]]) (F3_0 : Sl 1 encI w0 fp3_0 A3_0 l3_0) (F3 : Cl w0 b3 56 [.slice A3_0 (l3_0).length cap3_0]) (F4_0 : Sl 1 encI w0 fp4_0 A4_0 l4_0) (F4_1 : Sl 1 encI w0 fp4_1 A4_1 l4_1) (F4 : Cl w0 b4 58 [.slice A4_0 (l4_0).length cap4_0, .slice A4_1 (l4_1).length cap4_1]) (F5 : Cl w0 b5 127 [.func (.func 103) #[] #[.pointer (some ⟨b2, 0, none⟩), .pointer (some ⟨b3, 0, none⟩), .pointer (some ⟨b4, 0, none⟩), .pointer (some ⟨b5, 0, none⟩)]]) (J2_0_0__2_0_1_0 : Dj [b2_0_0] fp2_0_1_0) (J2_0_0__2_0_1_1 : Dj [b2_0_0] fp2_0_1_1) (J2_0_0__2_0_1 : Dj [b2_0_0] [b2_0_1]) (J2_0_0__2_0_2 : Dj [b2_0_0] [b2_0_2]) (J2_0_0__2_0_3_0 : Dj [b2_0_0] [b2_0_3_0]) (J2_0_0__2_0_3 : Dj [b2_0_0] [b2_0_3]) (J2_0_0__2_0_4 : Dj [b2_0_0] [b2_0_4]) (J2_0_0__2 : Dj [b2_0_0] [b2]) (J2_0_0__3_0 : Dj [b2_0_0] fp3_0) (J2_0_0__3 : Dj [b2_0_0] [b3]) (J2_0_0__4_0 : Dj [b2_0_0] fp4_0) (J2_0_0__4_1 : Dj [b2_0_0] fp4_1) (J2_0_0__4 : Dj [b2_0_0] [b4]) (J2_0_0__5 : Dj [b2_0_0] [b5]) (J2_0_3_0__2_0_1_0 : Dj [b2_0_3_0] fp2_0_1_0) (J2_0_3_0__2_0_1_1 : Dj [b2_0_3_0] fp2_0_1_1) (J2_0_3_0__2_0_1 : Dj [b2_0_3_0] [b2_0_1]) (J2_0_3_0__2_0_2 : Dj [b2_0_3_0] [b2_0_2]) (J2_0_3_0__2_0_3 : Dj [b2_0_3_0] [b2_0_3]) (J2_0_3_0__2_0_4 : Dj [b2_0_3_0] [b2_0_4]) (J2_0_3_0__2 : Dj [b2_0_3_0] [b2]) (J2_0_3_0__3_0 : Dj [b2_0_3_0] fp3_0) (J2_0_3_0__3 : Dj [b2_0_3_0] [b3]) (J2_0_3_0__4_0 : Dj [b2_0_3_0] fp4_0) (J2_0_3_0__4_1 : Dj [b2_0_3_0] fp4_1) (J2_0_3_0__4 : Dj [b2_0_3_0] [b4]) (J2_0_3_0__5 : Dj [b2_0_3_0] [b5]), Calls Tryd.prog 103 #[.int .i64 (p0), .int .i64 (p1), .pointer (some ⟨b2, 0, none⟩), .pointer (some ⟨b3, 0, none⟩), .pointer (some ⟨b4, 0, none⟩), .pointer (some ⟨b5, 0, none⟩)] w0 fun e w' => e = .returned (.tuple #[]) ∧ Cl w' b2_0_0 3 [.int .i64 (r.1)] ∧ Mp okI kI kI w' b2_0_3_0 r.2 ∧ Chg ([b2_0_0] ++ ([b2_0_3_0] ++ [])) w0 w' := by
 induction n with
 | zero => intro w0 p0 p1 q2_0_0_0 b2_0_0 l2_0_1_0 A2_0_1_0 cap2_0_1_0 fp2_0_1_0 l2_0_1_1 A2_0_1_1 cap2_0_1_1 fp2_0_1_1 b2_0_1 q2_0_2_0 b2_0_2 l2_0_3_0 b2_0_3_0 b2_0_3 q2_0_4_0 b2_0_4 b2 l3_0 A3_0 cap3_0 fp3_0 b3 l4_0 A4_0 cap4_0 fp4_0 l4_1 A4_1 cap4_1 fp4_1 b4 b5 r hm F2_0_0 F2_0_1_0 F2_0_1_1 F2_0_1 F2_0_2 F2_0_3_0 F2_0_3 F2_0_4 F2 F3_0 F3 F4_0 F4_1 F4 F5 J2_0_0__2_0_1_0 J2_0_0__2_0_1_1 J2_0_0__2_0_1 J2_0_0__2_0_2 J2_0_0__2_0_3_0 J2_0_0__2_0_3 J2_0_0__2_0_4 J2_0_0__2 J2_0_0__3_0 J2_0_0__3 J2_0_0__4_0 J2_0_0__4_1 J2_0_0__4 J2_0_0__5 J2_0_3_0__2_0_1_0 J2_0_3_0__2_0_1_1 J2_0_3_0__2_0_1 J2_0_3_0__2_0_2 J2_0_3_0__2_0_3 J2_0_3_0__2_0_4 J2_0_3_0__2 J2_0_3_0__3_0 J2_0_3_0__3 J2_0_3_0__4_0 J2_0_3_0__4_1 J2_0_3_0__4 J2_0_3_0__5; exact nomatch (show (none : Option ((Int) × (List (Int × Int)))) = some r from hm)
 | succ n ih => intro w0 p0 p1 q2_0_0_0 b2_0_0 l2_0_1_0 A2_0_1_0 cap2_0_1_0 fp2_0_1_0 l2_0_1_1 A2_0_1_1 cap2_0_1_1 fp2_0_1_1 b2_0_1 q2_0_2_0 b2_0_2 l2_0_3_0 b2_0_3_0 b2_0_3 q2_0_4_0 b2_0_4 b2 l3_0 A3_0 cap3_0 fp3_0 b3 l4_0 A4_0 cap4_0 fp4_0 l4_1 A4_1 cap4_1 fp4_1 b4 b5 r hm F2_0_0 F2_0_1_0 F2_0_1_1 F2_0_1 F2_0_2 F2_0_3_0 F2_0_3 F2_0_4 F2 F3_0 F3 F4_0 F4_1 F4 F5 J2_0_0__2_0_1_0 J2_0_0__2_0_1_1 J2_0_0__2_0_1 J2_0_0__2_0_2 J2_0_0__2_0_3_0 J2_0_0__2_0_3 J2_0_0__2_0_4 J2_0_0__2 J2_0_0__3_0 J2_0_0__3 J2_0_0__4_0 J2_0_0__4_1 J2_0_0__4 J2_0_0__5 J2_0_3_0__2_0_1_0 J2_0_3_0__2_0_1_1 J2_0_3_0__2_0_1 J2_0_3_0__2_0_2 J2_0_3_0__2_0_3 J2_0_3_0__2_0_4 J2_0_3_0__2 J2_0_3_0__3_0 J2_0_3_0__3 J2_0_3_0__4_0 J2_0_3_0__4_1 J2_0_3_0__4 J2_0_3_0__5; exact c_impl_order_first_1_bfuncint_impl_order_best_1_bint_bimplorder_bint_bmapintint_bint_bint_bimplorder_bfuncintint_self_body ih hm F2_0_0 F2_0_1_0 F2_0_1_1 F2_0_1 F2_0_2 F2_0_3_0 F2_0_3 F2_0_4 F2 F3_0 F3 F4_0 F4_1 F4 F5 J2_0_0__2_0_1_0 J2_0_0__2_0_1_1 J2_0_0__2_0_1 J2_0_0__2_0_2 J2_0_0__2_0_3_0 J2_0_0__2_0_3 J2_0_0__2_0_4 J2_0_0__2 J2_0_0__3_0 J2_0_0__3 J2_0_0__4_0 J2_0_0__4_1 J2_0_0__4 J2_0_0__5 J2_0_3_0__2_0_1_0 J2_0_3_0__2_0_1_1 J2_0_3_0__2_0_1 J2_0_3_0__2_0_2 J2_0_3_0__2_0_3 J2_0_3_0__2_0_4 J2_0_3_0__2 J2_0_3_0__3_0 J2_0_3_0__3 J2_0_3_0__4_0 J2_0_3_0__4_1 J2_0_3_0__4 J2_0_3_0__5


set_option maxRecDepth 100000 in
/-- impl.order).first -/
theorem c_impl_order_first_impl_order_best_1_bint_bimplorder_bint_bmapintint_bint {w0 : World} {l0_0 : List (Int)} {A0_0 : Option Addr} {cap0_0 : Nat} {fp0_0 : List Nat} {l0_1 : List (Int)} {A0_1 : Option Addr} {cap0_1 : Nat} {fp0_1 : List Nat} {p1 : Int} {q2_0_0 : Int} {b2_0 : Nat} {l2_1_0 : List (Int)} {A2_1_0 : Option Addr} {cap2_1_0 : Nat} {fp2_1_0 : List Nat} {l2_1_1 : List (Int)} {A2_1_1 : Option Addr} {cap2_1_1 : Nat} {fp2_1_1 : List Nat} {b2_1 : Nat} {q2_2_0 : Int} {b2_2 : Nat} {l2_3_0 : List (Int × Int)} {b2_3_0 : Nat} {b2_3 : Nat} {q2_4_0 : Int} {b2_4 : Nat} {r : (Int) × (List (Int × Int))} (hm : m_impl_order_first_impl_order_best_1_bint_bimplorder_bint_bmapintint_bint l0_0 l0_1 p1 q2_0_0 l2_1_0 l2_1_1 q2_2_0 l2_3_0 q2_4_0 = some r) (F0_0 : Sl 1 encI w0 fp0_0 A0_0 l0_0) (F0_1 : Sl 1 encI w0 fp0_1 A0_1 l0_1) (F2_0 : Cl w0 b2_0 3 [.int .i64 (q2_0_0)]) (F2_1_0 : Sl 1 encI w0 fp2_1_0 A2_1_0 l2_1_0) (F2_1_1 : Sl 1 encI w0 fp2_1_1 A2_1_1 l2_1_1) (F2_1 : Cl w0 b2_1 58 [.slice A2_1_0 (l2_1_0).length cap2_1_0, .slice A2_1_1 (l2_1_1).length cap2_1_1]) (F2_2 : Cl w0 b2_2 3 [.int .i64 (q2_2_0)]) (F2_3_0 : Mp okI kI kI w0 b2_3_0 l2_3_0) (F2_3 : Cl w0 b2_3 105 [.map (some b2_3_0)]) (F2_4 : Cl w0 b2_4 3 [.int .i64 (q2_4_0)]) (J2_0__0_0 : Dj [b2_0] fp0_0) (J2_0__0_1 : Dj [b2_0] fp0_1) (J2_0__2_1_0 : Dj [b2_0] fp2_1_0) (J2_0__2_1_1 : Dj [b2_0] fp2_1_1) (J2_0__2_1 : Dj [b2_0] [b2_1]) (J2_0__2_2 : Dj [b2_0] [b2_2]) (J2_0__2_3_0 : Dj [b2_0] [b2_3_0]) (J2_0__2_3 : Dj [b2_0] [b2_3]) (J2_0__2_4 : Dj [b2_0] [b2_4]) (J2_3_0__0_0 : Dj [b2_3_0] fp0_0) (J2_3_0__0_1 : Dj [b2_3_0] fp0_1) (J2_3_0__2_1_0 : Dj [b2_3_0] fp2_1_0) (J2_3_0__2_1_1 : Dj [b2_3_0] fp2_1_1) (J2_3_0__2_1 : Dj [b2_3_0] [b2_1]) (J2_3_0__2_2 : Dj [b2_3_0] [b2_2]) (J2_3_0__2_3 : Dj [b2_3_0] [b2_3]) (J2_3_0__2_4 : Dj [b2_3_0] [b2_4]) :
  Calls Tryd.prog 79 #[.agg #[.slice A0_0 (l0_0).length cap0_0, .slice A0_1 (l0_1).length cap0_1], .int .i64 (p1), .func (.func 80) #[] #[.pointer (some ⟨b2_0, 0, none⟩), .pointer (some ⟨b2_1, 0, none⟩), .pointer (some ⟨b2_2, 0, none⟩), .pointer (some ⟨b2_3, 0, none⟩), .pointer (some ⟨b2_4, 0, none⟩)]] w0 fun e w' => e = .returned (.tuple #[]) ∧ Cl w' b2_0 3 [.int .i64 (r.1)] ∧ Mp okI kI kI w' b2_3_0 r.2 ∧ Chg ([b2_0] ++ ([b2_3_0] ++ [])) w0 w' := by
 have L0_0 := F0_0.low
 have L0_1 := F0_1.low
 have L2_0 := lt1 F2_0.lt
 have L2_1_0 := F2_1_0.low
 have L2_1_1 := F2_1_1.low
 have L2_1 := lt1 F2_1.lt
 have L2_2 := lt1 F2_2.lt
 have L2_3_0 := F2_3_0.low
 have L2_3 := lt1 F2_3.lt
 have L2_4 := lt1 F2_4.lt
 have hB : Chg ([b2_0] ++ ([b2_3_0] ++ [])) w0 w0 := Chg.refl _ _
 have hZ := Nat.le_refl w0.heap.size
 unfold m_impl_order_first_impl_order_best_1_bint_bimplorder_bint_bmapintint_bint at hm
 refine enterE (N := 39) Tryd.func79 (by rfl) Tryd.ntmps79 (by simp) [(0, .agg #[.slice A0_0 (l0_0).length cap0_0, .slice A0_1 (l0_1).length cap0_1]), (1, .int .i64 (p1)), (2, .func (.func 80) #[] #[.pointer (some ⟨b2_0, 0, none⟩), .pointer (some ⟨b2_1, 0, none⟩), .pointer (some ⟨b2_2, 0, none⟩), .pointer (some ⟨b2_3, 0, none⟩), .pointer (some ⟨b2_4, 0, none⟩)])] (by rfl) (by kernel_rfl) (fun a => ?_)
 refine cW_seq ?_
 refine cW_region ?_
 refine wS_box (d := 3) (T := 58) (x := .agg #[.slice A0_0 (l0_0).length cap0_0, .slice A0_1 (l0_1).length cap0_1]) (by kernel_rfl) ?_
 intro b1 w1 G1 F1 hc1
 replace F1 : Cl w1 b1 58 [.slice A0_0 (l0_0).length cap0_0, .slice A0_1 (l0_1).length cap0_1] := F1
 replace F0_0 := F0_0.chg hc1 Dj.nil
 replace F0_1 := F0_1.chg hc1 Dj.nil
 replace F2_0 := F2_0.chg hc1 notNil
 replace F2_1_0 := F2_1_0.chg hc1 Dj.nil
 replace F2_1_1 := F2_1_1.chg hc1 Dj.nil
 replace F2_1 := F2_1.chg hc1 notNil
 replace F2_2 := F2_2.chg hc1 notNil
 replace F2_3_0 := F2_3_0.chg hc1 Dj.nil
 replace F2_3 := F2_3.chg hc1 notNil
 replace F2_4 := F2_4.chg hc1 notNil
 replace hB := hB.inS hc1 inNil
 replace G1 := Nat.le_trans hZ G1
 replace hZ := Nat.le_trans hZ hc1.size
 refine wS_box (d := 5) (T := 108) (x := .func (.func 80) #[] #[.pointer (some ⟨b2_0, 0, none⟩), .pointer (some ⟨b2_1, 0, none⟩), .pointer (some ⟨b2_2, 0, none⟩), .pointer (some ⟨b2_3, 0, none⟩), .pointer (some ⟨b2_4, 0, none⟩)]) (by kernel_rfl) ?_
 intro b2 w2 G2 F2 hc2
 replace F2 : Cl w2 b2 108 [.func (.func 80) #[] #[.pointer (some ⟨b2_0, 0, none⟩), .pointer (some ⟨b2_1, 0, none⟩), .pointer (some ⟨b2_2, 0, none⟩), .pointer (some ⟨b2_3, 0, none⟩), .pointer (some ⟨b2_4, 0, none⟩)]] := F2
 have D1 : Dj [b1] [b2] := Dj.of (lt1 F1.lt) (low1 G2)
 replace F0_0 := F0_0.chg hc2 Dj.nil
 replace F0_1 := F0_1.chg hc2 Dj.nil
 replace F2_0 := F2_0.chg hc2 notNil
 replace F2_1_0 := F2_1_0.chg hc2 Dj.nil
 replace F2_1_1 := F2_1_1.chg hc2 Dj.nil
 replace F2_1 := F2_1.chg hc2 notNil
 replace F2_2 := F2_2.chg hc2 notNil
 replace F2_3_0 := F2_3_0.chg hc2 Dj.nil
 replace F2_3 := F2_3.chg hc2 notNil
 replace F2_4 := F2_4.chg hc2 notNil
 replace F1 := F1.chg hc2 notNil
 replace hB := hB.inS hc2 inNil
 replace G2 := Nat.le_trans hZ G2
 replace hZ := Nat.le_trans hZ hc2.size
 refine wS_end (by rfl) ?_
 refine eX_then ?_
 refine cW_seq ?_
 refine cW_region ?_
 refine wS_bs0 (α := Int) (enc := encI) (d := 9) (t := 56) (T := 3) (by kernel_rfl) el56 ?_
 intro b3 w3 G3 F3 hc3
 have D2 : Dj [b1] [b3] := Dj.of (lt1 F1.lt) (low1 G3)
 have D3 : Dj [b2] [b3] := Dj.of (lt1 F2.lt) (low1 G3)
 replace F0_0 := F0_0.chg hc3 Dj.nil
 replace F0_1 := F0_1.chg hc3 Dj.nil
 replace F2_0 := F2_0.chg hc3 notNil
 replace F2_1_0 := F2_1_0.chg hc3 Dj.nil
 replace F2_1_1 := F2_1_1.chg hc3 Dj.nil
 replace F2_1 := F2_1.chg hc3 notNil
 replace F2_2 := F2_2.chg hc3 notNil
 replace F2_3_0 := F2_3_0.chg hc3 Dj.nil
 replace F2_3 := F2_3.chg hc3 notNil
 replace F2_4 := F2_4.chg hc3 notNil
 replace F1 := F1.chg hc3 notNil
 replace F2 := F2.chg hc3 notNil
 replace hB := hB.inS hc3 inNil
 replace G3 := Nat.le_trans hZ G3
 replace G3 := low1 G3
 replace hZ := Nat.le_trans hZ hc3.size
 refine wS_alloc (d := 6) (T := 56) (z := .slice none 0 0) (by kernel_rfl) (by kernel_rfl) ?_
 intro b4 w4 G4 F4 hc4
 replace F4 : Cl w4 b4 56 [.slice none 0 0] := F4
 have D4 : Dj [b1] [b4] := Dj.of (lt1 F1.lt) (low1 G4)
 have D5 : Dj [b2] [b4] := Dj.of (lt1 F2.lt) (low1 G4)
 have D6 : Dj [b3] [b4] := Dj.of F3.low (low1 G4)
 replace F0_0 := F0_0.chg hc4 Dj.nil
 replace F0_1 := F0_1.chg hc4 Dj.nil
 replace F2_0 := F2_0.chg hc4 notNil
 replace F2_1_0 := F2_1_0.chg hc4 Dj.nil
 replace F2_1_1 := F2_1_1.chg hc4 Dj.nil
 replace F2_1 := F2_1.chg hc4 notNil
 replace F2_2 := F2_2.chg hc4 notNil
 replace F2_3_0 := F2_3_0.chg hc4 Dj.nil
 replace F2_3 := F2_3.chg hc4 notNil
 replace F2_4 := F2_4.chg hc4 notNil
 replace F1 := F1.chg hc4 notNil
 replace F2 := F2.chg hc4 notNil
 replace F3 := F3.chg hc4 Dj.nil
 replace hB := hB.inS hc4 inNil
 replace G4 := Nat.le_trans hZ G4
 replace hZ := Nat.le_trans hZ hc4.size
 refine wS_store (T := 56) (g := b4) (o := 0) (ad := ⟨b4, 0, none⟩) (v := .slice (some ⟨b3, 0, none⟩) (([] : List (Int))).length 0) (vs := [.slice (some ⟨b3, 0, none⟩) (([] : List (Int))).length 0]) (by kernel_rfl) (by rfl) sz56 (by rfl) (by rfl) F4 (by simp only [List.length_cons, List.length_nil]; omega) ?_
 intro w5 F5 hc5
 replace F0_0 := F0_0.chg hc5 (Dj.of L0_0 (low1 G4))
 replace F0_1 := F0_1.chg hc5 (Dj.of L0_1 (low1 G4))
 replace F2_0 := F2_0.chg hc5 (dj1 (Dj.of L2_0 (low1 G4)))
 replace F2_1_0 := F2_1_0.chg hc5 (Dj.of L2_1_0 (low1 G4))
 replace F2_1_1 := F2_1_1.chg hc5 (Dj.of L2_1_1 (low1 G4))
 replace F2_1 := F2_1.chg hc5 (dj1 (Dj.of L2_1 (low1 G4)))
 replace F2_2 := F2_2.chg hc5 (dj1 (Dj.of L2_2 (low1 G4)))
 replace F2_3_0 := F2_3_0.chg hc5 (Dj.of L2_3_0 (low1 G4))
 replace F2_3 := F2_3.chg hc5 (dj1 (Dj.of L2_3 (low1 G4)))
 replace F2_4 := F2_4.chg hc5 (dj1 (Dj.of L2_4 (low1 G4)))
 replace F1 := F1.chg hc5 (dj1 D4)
 replace F2 := F2.chg hc5 (dj1 D5)
 replace F3 := F3.chg hc5 D6
 replace hB := hB.inS hc5 (inLow (low1 G4))
 replace hZ := Nat.le_trans hZ hc5.size
 replace F5 : Cl w5 b4 56 [.slice (some ⟨b3, 0, none⟩) (([] : List (Int))).length 0] := F5
 clear F4
 refine wS_end (by rfl) ?_
 refine eX_then ?_
 refine cW_seq ?_
 refine cW_seq ?_
 refine cW_region ?_
 refine wS_pure 1 [(10, .pointer (some ⟨b1, 0, none⟩))] (by kernel_rfl) ?_
 refine wS_load1 (d := 11) (T := 56) (ad := ⟨b1, 0, none⟩) (v := .slice A0_0 (l0_0).length cap0_0) (by kernel_rfl) vt56 ((F1).cell 0) ?_
 refine wS_pure 2 [(13, .int .i64 (0)), (12, .int .i64 (((l0_0).length : Int)))] (by kernel_rfl) ?_
 refine wS_end (by rfl) ?_
 refine eX_then ?_
 obtain ⟨r1, hr1, hm⟩ := bindE hm
 have hm1 := hm
 refine cW_cut (fun a' w' => ∃ l1 : List (Int), ∃ A1 : Option Addr, ∃ cap1 : Nat, ∃ fp1 : List Nat, l1 = r1 ∧ Fr 39 [(3, .pointer (some ⟨b1, 0, none⟩)), (5, .pointer (some ⟨b2, 0, none⟩)), (6, .pointer (some ⟨b4, 0, none⟩))] a' ∧ Sl 1 encI w' fp0_0 A0_0 l0_0 ∧ Sl 1 encI w' fp0_1 A0_1 l0_1 ∧ Cl w' b2_0 3 [.int .i64 (q2_0_0)] ∧ Sl 1 encI w' fp2_1_0 A2_1_0 l2_1_0 ∧ Sl 1 encI w' fp2_1_1 A2_1_1 l2_1_1 ∧ Cl w' b2_1 58 [.slice A2_1_0 (l2_1_0).length cap2_1_0, .slice A2_1_1 (l2_1_1).length cap2_1_1] ∧ Cl w' b2_2 3 [.int .i64 (q2_2_0)] ∧ Mp okI kI kI w' b2_3_0 l2_3_0 ∧ Cl w' b2_3 105 [.map (some b2_3_0)] ∧ Cl w' b2_4 3 [.int .i64 (q2_4_0)] ∧ Cl w' b1 58 [.slice A0_0 (l0_0).length cap0_0, .slice A0_1 (l0_1).length cap0_1] ∧ Cl w' b2 108 [.func (.func 80) #[] #[.pointer (some ⟨b2_0, 0, none⟩), .pointer (some ⟨b2_1, 0, none⟩), .pointer (some ⟨b2_2, 0, none⟩), .pointer (some ⟨b2_3, 0, none⟩), .pointer (some ⟨b2_4, 0, none⟩)]] ∧ Cl w' b4 56 [.slice A1 (l1).length cap1] ∧ Ow 1 encI 3 w' fp1 A1 cap1 l1 ∧ (∀ x ∈ fp1, w0.heap.size ≤ x) ∧ Dj [b1] fp1 ∧ Dj [b2] fp1 ∧ Dj [b4] fp1 ∧ Chg ([b2_0] ++ ([b2_3_0] ++ [])) w0 w' ∧ w0.heap.size ≤ w'.heap.size) ?_ ?_
 ·refine cW_block ?_
  refine cW_loop _ (fun (s1 : Int × (List (Int))) a' w' => ∃ x1 : Int, ∃ l3 : List (Int), ∃ A3 : Option Addr, ∃ cap3 : Nat, ∃ fp2 : List Nat, (x1, l3) = s1 ∧ Fr 39 [(1, .int .i64 (p1)), (3, .pointer (some ⟨b1, 0, none⟩)), (5, .pointer (some ⟨b2, 0, none⟩)), (6, .pointer (some ⟨b4, 0, none⟩)), (12, .int .i64 (((l0_0).length : Int))), (13, .int .i64 (x1))] a' ∧ Sl 1 encI w' fp0_0 A0_0 l0_0 ∧ Sl 1 encI w' fp0_1 A0_1 l0_1 ∧ Cl w' b2_0 3 [.int .i64 (q2_0_0)] ∧ Sl 1 encI w' fp2_1_0 A2_1_0 l2_1_0 ∧ Sl 1 encI w' fp2_1_1 A2_1_1 l2_1_1 ∧ Cl w' b2_1 58 [.slice A2_1_0 (l2_1_0).length cap2_1_0, .slice A2_1_1 (l2_1_1).length cap2_1_1] ∧ Cl w' b2_2 3 [.int .i64 (q2_2_0)] ∧ Mp okI kI kI w' b2_3_0 l2_3_0 ∧ Cl w' b2_3 105 [.map (some b2_3_0)] ∧ Cl w' b2_4 3 [.int .i64 (q2_4_0)] ∧ Cl w' b1 58 [.slice A0_0 (l0_0).length cap0_0, .slice A0_1 (l0_1).length cap0_1] ∧ Cl w' b2 108 [.func (.func 80) #[] #[.pointer (some ⟨b2_0, 0, none⟩), .pointer (some ⟨b2_1, 0, none⟩), .pointer (some ⟨b2_2, 0, none⟩), .pointer (some ⟨b2_3, 0, none⟩), .pointer (some ⟨b2_4, 0, none⟩)]] ∧ Cl w' b4 56 [.slice A3 (l3).length cap3] ∧ Ow 1 encI 3 w' fp2 A3 cap3 l3 ∧ (∀ x ∈ fp2, w0.heap.size ≤ x) ∧ Dj [b1] fp2 ∧ Dj [b2] fp2 ∧ Dj [b4] fp2 ∧ Chg ([b2_0] ++ ([b2_3_0] ++ [])) w0 w' ∧ w0.heap.size ≤ w'.heap.size) hr1 (fun hst => ⟨0, ([] : List (Int)), (some ⟨b3, 0, none⟩), 0, [b3], rfl, Fr.of hst (by kernel_rfl), F0_0, F0_1, F2_0, F2_1_0, F2_1_1, F2_1, F2_2, F2_3_0, F2_3, F2_4, F1, F2, F5, F3, G3, D2, D3, (D6).symm, hB, hZ⟩) ?_
  rintro _ c1 a' w6 ⟨x1, l3, A3, cap3, fp2, rfl, hF1, F6, F7, F8, F9, F10, F11, F12, F13, F14, F15, F16, F17, F18, F19, G5, D7, D8, D9, hB, hZ⟩ hx1
  refine Fr.goOn hF1 (by kernel_rfl) ?_
  have hm := hx1
  unfold m_impl_order_first_impl_order_best_1_bint_bimplorder_bint_bmapintint_bint_s1 at hm
  refine cW_seq ?_
  refine cW_region ?_
  refine wS_pure 1 [(14, .bool (decide (x1 < (((l0_0).length : Int)))))] (by kernel_rfl) ?_
  refine wS_end (by rfl) ?_
  refine eX_then ?_
  refine cW_seq ?_
  refine cW_cond (t := decide (x1 < (((l0_0).length : Int)))) (by kernel_rfl) (fun hb1 => ?_) (fun hb1 => ?_)
  ·have hm := condT hb1 hm
   refine cW_skip ?_
   refine eX_then ?_
   refine cW_seq ?_
   refine cW_block ?_
   obtain ⟨s2, hs1, hm⟩ := bindE hm
   refine cW_cut (fun a' w' => ∃ l4 : List (Int), ∃ A4 : Option Addr, ∃ cap4 : Nat, ∃ fp3 : List Nat, l4 = s2 ∧ Fr 39 [(1, .int .i64 (p1)), (3, .pointer (some ⟨b1, 0, none⟩)), (5, .pointer (some ⟨b2, 0, none⟩)), (6, .pointer (some ⟨b4, 0, none⟩)), (12, .int .i64 (((l0_0).length : Int))), (13, .int .i64 (x1))] a' ∧ Sl 1 encI w' fp0_0 A0_0 l0_0 ∧ Sl 1 encI w' fp0_1 A0_1 l0_1 ∧ Cl w' b2_0 3 [.int .i64 (q2_0_0)] ∧ Sl 1 encI w' fp2_1_0 A2_1_0 l2_1_0 ∧ Sl 1 encI w' fp2_1_1 A2_1_1 l2_1_1 ∧ Cl w' b2_1 58 [.slice A2_1_0 (l2_1_0).length cap2_1_0, .slice A2_1_1 (l2_1_1).length cap2_1_1] ∧ Cl w' b2_2 3 [.int .i64 (q2_2_0)] ∧ Mp okI kI kI w' b2_3_0 l2_3_0 ∧ Cl w' b2_3 105 [.map (some b2_3_0)] ∧ Cl w' b2_4 3 [.int .i64 (q2_4_0)] ∧ Cl w' b1 58 [.slice A0_0 (l0_0).length cap0_0, .slice A0_1 (l0_1).length cap0_1] ∧ Cl w' b2 108 [.func (.func 80) #[] #[.pointer (some ⟨b2_0, 0, none⟩), .pointer (some ⟨b2_1, 0, none⟩), .pointer (some ⟨b2_2, 0, none⟩), .pointer (some ⟨b2_3, 0, none⟩), .pointer (some ⟨b2_4, 0, none⟩)]] ∧ Cl w' b4 56 [.slice A4 (l4).length cap4] ∧ Ow 1 encI 3 w' fp3 A4 cap4 l4 ∧ (∀ x ∈ fp3, w0.heap.size ≤ x) ∧ Dj [b1] fp3 ∧ Dj [b2] fp3 ∧ Dj [b4] fp3 ∧ Chg ([b2_0] ++ ([b2_3_0] ++ [])) w0 w' ∧ w0.heap.size ≤ w'.heap.size) ?_ ?_
   ·have hm := hs1
    refine cW_seq ?_
    refine cW_region ?_
    refine wS_pure 2 [(7, .int .i64 (x1)), (15, .int .i64 (x1))] (by kernel_rfl) ?_
    refine wS_end (by rfl) ?_
    refine eX_then ?_
    refine cW_seq ?_
    refine cW_region ?_
    refine wS_pure 2 [(17, .int .i64 (x1)), (16, .int .i64 (p1))] (by kernel_rfl) ?_
    obtain ⟨u1, hu1, hm⟩ := bindE hm
    refine wS_shr (d := 18) (x := p1) (y := x1) (yk := .i64) (by kernel_rfl) (p0E hu1) ?_
    refine wS_pure 3 [(21, .bool ((andI (shrI p1 x1) 1) == 1)), (20, .bool ((andI (shrI p1 x1) 1) == 1)), (19, .int .i64 (andI (shrI p1 x1) 1))] (by kernel_rfl) ?_
    refine wS_bool ((andI (shrI p1 x1) 1) == 1) (fun hb2 => ?_) (fun hb2 => ?_)
    ·have hm := condT hb2 hm
     rewrite [hb2]
     refine wS_pure 1 [(22, .pointer (some ⟨b1, 1, none⟩))] (by kernel_rfl) ?_
     refine wS_load1 (d := 23) (T := 56) (ad := ⟨b1, 1, none⟩) (v := .slice A0_1 (l0_1).length cap0_1) (by kernel_rfl) vt56 ((F16).cell 1) ?_
     refine wS_pure 1 [(24, .int .i64 (x1))] (by kernel_rfl) ?_
     obtain ⟨x2, hx2, hm⟩ := bindE hm
     refine wS_idx (d := 25) (T := 56) (A := A0_1) (n := (l0_1).length) (cap := cap0_1) (kd := .i64) (m := x1) (by kernel_rfl) sl56 (F7.is hx2) ?_
     refine wS_load1 (d := 26) (T := 3) (ad := (elA A0_1 1 (x1) 0)) (v := .int .i64 (x2)) (by kernel_rfl) vt3 (Sl.cell F7 hx2 0 (by rfl)) ?_
     refine wS_pure 4 [(30, .bool ((andI x2 p1) == 0)), (29, .bool ((andI x2 p1) == 0)), (28, .int .i64 (andI x2 p1)), (27, .int .i64 (p1))] (by kernel_rfl) ?_
     refine wS_end (by rfl) ?_
     refine eX_then ?_
     refine cW_prune [(1, .int .i64 (p1)), (3, .pointer (some ⟨b1, 0, none⟩)), (5, .pointer (some ⟨b2, 0, none⟩)), (6, .pointer (some ⟨b4, 0, none⟩)), (7, .int .i64 (x1)), (12, .int .i64 (((l0_0).length : Int))), (13, .int .i64 (x1)), (30, .bool ((andI x2 p1) == 0))] (by kernel_rfl) (by kernel_rfl) (fun a1 => ?_)
     refine cW_cond (t := (andI x2 p1) == 0) (by kernel_rfl) (fun hb3 => ?_) (fun hb3 => ?_)
     ·have hm := condT hb3 hm
      refine cW_region ?_
      refine wS_load1 (d := 31) (T := 56) (ad := ⟨b4, 0, none⟩) (v := .slice A3 (l3).length cap3) (by kernel_rfl) vt56 ((F18).cell 0) ?_
      refine wS_pure 1 [(32, .int .i64 (x1))] (by kernel_rfl) ?_
      refine wS_bs (enc := encI) ([x1] : List (Int)) [.int .i64 (x1)] (d := 33) (t := 56) (T := 3) (n := 1) (ps := [(0, .int .i64 (x1))]) (by kernel_rfl) el56 encI_ok (by rfl) (by omega) (by omega) (by kernel_rfl) (by rfl) ?_
      intro b5 w7 G6 F20 hc6
      have D10 : Dj [b1] [b5] := Dj.of (lt1 F16.lt) (low1 G6)
      have D11 : Dj [b2] [b5] := Dj.of (lt1 F17.lt) (low1 G6)
      have D12 : Dj [b4] [b5] := Dj.of (lt1 F18.lt) (low1 G6)
      have D13 : Dj fp2 [b5] := Dj.of F19.low (low1 G6)
      replace F6 := F6.chg hc6 Dj.nil
      replace F7 := F7.chg hc6 Dj.nil
      replace F8 := F8.chg hc6 notNil
      replace F9 := F9.chg hc6 Dj.nil
      replace F10 := F10.chg hc6 Dj.nil
      replace F11 := F11.chg hc6 notNil
      replace F12 := F12.chg hc6 notNil
      replace F13 := F13.chg hc6 Dj.nil
      replace F14 := F14.chg hc6 notNil
      replace F15 := F15.chg hc6 notNil
      replace F16 := F16.chg hc6 notNil
      replace F17 := F17.chg hc6 notNil
      replace F18 := F18.chg hc6 notNil
      replace F19 := F19.chg hc6 Dj.nil
      replace hB := hB.inS hc6 inNil
      replace G6 := Nat.le_trans hZ G6
      replace G6 := low1 G6
      replace hZ := Nat.le_trans hZ hc6.size
      obtain ⟨_, hk1, hm⟩ := bindE hm
      replace hk1 := apE hk1
      refine wS_append (enc := encI) (l := (l3 : List (Int))) (l2 := (([x1] : List (Int)) : List (Int))) (d := 34) (t := 56) (T := 3) (A := A3) (A2 := (some ⟨b5, 0, none⟩)) (cap := cap3) (cap2 := 1) (by kernel_rfl) el56 encI_ok F19 (F20.sl encI_ok) (by rfl) hk1 ?_
      intro w8 fp4 A5 cap5 F21 hc7 hp1
      have G7 := low_ap G5 hZ hp1
      have D14 : Dj [b1] fp4 := Dj.ap D7 (lt1 F16.lt) hp1
      have D15 : Dj [b2] fp4 := Dj.ap D8 (lt1 F17.lt) hp1
      have D16 : Dj [b4] fp4 := Dj.ap D9 (lt1 F18.lt) hp1
      have D17 : Dj [b5] fp4 := Dj.ap (D13).symm F20.low hp1
      replace F6 := F6.chg hc7 (Dj.of L0_0 G5)
      replace F7 := F7.chg hc7 (Dj.of L0_1 G5)
      replace F8 := F8.chg hc7 (dj1 (Dj.of L2_0 G5))
      replace F9 := F9.chg hc7 (Dj.of L2_1_0 G5)
      replace F10 := F10.chg hc7 (Dj.of L2_1_1 G5)
      replace F11 := F11.chg hc7 (dj1 (Dj.of L2_1 G5))
      replace F12 := F12.chg hc7 (dj1 (Dj.of L2_2 G5))
      replace F13 := F13.chg hc7 (Dj.of L2_3_0 G5)
      replace F14 := F14.chg hc7 (dj1 (Dj.of L2_3 G5))
      replace F15 := F15.chg hc7 (dj1 (Dj.of L2_4 G5))
      replace F16 := F16.chg hc7 (dj1 D7)
      replace F17 := F17.chg hc7 (dj1 D8)
      replace F18 := F18.chg hc7 (dj1 D9)
      replace F20 := F20.chg hc7 (D13).symm
      replace hB := hB.inS hc7 (inLow G5)
      replace hZ := Nat.le_trans hZ hc7.size
      refine wS_store (T := 56) (g := b4) (o := 0) (ad := ⟨b4, 0, none⟩) (v := .slice A5 (l3 ++ (([x1] : List (Int)))).length cap5) (vs := [.slice A5 (l3 ++ (([x1] : List (Int)))).length cap5]) (by kernel_rfl) (by rfl) sz56 (by rfl) (by rfl) F18 (by simp only [List.length_cons, List.length_nil]; omega) ?_
      intro w9 F22 hc8
      replace F6 := F6.chg hc8 (Dj.of L0_0 (low1 G4))
      replace F7 := F7.chg hc8 (Dj.of L0_1 (low1 G4))
      replace F8 := F8.chg hc8 (dj1 (Dj.of L2_0 (low1 G4)))
      replace F9 := F9.chg hc8 (Dj.of L2_1_0 (low1 G4))
      replace F10 := F10.chg hc8 (Dj.of L2_1_1 (low1 G4))
      replace F11 := F11.chg hc8 (dj1 (Dj.of L2_1 (low1 G4)))
      replace F12 := F12.chg hc8 (dj1 (Dj.of L2_2 (low1 G4)))
      replace F13 := F13.chg hc8 (Dj.of L2_3_0 (low1 G4))
      replace F14 := F14.chg hc8 (dj1 (Dj.of L2_3 (low1 G4)))
      replace F15 := F15.chg hc8 (dj1 (Dj.of L2_4 (low1 G4)))
      replace F16 := F16.chg hc8 (dj1 D4)
      replace F17 := F17.chg hc8 (dj1 D5)
      replace F20 := F20.chg hc8 (D12).symm
      replace F21 := F21.chg hc8 (D16).symm
      replace hB := hB.inS hc8 (inLow (low1 G4))
      replace hZ := Nat.le_trans hZ hc8.size
      replace F22 : Cl w9 b4 56 [.slice A5 (l3 ++ (([x1] : List (Int)))).length cap5] := F22
      clear F18
      refine wS_end (by rfl) ?_
      have hq : (some (l3 ++ (([x1] : List (Int)))) : Option ((List (Int)))) = some _ := hm
      replace hq := someE hq
      subst hq
      exact eX_J (fun hst => ⟨l3 ++ (([x1] : List (Int))), A5, cap5, fp4, rfl, Fr.of hst (by kernel_rfl), F6, F7, F8, F9, F10, F11, F12, F13, F14, F15, F16, F17, F22, F21, G7, D14, D15, D16, hB, hZ⟩)
     ·have hm := condF hb3 hm
      refine cW_skip ?_
      have hq : (some l3 : Option ((List (Int)))) = some _ := hm
      replace hq := someE hq
      subst hq
      exact eX_J (fun hst => ⟨l3, A3, cap3, fp2, rfl, Fr.of hst (by kernel_rfl), F6, F7, F8, F9, F10, F11, F12, F13, F14, F15, F16, F17, F18, F19, G5, D7, D8, D9, hB, hZ⟩)
    ·have hm := condF hb2 hm
     rewrite [hb2]
     refine wS_pure 9 [(30, .bool (false)), (29, undef), (28, undef), (27, undef), (26, undef), (25, undef), (24, undef), (23, undef), (22, undef)] (by kernel_rfl) ?_
     refine wS_end (by rfl) ?_
     refine eX_then ?_
     refine cW_prune [(1, .int .i64 (p1)), (3, .pointer (some ⟨b1, 0, none⟩)), (5, .pointer (some ⟨b2, 0, none⟩)), (6, .pointer (some ⟨b4, 0, none⟩)), (7, .int .i64 (x1)), (12, .int .i64 (((l0_0).length : Int))), (13, .int .i64 (x1)), (30, .bool (false))] (by kernel_rfl) (by kernel_rfl) (fun a2 => ?_)
     refine cW_cond_f (by kernel_rfl) ?_
     refine cW_skip ?_
     have hq : (some l3 : Option ((List (Int)))) = some _ := hm
     replace hq := someE hq
     subst hq
     exact eX_J (fun hst => ⟨l3, A3, cap3, fp2, rfl, Fr.of hst (by kernel_rfl), F6, F7, F8, F9, F10, F11, F12, F13, F14, F15, F16, F17, F18, F19, G5, D7, D8, D9, hB, hZ⟩)
   ·rintro a' w10 ⟨l4, A4, cap4, fp3, hJ, hF2, F23, F24, F25, F26, F27, F28, F29, F30, F31, F32, F33, F34, F35, F36, G8, D18, D19, D20, hB, hZ⟩
    subst hJ
    refine Fr.goX hF2 (by kernel_rfl) ?_
    refine eX_block ?_
    refine eX_then ?_
    refine cW_region ?_
    refine wS_pure 2 [(13, .int .i64 (wr (x1 + 1))), (35, .int .i64 (wr (x1 + 1)))] (by kernel_rfl) ?_
    refine wS_end (by rfl) ?_
    have hq : (some (Ctl.next ((wr (x1 + 1), l4))) : Option (Ctl (Int × (List (Int))) ((List (Int))))) = some _ := hm
    replace hq := someE hq
    subst hq
    exact eX_next hx1 (fun hst => ⟨wr (x1 + 1), l4, A4, cap4, fp3, rfl, Fr.of hst (by kernel_rfl), F23, F24, F25, F26, F27, F28, F29, F30, F31, F32, F33, F34, F35, F36, G8, D18, D19, D20, hB, hZ⟩)
  ·have hm := condF hb1 hm
   refine cW_exit ?_
   refine eX_then_exit ?_
   have hq : (some (Ctl.out l3) : Option (Ctl (Int × (List (Int))) ((List (Int))))) = some _ := hm
   replace hq := someE hq
   subst hq
   refine eX_outX hx1 (fun hr2 => ?_)
   replace hr2 := hr2.symm
   subst hr2
   refine eX_block_hit ?_
   exact eX_J (fun hst => ⟨l3, A3, cap3, fp2, rfl, Fr.of hst (by kernel_rfl), F6, F7, F8, F9, F10, F11, F12, F13, F14, F15, F16, F17, F18, F19, G5, D7, D8, D9, hB, hZ⟩)
 ·rintro a' w11 ⟨l1, A1, cap1, fp1, hJ, hF3, F37, F38, F39, F40, F41, F42, F43, F44, F45, F46, F47, F48, F49, F50, G9, D21, D22, D23, hB, hZ⟩
  subst hJ
  refine Fr.goX hF3 (by kernel_rfl) ?_
  refine eX_then ?_
  refine cW_seq ?_
  refine cW_region ?_
  refine wS_alloc (d := 8) (T := 127) (z := .nilFunc) (by kernel_rfl) (by kernel_rfl) ?_
  intro b6 w12 G10 F51 hc9
  replace F51 : Cl w12 b6 127 [.nilFunc] := F51
  have D24 : Dj [b1] [b6] := Dj.of (lt1 F47.lt) (low1 G10)
  have D25 : Dj [b2] [b6] := Dj.of (lt1 F48.lt) (low1 G10)
  have D26 : Dj [b4] [b6] := Dj.of (lt1 F49.lt) (low1 G10)
  have D27 : Dj fp1 [b6] := Dj.of F50.low (low1 G10)
  replace F37 := F37.chg hc9 Dj.nil
  replace F38 := F38.chg hc9 Dj.nil
  replace F39 := F39.chg hc9 notNil
  replace F40 := F40.chg hc9 Dj.nil
  replace F41 := F41.chg hc9 Dj.nil
  replace F42 := F42.chg hc9 notNil
  replace F43 := F43.chg hc9 notNil
  replace F44 := F44.chg hc9 Dj.nil
  replace F45 := F45.chg hc9 notNil
  replace F46 := F46.chg hc9 notNil
  replace F47 := F47.chg hc9 notNil
  replace F48 := F48.chg hc9 notNil
  replace F49 := F49.chg hc9 notNil
  replace F50 := F50.chg hc9 Dj.nil
  replace hB := hB.inS hc9 inNil
  replace G10 := Nat.le_trans hZ G10
  replace hZ := Nat.le_trans hZ hc9.size
  refine wS_end (by rfl) ?_
  refine eX_then ?_
  refine cW_seq ?_
  refine cW_region ?_
  refine wS_pure 1 [(36, .func (.func 103) #[] #[.pointer (some ⟨b2, 0, none⟩), .pointer (some ⟨b4, 0, none⟩), .pointer (some ⟨b1, 0, none⟩), .pointer (some ⟨b6, 0, none⟩)])] (by kernel_rfl) ?_
  refine wS_store (T := 127) (g := b6) (o := 0) (ad := ⟨b6, 0, none⟩) (v := .func (.func 103) #[] #[.pointer (some ⟨b2, 0, none⟩), .pointer (some ⟨b4, 0, none⟩), .pointer (some ⟨b1, 0, none⟩), .pointer (some ⟨b6, 0, none⟩)]) (vs := [.func (.func 103) #[] #[.pointer (some ⟨b2, 0, none⟩), .pointer (some ⟨b4, 0, none⟩), .pointer (some ⟨b1, 0, none⟩), .pointer (some ⟨b6, 0, none⟩)]]) (by kernel_rfl) (by rfl) sz127 (by rfl) (by rfl) F51 (by simp only [List.length_cons, List.length_nil]; omega) ?_
  intro w13 F52 hc10
  replace F37 := F37.chg hc10 (Dj.of L0_0 (low1 G10))
  replace F38 := F38.chg hc10 (Dj.of L0_1 (low1 G10))
  replace F39 := F39.chg hc10 (dj1 (Dj.of L2_0 (low1 G10)))
  replace F40 := F40.chg hc10 (Dj.of L2_1_0 (low1 G10))
  replace F41 := F41.chg hc10 (Dj.of L2_1_1 (low1 G10))
  replace F42 := F42.chg hc10 (dj1 (Dj.of L2_1 (low1 G10)))
  replace F43 := F43.chg hc10 (dj1 (Dj.of L2_2 (low1 G10)))
  replace F44 := F44.chg hc10 (Dj.of L2_3_0 (low1 G10))
  replace F45 := F45.chg hc10 (dj1 (Dj.of L2_3 (low1 G10)))
  replace F46 := F46.chg hc10 (dj1 (Dj.of L2_4 (low1 G10)))
  replace F47 := F47.chg hc10 (dj1 D24)
  replace F48 := F48.chg hc10 (dj1 D25)
  replace F49 := F49.chg hc10 (dj1 D26)
  replace F50 := F50.chg hc10 D27
  replace hB := hB.inS hc10 (inLow (low1 G10))
  replace hZ := Nat.le_trans hZ hc10.size
  replace F52 : Cl w13 b6 127 [.func (.func 103) #[] #[.pointer (some ⟨b2, 0, none⟩), .pointer (some ⟨b4, 0, none⟩), .pointer (some ⟨b1, 0, none⟩), .pointer (some ⟨b6, 0, none⟩)]] := F52
  clear F51
  refine wS_end (by rfl) ?_
  refine eX_then ?_
  refine cW_region ?_
  refine wS_load1 (d := 37) (T := 127) (ad := ⟨b6, 0, none⟩) (v := .func (.func 103) #[] #[.pointer (some ⟨b2, 0, none⟩), .pointer (some ⟨b4, 0, none⟩), .pointer (some ⟨b1, 0, none⟩), .pointer (some ⟨b6, 0, none⟩)]) (by kernel_rfl) vt127 ((F52).cell 0) ?_
  obtain ⟨y1, hy1, hm⟩ := bindE hm
  refine wS_calls (d := 38) (f := 103) (vs := [.int .i64 (0), .int .i64 (0), .pointer (some ⟨b2, 0, none⟩), .pointer (some ⟨b4, 0, none⟩), .pointer (some ⟨b1, 0, none⟩), .pointer (some ⟨b6, 0, none⟩)]) (by kernel_rfl) ent103 (c_impl_order_first_1_bfuncint_impl_order_best_1_bint_bimplorder_bint_bmapintint_bint_bint_bimplorder_bfuncintint_self 64 hy1 F39 F40 F41 F42 F43 F44 F45 F46 F48 (F50.sl encI_ok) F49 F37 F38 F47 F52 J2_0__2_1_0 J2_0__2_1_1 J2_0__2_1 J2_0__2_2 J2_0__2_3_0 J2_0__2_3 J2_0__2_4 (Dj.of L2_0 (low1 G2)) (Dj.of L2_0 G9) (Dj.of L2_0 (low1 G4)) J2_0__0_0 J2_0__0_1 (Dj.of L2_0 (low1 G1)) (Dj.of L2_0 (low1 G10)) J2_3_0__2_1_0 J2_3_0__2_1_1 J2_3_0__2_1 J2_3_0__2_2 J2_3_0__2_3 J2_3_0__2_4 (Dj.of L2_3_0 (low1 G2)) (Dj.of L2_3_0 G9) (Dj.of L2_3_0 (low1 G4)) J2_3_0__0_0 J2_3_0__0_1 (Dj.of L2_3_0 (low1 G1)) (Dj.of L2_3_0 (low1 G10))) ?_
  rintro _ w14 ⟨rfl, F53, F54, hc11⟩
  replace F37 := F37.chg hc11 (Dj.app (J2_0__0_0).symm (Dj.app (J2_3_0__0_0).symm Dj.nil))
  replace F38 := F38.chg hc11 (Dj.app (J2_0__0_1).symm (Dj.app (J2_3_0__0_1).symm Dj.nil))
  replace F40 := F40.chg hc11 (Dj.app (J2_0__2_1_0).symm (Dj.app (J2_3_0__2_1_0).symm Dj.nil))
  replace F41 := F41.chg hc11 (Dj.app (J2_0__2_1_1).symm (Dj.app (J2_3_0__2_1_1).symm Dj.nil))
  replace F42 := F42.chg hc11 (dj1 (Dj.app (J2_0__2_1).symm (Dj.app (J2_3_0__2_1).symm Dj.nil)))
  replace F43 := F43.chg hc11 (dj1 (Dj.app (J2_0__2_2).symm (Dj.app (J2_3_0__2_2).symm Dj.nil)))
  replace F45 := F45.chg hc11 (dj1 (Dj.app (J2_0__2_3).symm (Dj.app (J2_3_0__2_3).symm Dj.nil)))
  replace F46 := F46.chg hc11 (dj1 (Dj.app (J2_0__2_4).symm (Dj.app (J2_3_0__2_4).symm Dj.nil)))
  replace F47 := F47.chg hc11 (dj1 (Dj.app (Dj.of L2_0 (low1 G1)).symm (Dj.app (Dj.of L2_3_0 (low1 G1)).symm Dj.nil)))
  replace F48 := F48.chg hc11 (dj1 (Dj.app (Dj.of L2_0 (low1 G2)).symm (Dj.app (Dj.of L2_3_0 (low1 G2)).symm Dj.nil)))
  replace F49 := F49.chg hc11 (dj1 (Dj.app (Dj.of L2_0 (low1 G4)).symm (Dj.app (Dj.of L2_3_0 (low1 G4)).symm Dj.nil)))
  replace F50 := F50.chg hc11 (Dj.app (Dj.of L2_0 G9).symm (Dj.app (Dj.of L2_3_0 G9).symm Dj.nil))
  replace F52 := F52.chg hc11 (dj1 (Dj.app (Dj.of L2_0 (low1 G10)).symm (Dj.app (Dj.of L2_3_0 (low1 G10)).symm Dj.nil)))
  replace hB := hB.inS hc11 (inApp (inMem (fun x hx => (List.mem_append_left _ hx))) (inApp (inMem (fun x hx => (List.mem_append_right _ (List.mem_append_left _ hx)))) inNil))
  replace hZ := Nat.le_trans hZ hc11.size
  clear F39
  clear F44
  refine ⟨.tuple #[], rfl, ?_⟩
  refine wS_end (by rfl) ?_
  have hq : (some ((y1.1, y1.2)) : Option ((Int) × (List (Int × Int)))) = some _ := hm
  replace hq := someE hq
  subst hq
  refine eX_fall (vs := []) [] (by rfl) trivial ?_
  exact ⟨rfl, F53, F54, hB⟩

end Go.Proofs.YtbfjekmefcpkmaaDoor
